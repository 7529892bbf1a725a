/- The tables of expressions as plain functions. No program in sight. -/
import Init
namespace Go.Proofs.Ytmlldjcbijoheaa.AstP
def pointShape (k : Int) : ByteArray × ByteArray :=
  if k = 10 then (⟨#[109, 105, 100, 112, 111, 105, 110, 116]⟩, ⟨#[80, 80]⟩) else
  if k = 11 then (⟨#[100, 105, 118, 105, 100, 101]⟩, ⟨#[80, 80]⟩) else
  if k = 12 then (⟨#[114, 101, 102, 108, 101, 99, 116]⟩, ⟨#[80, 80]⟩) else
  if k = 13 then (⟨#[109, 105, 114, 114, 111, 114]⟩, ⟨#[80, 76]⟩) else
  if k = 14 then (⟨#[102, 111, 111, 116]⟩, ⟨#[80, 76]⟩) else
  if k = 15 then (⟨#[109, 101, 101, 116]⟩, ⟨#[76, 76]⟩) else
  if k = 16 then (⟨#[111, 110]⟩, ⟨#[42]⟩) else
  if k = 17 then (⟨#[111, 116, 104, 101, 114]⟩, ⟨#[80, 80, 80]⟩) else
  if k = 18 then (⟨#[99, 111, 109, 109, 111, 110]⟩, ⟨#[80, 80, 80]⟩) else
  if k = 19 then (⟨#[99, 101, 110, 116, 101, 114]⟩, ⟨#[80, 80, 80]⟩) else
  if k = 20 then (⟨#[115, 104, 105, 102, 116]⟩, ⟨#[80, 80, 80]⟩) else
  if k = 21 then (⟨#[116, 117, 114, 110]⟩, ⟨#[80, 80]⟩) else
  if k = 22 then (⟨#[99, 117, 116]⟩, ⟨#[76, 67]⟩) else
  if k = 23 then (⟨#[99, 114, 111, 115, 115]⟩, ⟨#[67, 67]⟩) else
  (⟨#[97, 112, 101, 120]⟩, ⟨#[80, 80]⟩)
def goalShape (k : Int) : ByteArray × ByteArray :=
  if k = 60 then (⟨#[99, 111, 108, 108, 105, 110, 101, 97, 114]⟩, ⟨#[80, 80, 80]⟩) else
  if k = 61 then (⟨#[112, 97, 114, 97, 108, 108, 101, 108]⟩, ⟨#[76, 76]⟩) else
  if k = 62 then (⟨#[112, 101, 114, 112, 101, 110, 100, 105, 99, 117, 108, 97, 114]⟩, ⟨#[76, 76]⟩) else
  if k = 63 then (⟨#[99, 111, 110, 103, 114, 117, 101, 110, 116]⟩, ⟨#[80, 80, 80, 80]⟩) else
  if k = 64 then (⟨#[109, 105, 100, 112, 111, 105, 110, 116]⟩, ⟨#[80, 80, 80]⟩) else
  if k = 65 then (⟨#[99, 111, 110, 99, 121, 99, 108, 105, 99]⟩, ⟨#[80, 80, 80, 80]⟩) else
  if k = 66 then (⟨#[97, 110, 103, 108, 101]⟩, ⟨#[80, 80, 80, 80, 80, 80]⟩) else
  if k = 67 then (⟨#[115, 97, 109, 101]⟩, ⟨#[80, 80]⟩) else
  (⟨#[114, 97, 116, 105, 111]⟩, ⟨#[80, 80, 80, 80]⟩)
def lineShape (k : Int) : ByteArray × ByteArray :=
  if k = 40 then (⟨#[108, 105, 110, 101]⟩, ⟨#[80, 80]⟩) else
  if k = 41 then (⟨#[112, 97, 114, 97, 108, 108, 101, 108]⟩, ⟨#[80, 76]⟩) else
  if k = 42 then (⟨#[112, 101, 114, 112, 101, 110, 100, 105, 99, 117, 108, 97, 114]⟩, ⟨#[80, 76]⟩) else
  if k = 43 then (⟨#[98, 105, 115, 101, 99, 116, 111, 114]⟩, ⟨#[80, 80]⟩) else
  if k = 50 then (⟨#[99, 105, 114, 99, 108, 101]⟩, ⟨#[80, 80]⟩) else
  if k = 51 then (⟨#[99, 105, 114, 99, 117, 109]⟩, ⟨#[80, 80, 80]⟩) else
  (⟨#[]⟩, ⟨#[]⟩)
def sort (k : Int) : Int :=
  if 10 ≤ k ∧ k ≤ 24 then 1 else if 40 ≤ k ∧ k ≤ 43 then 2 else if 50 ≤ k ∧ k ≤ 51 then 3 else if 60 ≤ k ∧ k ≤ 68 then 4 else 0
def shape (k : Int) : ByteArray × ByteArray :=
  if sort k = 1 then pointShape k else if sort k = 4 then goalShape k else lineShape k
def word (k : Int) : ByteArray := (shape k).1
def letters (k : Int) : ByteArray := (shape k).2
/-- the least kind from k on, in so many steps, with a word -/
def kindFrom (s : ByteArray) : Nat → Int → Int
  | 0, _ => 0
  | n + 1, k => if word k = s then k else kindFrom s n (k + 1)
def kind (s : ByteArray) : Int := if s = ⟨#[]⟩ then 0 else kindFrom s 68 1
end Go.Proofs.Ytmlldjcbijoheaa.AstP
