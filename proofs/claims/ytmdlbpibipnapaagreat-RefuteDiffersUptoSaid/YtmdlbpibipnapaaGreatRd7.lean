/- Walks: rational numbers by the reference: Neg. -/
import Derived.Test.YtmdlbpibipnapaaGreatRd6
import Derived.Test.YtmdlbpibipnapaaGreatRd2
import Derived.Deep.CutRange
import Derived.Test.YtmdlbpibipnapaaGreatProg
import Derived.Ground.NamesProg
import Derived.Shelf.Lays
import Derived.Shelf.Small.Bits
import Derived.Test.YtmdlbpibipnapaaGreatRd5
import Derived.Test.YtmdlbpibipnapaaGreatRd1
set_option linter.all false
set_option maxRecDepth 100000
set_option maxHeartbeats 4000000
namespace Go.Proofs.YtmdlbpibipnapaaGreat
open Go.RowKit
def RetZ (neg:Bool) (n:Nat) (w:World) (e:Ending) (w':World):Prop:=∃ a c,e=.returned (.agg #[.bool neg,.slice a (limbs n).length c])/\(∀ V,New w.heap.size w' V->NatR V a c (limbs n))/\Below w.heap.size w w'
theorem qlz (n:Nat):decide (0<(limbs n).length)=decide (0<n):=by
 have:=qat (n:=n);rw [decide_eq_decide]
 omega
section
variable {w V : World} {g B B' : Nat} {t : TypeId} {x y z u v r : Value}
theorem back2 (h:New B ((w.setCell ⟨g,0,none⟩ x).setCell ⟨g,1,none⟩ y) V) (hB:B<=B') (hg:g<B'):New B' w V:=((h.base hB).unset hg).unset hg
theorem back3 (h:New B (((w.setCell ⟨g,0,none⟩ x).setCell ⟨g,1,none⟩ y).setCell ⟨g,2,none⟩ z) V) (hB:B<=B') (hg:g<B'):New B' w V:=(((h.base hB).unset hg).unset hg).unset hg
theorem blk2 (h:Blk w g t #[u,v]):Blk ((w.setCell ⟨g,0,none⟩ x).setCell ⟨g,1,none⟩ y) g t #[x,y]:=by have:=(h.set_ 0 x).set_ 1 y;simpa using this
theorem blk3 (h:Blk w g t #[u,v,r]):Blk (((w.setCell ⟨g,0,none⟩ x).setCell ⟨g,1,none⟩ y).setCell ⟨g,2,none⟩ z) g t #[x,y,z]:=by have:=((h.set_ 0 x).set_ 1 y).set_ 2 z;simpa using this
theorem qbt {w0:World} (h:Below B w0 w) (hg:B<=g):Below B w0 ((w.setCell ⟨g,0,none⟩ x).setCell ⟨g,1,none⟩ y):=(h.setCell (p:=⟨g,0,none⟩) hg x).setCell (p:=⟨g,1,none⟩) hg y
theorem qbu {w0:World} (h:Below B w0 w) (hg:B<=g):Below B w0 (((w.setCell ⟨g,0,none⟩ x).setCell ⟨g,1,none⟩ y).setCell ⟨g,2,none⟩ z):=((h.setCell (p:=⟨g,0,none⟩) hg x).setCell (p:=⟨g,1,none⟩) hg y).setCell (p:=⟨g,2,none⟩) hg z
end
theorem zz14 {P:Prop} (h:P:=by
 exact ⟨a1,c1,rfl,fun V hV=>HV.out V (back2 hV hs0 hgl),qbt hw1 (nlr _)⟩
 ):P:=h
theorem qzp (neg:Bool) (l:List Int) (n:Nat) (a:Option Addr) (c:Nat) (w:World) (h:NatR w a c l) (hn:val l=n) (hl:l.length<=16777216) :
  Calls Tryz.prog 79 #[.bool neg,.slice a l.length c] w (RetZ (neg&&decide (0<n)) n w):=by
 have CN:=fun W (hW:bw w W)=>qdr l a c W (h.ext (xbw hW)) hl
 rw [hn] at CN;replace CN:=Hd CN;have hd:=qlz n;obtain ⟨b,hb⟩:=nm (decide (0<n))
 rw [hb] at hd ⊢;have hz:Blk (w.alloc (.cells #[.bool false,.slice none 0 0] 30)) w.heap.size 30 #[.bool false,.slice none 0 0]:=Blk.new w _ _;have hb0:Below w.heap.size w (w.alloc (.cells #[.bool false,.slice none 0 0] 30)):=brf.alloc (nlr _) _;clear h hb
 cases neg
 ·
  rw [Bool.false_and];go_enter Tryz.func79,Tryz.ntmps79;go_wp2_with fail;have hgl:=hz.lt;revert hz hb0 hgl;generalize w.alloc (.cells #[.bool false,.slice none 0 0] 30)=w0;intro hz hb0 hgl;refine (CN.out _ hb0).mono ?_;rintro e w1 ⟨a1,c1,rfl,hV,hb1⟩;have hw1:=bth hb0 hb1;have HV:=Hd hV;have hz1:=hz.below' hb1;obtain ⟨z0,z1⟩:=cq2 hz1;obtain ⟨f0,f1⟩:=fq2 hz1;have hs0:=hb0.size;clear hV hb0 hz;go_wp2;have hF:=blk2 (x:=.bool false) (y:=.slice a1 (limbs n).length c1) hz1;obtain ⟨e0,e1⟩:=cq2 hF;refine bodyPost_ret (v:=.agg #[.bool false,.slice a1 (limbs n).length c1]) (by simp [results,Tryz.results79,go_sem,e0,e1]) rfl ?_;exact zz14
 ·
  rw [Bool.true_and];go_enter Tryz.func79,Tryz.ntmps79;go_wp2_with fail;have hgl:=hz.lt;revert hz hb0 hgl;generalize w.alloc (.cells #[.bool false,.slice none 0 0] 30)=w0;intro hz hb0 hgl;refine (CN.out _ hb0).mono ?_;rintro e w1 ⟨a1,c1,rfl,hV,hb1⟩;have hw1:=bth hb0 hb1;have HV:=Hd hV;have hz1:=hz.below' hb1;obtain ⟨z0,z1⟩:=cq2 hz1;obtain ⟨f0,f1⟩:=fq2 hz1;have hs0:=hb0.size;clear hV hb0 hz;go_wp2;have hF:=blk2 (x:=.bool b) (y:=.slice a1 (limbs n).length c1) hz1;obtain ⟨e0,e1⟩:=cq2 hF;refine bodyPost_ret (v:=.agg #[.bool b,.slice a1 (limbs n).length c1]) (by simp [results,Tryz.results79,go_sem,e0,e1]) rfl ?_;exact zz14
theorem qei (neg:Bool) (l:List Int) (n:Nat) (a:Option Addr) (c:Nat) (w:World) (h:NatR w a c l) (hn:val l=n) (hl:l.length<=16777216) :
  Calls Tryz.prog 42 #[.bool neg,.slice a l.length c] w (RetZ (neg&&decide (0<n)) n w):=by
 have CN:=fun W (hW:bw w W)=>qbk l a c W (h.ext (xbw hW)) hl
 rw [hn] at CN;replace CN:=Hd CN;have hd:=qlz n;obtain ⟨b,hb⟩:=nm (decide (0<n))
 rw [hb] at hd ⊢;have hz:Blk (w.alloc (.cells #[.bool false,.slice none 0 0] 30)) w.heap.size 30 #[.bool false,.slice none 0 0]:=Blk.new w _ _;have hb0:Below w.heap.size w (w.alloc (.cells #[.bool false,.slice none 0 0] 30)):=brf.alloc (nlr _) _;clear h hb
 cases neg
 ·
  rw [Bool.false_and];go_enter Tryz.func42,Tryz.ntmps42;go_wp2_with fail;have hgl:=hz.lt;revert hz hb0 hgl;generalize w.alloc (.cells #[.bool false,.slice none 0 0] 30)=w0;intro hz hb0 hgl;refine (CN.out _ hb0).mono ?_;rintro e w1 ⟨a1,c1,rfl,hV,hb1⟩;have hw1:=bth hb0 hb1;have HV:=Hd hV;have hz1:=hz.below' hb1;obtain ⟨z0,z1⟩:=cq2 hz1;obtain ⟨f0,f1⟩:=fq2 hz1;have hs0:=hb0.size;clear hV hb0 hz;go_wp2;have hF:=blk2 (x:=.bool false) (y:=.slice a1 (limbs n).length c1) hz1;obtain ⟨e0,e1⟩:=cq2 hF;refine bodyPost_ret (v:=.agg #[.bool false,.slice a1 (limbs n).length c1]) (by simp [results,Tryz.results42,go_sem,e0,e1]) rfl ?_;exact zz14
 ·
  rw [Bool.true_and];go_enter Tryz.func42,Tryz.ntmps42;go_wp2_with fail;have hgl:=hz.lt;revert hz hb0 hgl;generalize w.alloc (.cells #[.bool false,.slice none 0 0] 30)=w0;intro hz hb0 hgl;refine (CN.out _ hb0).mono ?_;rintro e w1 ⟨a1,c1,rfl,hV,hb1⟩;have hw1:=bth hb0 hb1;have HV:=Hd hV;have hz1:=hz.below' hb1;obtain ⟨z0,z1⟩:=cq2 hz1;obtain ⟨f0,f1⟩:=fq2 hz1;have hs0:=hb0.size;clear hV hb0 hz;go_wp2;have hF:=blk2 (x:=.bool b) (y:=.slice a1 (limbs n).length c1) hz1;obtain ⟨e0,e1⟩:=cq2 hF;refine bodyPost_ret (v:=.agg #[.bool b,.slice a1 (limbs n).length c1]) (by simp [results,Tryz.results42,go_sem,e0,e1]) rfl ?_;exact zz14
theorem qfa (neg:Bool) (n:Nat) (a:Option Addr) (c:Nat) (w:World) :
  Calls Tryz.prog 44 #[.bool neg,.slice a (limbs n).length c] w fun e w'=>e=.returned (.agg #[.bool (neg&&decide (0<n)),.slice a (limbs n).length c])/\Below w.heap.size w w':=by
 have hd:=qlz n;obtain ⟨b,hb⟩:=nm (decide (0<n))
 rw [hb] at hd ⊢;clear hb
 cases neg
 ·
  rw [Bool.false_and];go_enter Tryz.func44,Tryz.ntmps44;go_wp2;have hF:=Blk.new w 30 #[.bool false,.slice a (limbs n).length c];obtain ⟨e0,e1⟩:=cq2 hF;refine bodyPost_ret (v:=.agg #[.bool false,.slice a (limbs n).length c]) (by simp [results,Tryz.results44,go_sem]) rfl ?_;exact ⟨rfl,brf.alloc (nlr _) _⟩
 ·
  rw [Bool.true_and];go_enter Tryz.func44,Tryz.ntmps44;go_wp2;have hF:=Blk.new w 30 #[.bool b,.slice a (limbs n).length c];obtain ⟨e0,e1⟩:=cq2 hF;refine bodyPost_ret (v:=.agg #[.bool b,.slice a (limbs n).length c]) (by simp [results,Tryz.results44,go_sem]) rfl ?_;exact ⟨rfl,brf.alloc (nlr _) _⟩
theorem qgx (neg:Bool) (l:List Int) (n:Nat) (a:Option Addr) (c:Nat) (w:World) (h:NatR w a c l) (hn:val l=n) (hl:l.length<=16777216) :
  Calls Tryz.prog 51 #[.agg #[.bool neg,.slice a l.length c]] w (RetZ (neg&&decide (0<n)) n w):=by
 have CN:=fun W (hW:bw w W)=>qzp neg l n a c W (h.ext (xbw hW)) hn hl
 replace CN:=Hd CN;have hz:Blk ((w.alloc (.cells #[.bool neg,.slice a l.length c] 30)).alloc (.cells #[.bool false,.slice none 0 0] 30)) (w.heap.size+1) 30 #[.bool false,.slice none 0 0]:=qa5 w _ _ _;have hb0:Below w.heap.size w ((w.alloc (.cells #[.bool neg,.slice a l.length c] 30)).alloc (.cells #[.bool false,.slice none 0 0] 30)):=(brf.alloc (nlr _) _).alloc (by simp) _;have hgB:w.heap.size<=w.heap.size+1:=oo
 have hgl:=hz.lt;clear h hn;go_enter Tryz.func51,Tryz.ntmps51;go_wp2_with fail;revert hz hb0 hgl hgB;generalize (w.alloc (.cells #[.bool neg,.slice a l.length c] 30)).alloc (.cells #[.bool false,.slice none 0 0] 30)=w0;generalize w.heap.size+1=g;intro hz hb0 hgB hgl;refine (CN.out _ hb0).mono ?_;rintro e w1 ⟨a1,c1,rfl,hV,hb1⟩;have hw1:=bth hb0 hb1;have HV:=Hd hV;have hz1:=hz.below' hb1;obtain ⟨z0,z1⟩:=cq2 hz1;obtain ⟨f0,f1⟩:=fq2 hz1;have hs0:=hb0.size;clear hV hb0 hz;go_wp2;have hF:=blk2 (x:=.bool (neg&&decide (0<n))) (y:=.slice a1 (limbs n).length c1) hz1;obtain ⟨e0,e1⟩:=cq2 hF;refine bodyPost_ret (v:=.agg #[.bool (neg&&decide (0<n)),.slice a1 (limbs n).length c1]) (by simp [results,Tryz.results51,go_sem,e0,e1]) rfl ?_;exact ⟨a1,c1,rfl,fun V hV=>HV.out V (back2 hV hs0 hgl),qbt hw1 hgB⟩
theorem qf5 (neg:Bool) (l:List Int) (n:Nat) (a:Option Addr) (c:Nat) (w:World) (h:NatR w a c l) (hn:val l=n) (hl:l.length<=16777216) :
  Calls Tryz.prog 40 #[.agg #[.bool neg,.slice a l.length c]] w (RetZ (neg&&decide (0<n)) n w):=by
 have CN:=fun W (hW:bw w W)=>qei neg l n a c W (h.ext (xbw hW)) hn hl
 replace CN:=Hd CN;have hz:Blk ((w.alloc (.cells #[.bool neg,.slice a l.length c] 30)).alloc (.cells #[.bool false,.slice none 0 0] 30)) (w.heap.size+1) 30 #[.bool false,.slice none 0 0]:=qa5 w _ _ _;have hb0:Below w.heap.size w ((w.alloc (.cells #[.bool neg,.slice a l.length c] 30)).alloc (.cells #[.bool false,.slice none 0 0] 30)):=(brf.alloc (nlr _) _).alloc (by simp) _;have hgB:w.heap.size<=w.heap.size+1:=oo
 have hgl:=hz.lt;clear h hn;go_enter Tryz.func40,Tryz.ntmps40;go_wp2_with fail;revert hz hb0 hgl hgB;generalize (w.alloc (.cells #[.bool neg,.slice a l.length c] 30)).alloc (.cells #[.bool false,.slice none 0 0] 30)=w0;generalize w.heap.size+1=g;intro hz hb0 hgB hgl;refine (CN.out _ hb0).mono ?_;rintro e w1 ⟨a1,c1,rfl,hV,hb1⟩;have hw1:=bth hb0 hb1;have HV:=Hd hV;have hz1:=hz.below' hb1;obtain ⟨z0,z1⟩:=cq2 hz1;obtain ⟨f0,f1⟩:=fq2 hz1;have hs0:=hb0.size;clear hV hb0 hz;go_wp2;have hF:=blk2 (x:=.bool (neg&&decide (0<n))) (y:=.slice a1 (limbs n).length c1) hz1;obtain ⟨e0,e1⟩:=cq2 hF;refine bodyPost_ret (v:=.agg #[.bool (neg&&decide (0<n)),.slice a1 (limbs n).length c1]) (by simp [results,Tryz.results40,go_sem,e0,e1]) rfl ?_;exact ⟨a1,c1,rfl,fun V hV=>HV.out V (back2 hV hs0 hgl),qbt hw1 hgB⟩
end Go.Proofs.YtmdlbpibipnapaaGreat
namespace Go.Proofs
open Go.Shelf
def Tryz.lays127_ren : Go.Shelf.Ren := ⟨fun | 127 => 78 | n => n, fun | 49 => 105 | 3 => 3 | 4 => 4 | 46 => 58 | 5 => 5 | 9 => 9 | n => n, fun | n => n⟩
theorem Tryz.lays127 : Go.Proofs.Lays.n127 Tryz.prog Tryz.lays127_ren := {
  mixed := by kernel_rfl
  f127 := Tryz.func78.trans (congrArg some (by kernel_rfl))
  t3 := Tryz.underlying3
  a3 := Tryz.isAgg3
  z3 := Tryz.sizeOf3
  v3 := Tryz.zeroValue3
  t4 := Tryz.underlying4
  a4 := Tryz.isAgg4
  z4 := Tryz.sizeOf4
  v4 := Tryz.zeroValue4
  t5 := Tryz.underlying5
  a5 := Tryz.isAgg5
  z5 := Tryz.sizeOf5
  v5 := Tryz.zeroValue5
  t9 := Tryz.underlying9
  a9 := Tryz.isAgg9
  z9 := Tryz.sizeOf9
  v9 := Tryz.zeroValue9
  t46 := Tryz.underlying58
  a46 := Tryz.isAgg58
  z46 := Tryz.sizeOf58
  v46 := Tryz.zeroValue58
  t49 := Tryz.underlying105
  a49 := Tryz.isAgg105
  z49 := Tryz.sizeOf105
  v49 := Tryz.zeroValue105 }
end Go.Proofs
namespace Go.Proofs.YtmdlbpibipnapaaGreat
theorem qvs (x:Nat) (w:World) (h1:x<=65535) :
  Calls Tryz.prog 78 #[.int .u16 x] w fun e w'=>e=.returned (.int .i64 (Lib.bitLen x:Int))/\w'=w:=by
 have:=Any.bits_Len16 Tryz.lays127 (x:Int) w oo oo;rw [Int.toNat_natCast] at this;exact this
end Go.Proofs.YtmdlbpibipnapaaGreat
namespace Go.Proofs.YtmdlbpibipnapaaGreat
open Go.RowKit
theorem qzy {n k x:Nat} (hl:(limbs n).length=k+1) (hx:qag (limbs n) k=x) (hx0:x≠0) (hx1:x<=65535):1<=Lib.bitLen x/\Lib.bitLen x<=16/\2 ^ (16*k+Lib.bitLen x-1)<=n/\n<2 ^ (16*k+Lib.bitLen x):=by
 obtain ⟨h2,h3,h4⟩:=Lib.bitLenAux_bounds 64 x oo hx0
 change 1<=Lib.bitLen x at h2
 change 2 ^ (Lib.bitLen x-1)<=x at h3
 change x<2 ^ Lib.bitLen x at h4
 obtain ⟨q1,q2,_,_⟩:=qkh hx0 hx1;obtain ⟨lo,hlo,e⟩:=qbv (qa9 n) k;rw [qac,qbe,hx,qaw oo,Int.toNat_natCast] at e;simp only [Nat.mul_zero,Nat.add_zero] at e;have hp:(65536:Nat) ^ k=2 ^ (16*k):=by rw [Nat.pow_mul]
 rw [hp] at e hlo;generalize Lib.bitLen x=b at *;refine ⟨q1,q2,?_,?_⟩
 ·
  rw [show 16*k+b-1=16*k+(b-1) by omega,Nat.pow_add];have:=Nat.mul_le_mul_left (2 ^ (16*k)) h3
  omega
 ·
  rw [Nat.pow_add];have:=Nat.mul_le_mul_left (2 ^ (16*k)) (show x+1<=2 ^ b by omega);rw [Nat.mul_add,Nat.mul_one] at this
  omega
theorem qo7 (l:List Int) (n:Nat) (a:Option Addr) (c:Nat) (w:World) (h:NatR w a c l) (hn:val l=n) (hl:l.length<=16777216) :
  Calls Tryz.prog 49 #[.slice a l.length c] w fun e w'=>∃ b:Nat,e=.returned (.int .i64 b)/\Hid ((n=0->b=0)/\(0<n->1<=b/\2 ^ (b-1)<=n/\n<2 ^ b)/\b<=16*(limbs n).length)/\w=w':=by
 have CT:=qa4 l a c w h;have hT:=h.trim;have hll:=qah h.u16;rw [hn] at CT hT hll;by_cases h0:n=0
 ·
  subst h0;rw [qao] at CT;replace CT:=Hd CT;clear h hn hT hll;go_enter Tryz.func49,Tryz.ntmps49;go_wp2_with fail;refine CT.out.mono ?_;rintro e w1 ⟨rfl,rfl⟩;go_wp2;go_ret;exact ⟨0,rfl,Hd ⟨fun _=>rfl,fun h=>by omega,oo⟩,rfl⟩
 ·
  have hp:=qat.2 (show 0<n by omega);obtain ⟨k,hk⟩:∃ k,(limbs n).length=k+1:=⟨(limbs n).length-1,oo⟩
  obtain ⟨xi,hxi⟩:=qab (xs:=limbs n) (k:=k) oo;obtain ⟨b,off,rfl,hc⟩:=hT.cell hxi;have hxb:=(qa9 n).get hxi;have hx0:xi≠0:=qh0 (n:=n) (by rw [List.getLast?_eq_getElem?,hk];exact hxi);obtain ⟨x,rfl⟩:∃ x:Nat,xi=(x:Int):=⟨xi.toNat,oo⟩
  have hb:=qzy hk (qax hxi) oo oo;have CL:=fun w=>qvs x w oo
  have hkl:k<=16777216:=oo
  have HK:=Hd hk;rw [hk] at CT;revert hb CL;generalize Lib.bitLen x=bl;intro hb CL;have hbl:(bl:Int)<=16:=oo
  have hbl0:(0:Int)<=(bl:Int):=oo
  have HB:=Hd hb;replace CT:=Hd CT;replace CL:=Hd CL;have hkI:(k:Int)<=16777216:=oo
  have hne:((k:Int)+1==0)=false:=by rw [beq_eq_false_iff_ne];omega
  have hx2:(x:Int)<=65535:=oo
  clear h hn hT hll hp hk hxi hxb hx0 hb hkl;go_enter Tryz.func49,Tryz.ntmps49;go_wp2_with fail;refine CT.out.mono ?_;rintro e w1 ⟨rfl,rfl⟩;go_wp2_with fail;refine (CL.out _).mono ?_;rintro e w1 ⟨rfl,rfl⟩;go_wp2;go_ret;refine ⟨16*k+bl,?_,Hd ⟨fun e=>absurd e h0,fun _=>⟨by have:=HB.out;omega,HB.out.2.2.1,HB.out.2.2.2⟩,by have:=HB.out;have:=HK.out;omega⟩,rfl⟩;exact qcq (by simp <;> omega)
def sgnZ (neg:Bool) (n:Nat):Int:=if n=0 then 0 else if neg=true then -1 else 1
theorem qm2 (neg:Bool) (l:List Int) (n:Nat) (a:Option Addr) (c:Nat) (w:World) (h:NatR w a c l) (hn:val l=n) (hl:l.length<=16777216) :
  Calls Tryz.prog 76 #[.agg #[.bool neg,.slice a l.length c]] w fun e w'=>e=.returned (.int .i64 (sgnZ neg n))/\Below w.heap.size w w':=by
 have CB:=fun W (hW:bw w W)=>qo7 l n a c W (h.ext (xbw hW)) hn hl
 replace CB:=Hd CB;have hz:Blk (w.alloc (.cells #[.bool neg,.slice a l.length c] 30)) w.heap.size 30 #[.bool neg,.slice a l.length c]:=Blk.new w _ _;have hb0:Below w.heap.size w (w.alloc (.cells #[.bool neg,.slice a l.length c] 30)):=brf.alloc (nlr _) _;obtain ⟨R,hR⟩:=nm (sgnZ neg n)
 rw [hR];have HR:=Hd hR;clear h hn hR;go_enter Tryz.func76,Tryz.ntmps76;go_wp2_with fail;revert hz hb0;generalize w.alloc (.cells #[.bool neg,.slice a l.length c] 30)=w0;intro hz hb0;refine (CB.out _ hb0).mono ?_;rintro e w1 ⟨b,rfl,hb,rfl⟩;obtain ⟨z0,z1⟩:=cq2 hz;by_cases h0:n=0
 ·
  have e0:=hb.out.1 h0;subst e0;have hs:R=0:=by rw [<- HR.out];unfold sgnZ;rw [if_pos h0]
  subst hs;clear h0;go_wp2;go_ret;exact ⟨rfl,hb0⟩
 ·
  have e0:((b:Int)==0)=false:=by rw [beq_eq_false_iff_ne];have:=hb.out.2.1 oo;omega
  have hs:R=if neg=true then -1 else 1:=by rw [<- HR.out];unfold sgnZ;rw [if_neg h0]
  clear h0
  cases neg
  ·
   obtain rfl:R=1:=by simpa using hs
   clear hs;go_wp2;go_ret;exact ⟨rfl,hb0⟩
  ·
   obtain rfl:R = -1:=by simpa using hs
   clear hs;go_wp2;go_ret;exact ⟨rfl,hb0⟩
theorem qsp (neg:Bool) (l:List Int) (n:Nat) (a:Option Addr) (c:Nat) (w:World) (h:NatR w a c l) (hn:val l=n) (hl:l.length<=16777216) :
  Calls Tryz.prog 170 #[.agg #[.bool neg,.slice a l.length c]] w fun e w'=>e=.returned (.int .i64 (sgnZ neg n))/\Below w.heap.size w w':=by
 have CN:=fun W (hW:bw w W)=>qf5 neg l n a c W (h.ext (xbw hW)) hn hl
 replace CN:=Hd CN;have hz:Blk (w.alloc (.cells #[.bool neg,.slice a l.length c] 30)) w.heap.size 30 #[.bool neg,.slice a l.length c]:=Blk.new w _ _;have hb0:Below w.heap.size w (w.alloc (.cells #[.bool neg,.slice a l.length c] 30)):=brf.alloc (nlr _) _;have hp:=qat (n:=n);obtain ⟨R,hR⟩:=nm (sgnZ neg n)
 rw [hR];have HR:=Hd hR;clear h hn hR;go_enter Tryz.func170,Tryz.ntmps170;go_wp2_with fail;revert hz hb0;generalize w.alloc (.cells #[.bool neg,.slice a l.length c] 30)=w0;intro hz hb0;refine (CN.out _ hb0).mono ?_;rintro e w1 ⟨a1,c1,rfl,_,hb1⟩;obtain ⟨T,hT⟩:=nm ((limbs n).length)
 rw [hT] at hp ⊢;clear hT;have hw1:=bth hb0 hb1;have hz1:=hz.below' hb1;obtain ⟨z0,z1⟩:=cq2 hz1;obtain ⟨f0,f1⟩:=fq2 hz1;have hF:=blk2 (x:=.bool (neg&&decide (0<n))) (y:=.slice a1 T c1) hz1;have hwF:=qbt (x:=.bool (neg&&decide (0<n))) (y:=.slice a1 T c1) hw1 (nlr _);obtain ⟨e0,e1⟩:=cq2 hF;clear hz hb0 hb1 hw1;by_cases h0:n=0
 ·
  have hs:R=0:=by rw [<- HR.out];unfold sgnZ;rw [if_pos h0]
  subst hs;obtain rfl:T=0:=oo
  clear h0 hp;go_wp2;go_ret;exact ⟨rfl,hwF⟩
 ·
  have hs:R=if neg=true then -1 else 1:=by rw [<- HR.out];unfold sgnZ;rw [if_neg h0]
  have hd:decide (0<n)=true:=by rw [decide_eq_true_eq];omega
  have hl0:((T:Int)==0)=false:=by rw [beq_eq_false_iff_ne];omega
  simp only [hd,Bool.and_true] at hwF e0 e1 ⊢;clear h0 hp hd
  cases neg
  ·
   obtain rfl:R=1:=by simpa using hs
   clear hs;go_wp2;go_ret;exact ⟨rfl,hwF⟩
  ·
   obtain rfl:R = -1:=by simpa using hs
   clear hs;go_wp2;go_ret;exact ⟨rfl,hwF⟩
theorem zz15 {P:Prop} (h:P:=by
 go_wp2_with fail;refine (CX.out _ hw).mono ?_;rintro e w3 ⟨rfl,rfl⟩;go_wp2_with fail;refine (CY.out _ hw).mono ?_;rintro e w3 ⟨rfl,rfl⟩;go_wp2_with (at_builtin;go_must (refine qd0 rfl (.tmp 34) (.tmp 38) rfl ao co rfl (HO.out.alloc _) (lo:Int) wr.heap.size 1 rfl (by simp) (o++[(lo:Int)]) rfl (by have:=HLEN.out;simpa using this) (by simp;omega) ?_);intro a2 c2' w2' ho2 hg2 hx2);go_roundg (gk-1)
 case rel=>exact ⟨k+1,c2,o++[(lo:Int)],a2,c2',by have:=HKG.out;have:=HKM.out;omega,by first | rfl | simp,rfl,by go_num,oo,HCZ2.out,by show _=_;rw [List.length_append,hol.out];rfl,hou.app (U16.cons oo U16.nil),ho2,qal (hw.alloc hw.size _) (HO.out.alloc _) hg2,HS.out⟩
 case measure=>have:=HKG.out;have:=HKM.out;omega
 ):P:=h
theorem qm9 (l m:List Int) (n1 n2:Nat) (a a':Option Addr) (c c':Nat) (w:World) (h:NatR w a c l) (h':NatR w a' c' m) (hn:val l=n1) (hk:val m=n2) (hl:l.length<=4000000) (hm:m.length<=4000000) :
  Calls Tryz.prog 171 #[.slice a l.length c,.slice a' m.length c'] w (RetN (limbs (n1+n2)) w):=by
 have H:=Hd h;have H':=Hd h';have HN:=Hd hn;have HK:=Hd hk;have hu:=h.u16;have hu':=h'.u16;obtain ⟨M,hM⟩:∃ M,M=max l.length m.length+1:=⟨_,rfl⟩
 have hMl:l.length<M:=oo
 have hMm:m.length<M:=oo
 have hM2:M<=4000001:=oo
 have HM:=Hd hM;clear h h' hn hk hM;go_enter Tryz.func171,Tryz.ntmps171;go_wp2
 go_loopg [5,6,7,8] M (fun g s5 s6 s7 _ wr=>∃ (k cc:Nat) (o:List Int) (ao:Option Addr) (co:Nat),k+g=M/\s5=.slice ao o.length co/\s6=.int .i64 cc/\s7=.int .i64 k/\cc<=1/\Hid (k=M->cc=0)/\Hid (o.length=k)/\U16 o/\OwnN w.heap.size wr ao co o/\Below w.heap.size w wr /\
  Hid (val o+65536 ^ k*cc=val (l.take k)+val (m.take k)))
 case atStart=>exact ⟨0,0,[],none,0,oo,rfl,rfl,rfl,oo,fun _=>rfl,rfl,U16.nil,Own.nil,Below.refl _ _,by show _=_;simp [val]⟩
 case round =>
  obtain ⟨k,cc,o,ao,co,hkg,rfl,rfl,rfl,hc1,hcz,hol,hou,ho,hw,hv⟩:=hrel;have HO:=Hd ho;have HKG:=Hd hkg;clear ho;by_cases hstop:¬ k<l.length/\¬ k<m.length/\cc=0
  ·
   obtain ⟨h1,h2,rfl⟩:=hstop;have hval:val o=n1+n2:=by
    have:=hv.out;rw [qaz oo,qaz oo,HN.out,HK.out] at this
    omega
   have CN:=qbk o ao co wr (HO.out.reads1 hou) (by rw [hol.out];omega);rw [hval] at CN;replace CN:=Hd CN;have g1:decide (k<l.length)=false:=by rw [decide_eq_false_iff_not];omega
   have g2:decide (k<m.length)=false:=by rw [decide_eq_false_iff_not];omega
   clear hval hkg;go_wp2_with fail;refine CN.out.mono ?_;rintro e w1 ⟨a1,c1,rfl,hV,hb1⟩;have HV:=Hd hV;have hb2:=bth hw hb1;clear hV;go_wp2;go_ret;exact ⟨a1,c1,rfl,fun V hV=>HV.out V (hV.base hw.size),hb2⟩
  ·
   have hkM:k<M:=by
    apply Nat.lt_of_not_le;intro hc;have:k=M:=oo
    have:=hcz.out this
    omega
   have hx:=qbd hu k;have hy:=qbd hu' k;have CX:=fun W (hW:bw w W)=>qdi l k a c W (H.out.ext (xbw hW))
   have CY:=fun W (hW:bw w W)=>qdi m k a' c' W (H'.out.ext (xbw hW))
   have hstep:=fun c2 d h1=>qh2 l m o k cc c2 d hol.out hv.out h1
   have hx0:¬ k<l.length->qag l k=0:=fun e=>qb1 oo
   have hy0:¬ k<m.length->qag m k=0:=fun e=>qb1 oo
   revert CX CY hx hy hstep hx0 hy0;generalize qag l k=xi;generalize qag m k=yi;intro hx hy CX CY hstep hx0 hy0;obtain ⟨x,rfl⟩:∃ x:Nat,xi=(x:Int):=⟨xi.toNat,oo⟩
   obtain ⟨y,rfl⟩:∃ y:Nat,yi=(y:Int):=⟨yi.toNat,oo⟩
   simp only [Int.toNat_natCast] at hstep;obtain ⟨lo,hlo⟩:=nm ((x+y+cc) % 65536)
   obtain ⟨c2,hc2⟩:=nm ((x+y+cc) / 65536)
   have hs:=hstep c2 lo oo;have hc21:c2<=1:=oo
   have hlo1:lo<=65535:=oo
   have hcz2:k+1=M->c2=0:=fun e=>by
    have h1:=hx0 (by have:=HM.out;omega);have h2:=hy0 (by have:=HM.out;omega)
    omega
   have w1:((x:Int)+(y:Int)+(cc:Int)).tmod 65536=(lo:Int):=by
    have:(((x+y+cc:Nat):Int)).tmod ((65536:Nat):Int)=(((x+y+cc) % 65536:Nat):Int):=rfl;rw [hlo] at this;simpa using this
   have w2:((x:Int)+(y:Int)+(cc:Int)).tdiv 65536=(c2:Int):=by
    have:(((x+y+cc:Nat):Int)).tdiv ((65536:Nat):Int)=(((x+y+cc) / 65536:Nat):Int):=rfl;rw [hc2] at this;simpa using this
   have HS:=Hd hs;have HCZ2:=Hd hcz2;have hkI:(k:Int)<=4000001:=oo
   replace CX:=Hd CX;replace CY:=Hd CY;have HLEN:Hid (o.length+1<=16777216):=Hd (by rw [hol.out];omega);have HKM:=Hd hkM;have hgB:=hw.size;by_cases h1:k<l.length
   ·
    have g1:decide (k<l.length)=true:=by rw [decide_eq_true_eq];omega
    clear hstop hkg hstep hs hcz2 hlo hc2 hx0 hy0 h1 hkM;exact zz15
   ·
    have g1:decide (k<l.length)=false:=by rw [decide_eq_false_iff_not];omega
    by_cases h2:k<m.length
    ·
     have g2:decide (k<m.length)=true:=by rw [decide_eq_true_eq];omega
     clear hstop hkg hstep hs hcz2 hlo hc2 hx0 hy0 h1 h2 hkM;exact zz15
    ·
     have g2:decide (k<m.length)=false:=by rw [decide_eq_false_iff_not];omega
     have g3:decide (0<cc)=true:=by rw [decide_eq_true_eq];omega
     clear hstop hkg hstep hs hcz2 hlo hc2 hx0 hy0 h1 h2 hkM;exact zz15
theorem qkg (z:Int) (w:World) (hi:InInt z) :
  Calls Tryz.prog 22 #[.int .i64 z] w (RetZ (decide (z<0)) z.natAbs w):=by
 obtain ⟨hi1,hi2⟩:=hi;by_cases hneg:z<0
 ·
  obtain ⟨m,rfl⟩:∃ m:Nat,z = -((m:Int)+1):=⟨(-(z+1)).toNat,oo⟩
  have hna:(-((m:Int)+1)).natAbs=m+1:=oo
  have hd:decide (-((m:Int)+1)<0)=true:=by rw [decide_eq_true_eq];omega
  rw [hna,hd];have CO:=fun W=>qk4 (m+1) W oo
  have e1:((m+1:Nat):Int)=(m:Int)+1:=oo
  simp only [e1] at CO;have CM:=fun a c W=>qfa true (m+1) a c W
  have hd2:decide (0<m+1)=true:=by rw [decide_eq_true_eq];omega
  simp only [hd2,Bool.and_true] at CM;replace CO:=Hd CO;replace CM:=Hd CM;have f1:-(-((m:Int)+1)+1)=(m:Int):=oo
  have hm:(m:Int)<=9223372036854775807:=oo
  have hlt:decide (-((m:Int)+1)<0)=true:=hd;clear hna hd hd2 e1 hneg;have hz:Blk (w.alloc (.cells #[.bool false,.slice none 0 0] 30)) w.heap.size 30 #[.bool false,.slice none 0 0]:=Blk.new w _ _;have hb0:Below w.heap.size w (w.alloc (.cells #[.bool false,.slice none 0 0] 30)):=brf.alloc (nlr _) _;have hgl:=hz.lt;go_enter Tryz.func22,Tryz.ntmps22;go_wp2_with fail;revert hz hb0 hgl;generalize w.alloc (.cells #[.bool false,.slice none 0 0] 30)=w0;intro hz hb0 hgl;have hs0:=hb0.size;refine (CO.out _).mono ?_;rintro e w1 ⟨a1,c1,rfl,hV,hb1⟩;have hw1:=bth hb0 hb1;have hz1:=hz.below' hb1;have HV:=Hd hV;clear hV;go_wp2_with fail;refine (CM.out _ _ _).mono ?_;rintro e w3 ⟨rfl,hb3⟩;have hw3:=bth hw1 hb3;have hz3:=hz1.below' hb3;obtain ⟨z0,z1⟩:=cq2 hz3;obtain ⟨f0,f1⟩:=fq2 hz3;go_wp2;have hF:=blk2 (x:=.bool true) (y:=.slice a1 (limbs (m+1)).length c1) hz3;obtain ⟨e0,e1⟩:=cq2 hF
  refine bodyPost_ret (v:=.agg #[.bool true,.slice a1 (limbs (m+1)).length c1]) (by simp [results,Tryz.results22,go_sem,e0,e1]) rfl ?_;exact ⟨a1,c1,rfl,fun V hV=>HV.out V ((back2 hV hs0 hgl).below hb3),qbt hw3 (nlr _)⟩
 ·
  obtain ⟨m,rfl⟩:∃ m:Nat,z=(m:Int):=⟨z.toNat,oo⟩
  have hna:((m:Nat):Int).natAbs=m:=oo
  have hd:decide (((m:Nat):Int)<0)=false:=by rw [decide_eq_false_iff_not];omega
  rw [hna,hd];have CO:=fun W=>qk4 m W oo
  have CM:=fun a c W=>qfa false m a c W
  simp only [Bool.false_and] at CM;replace CO:=Hd CO;replace CM:=Hd CM;clear hna hneg;have hz:Blk (w.alloc (.cells #[.bool false,.slice none 0 0] 30)) w.heap.size 30 #[.bool false,.slice none 0 0]:=Blk.new w _ _;have hb0:Below w.heap.size w (w.alloc (.cells #[.bool false,.slice none 0 0] 30)):=brf.alloc (nlr _) _;have hgl:=hz.lt;go_enter Tryz.func22,Tryz.ntmps22;go_wp2_with fail;revert hz hb0 hgl;generalize w.alloc (.cells #[.bool false,.slice none 0 0] 30)=w0;intro hz hb0 hgl;have hs0:=hb0.size;refine (CO.out _).mono ?_;rintro e w1 ⟨a1,c1,rfl,hV,hb1⟩;have hw1:=bth hb0 hb1;have hz1:=hz.below' hb1;have HV:=Hd hV;clear hV;go_wp2_with fail;refine (CM.out _ _ _).mono ?_;rintro e w3 ⟨rfl,hb3⟩;have hw3:=bth hw1 hb3;have hz3:=hz1.below' hb3;obtain ⟨z0,z1⟩:=cq2 hz3;obtain ⟨f0,f1⟩:=fq2 hz3;go_wp2;have hF:=blk2 (x:=.bool false) (y:=.slice a1 (limbs m).length c1) hz3;obtain ⟨e0,e1⟩:=cq2 hF
  refine bodyPost_ret (v:=.agg #[.bool false,.slice a1 (limbs m).length c1]) (by simp [results,Tryz.results22,go_sem,e0,e1]) rfl ?_;exact ⟨a1,c1,rfl,fun V hV=>HV.out V ((back2 hV hs0 hgl).below hb3),qbt hw3 (nlr _)⟩
theorem qt5 (z:Int) (w:World) (hi:InInt z) :
  Calls Tryz.prog 144 #[.int .i64 z] w (RetZ (decide (z<0)) z.natAbs w):=by
 obtain ⟨hi1,hi2⟩:=hi;by_cases hneg:z<0
 ·
  obtain ⟨m,rfl⟩:∃ m:Nat,z = -((m:Int)+1):=⟨(-(z+1)).toNat,oo⟩
  have hna:(-((m:Int)+1)).natAbs=m+1:=oo
  have hd:decide (-((m:Int)+1)<0)=true:=by rw [decide_eq_true_eq];omega
  rw [hna,hd];have CO:=fun W=>qc4 m W oo
  have CO1:=fun W=>qc4 1 W oo
  have hml:(limbs m).length<=4:=qam (by have e:(65536:Nat) ^ 4=18446744073709551616:=dd;omega);have hml1:(limbs 1).length<=4:=qam dd;have hml2:(limbs (m+1)).length<=5:=qam (by have e:(65536:Nat) ^ 5=1208925819614629174706176:=dd;omega);have CA:=fun a1 a2 c1 c2 W h1 h2=>qm9 (limbs m) (limbs 1) m 1 a1 a2 c1 c2 W h1 h2 (qac _) (qac _) oo oo
  have CF:=fun a c W h=>qei true (limbs (m+1)) (m+1) a c W h (qac _) oo
  have hd2:decide (0<m+1)=true:=by rw [decide_eq_true_eq];omega
  simp only [hd2,Bool.and_true] at CF;replace CO:=Hd CO;replace CO1:=Hd CO1;replace CA:=Hd CA;replace CF:=Hd CF;have f1:-(-((m:Int)+1)+1)=(m:Int):=oo
  have hm:(m:Int)<=9223372036854775807:=oo
  clear hna hd2 hneg hml hml1 hml2;have hz:Blk (w.alloc (.cells #[.bool false,.slice none 0 0] 30)) w.heap.size 30 #[.bool false,.slice none 0 0]:=Blk.new w _ _;have hb0:Below w.heap.size w (w.alloc (.cells #[.bool false,.slice none 0 0] 30)):=brf.alloc (nlr _) _;have hgl:=hz.lt;go_enter Tryz.func144,Tryz.ntmps144;go_wp2_with fail;revert hz hb0 hgl;generalize w.alloc (.cells #[.bool false,.slice none 0 0] 30)=w0;intro hz hb0 hgl;have hs0:=hb0.size;refine (CO.out _).mono ?_;rintro e w1 ⟨a3,c3,rfl,hV3,hb1⟩;have hw1:=bth hb0 hb1;have hz1:=hz.below' hb1;have HV3:=Hd hV3;clear hV3;go_wp2_with fail;refine (CO1.out _).mono ?_;rintro e w2 ⟨a4,c4,rfl,hV4,hb2⟩;have hw2:=bth hw1 hb2;have hz2:=hz1.below' hb2;have CA2:=CA.out _ _ _ _ w2 (HV3.out w2 ((New.refl _ _).below hb2)) (hV4 w2 (New.refl _ _));replace CA2:=Hd CA2;clear hV4;go_wp2_with fail;refine CA2.out.mono ?_
  rintro e w4 ⟨a5,c5,rfl,hV5,hb4⟩;have hw4:=bth hw2 hb4;have hz4:=hz2.below' hb4;have CF2:=CF.out _ _ w4 (hV5 w4 (New.refl _ _));replace CF2:=Hd CF2;clear hV5;go_wp2_with fail;refine CF2.out.mono ?_;rintro e w3 ⟨a1,c1,rfl,hV,hb3⟩;have hw3:=bth hw4 hb3;have hz3:=hz4.below' hb3;have hg4:=hz4.lt;have HV:=Hd hV;clear hV;obtain ⟨z0,z1⟩:=cq2 hz3;obtain ⟨f0,f1⟩:=fq2 hz3;go_wp2;have hF:=blk2 (x:=.bool true) (y:=.slice a1 (limbs (m+1)).length c1) hz3;obtain ⟨e0,e1⟩:=cq2 hF;refine bodyPost_ret (v:=.agg #[.bool true,.slice a1 (limbs (m+1)).length c1]) (by simp [results,Tryz.results144,go_sem,e0,e1]) rfl ?_;exact ⟨a1,c1,rfl,fun V hV=>HV.out V (back2 hV hw4.size hg4),qbt hw3 (nlr _)⟩
 ·
  obtain ⟨m,rfl⟩:∃ m:Nat,z=(m:Int):=⟨z.toNat,oo⟩
  have hna:((m:Nat):Int).natAbs=m:=oo
  have hd:decide (((m:Nat):Int)<0)=false:=by rw [decide_eq_false_iff_not];omega
  rw [hna,hd];have hml:(limbs m).length<=4:=qam (by have e:(65536:Nat) ^ 4=18446744073709551616:=dd;omega);have CO:=fun W=>qc4 m W oo
  have CF:=fun a c W h=>qei false (limbs m) m a c W h (qac _) oo
  simp only [Bool.false_and] at CF;replace CO:=Hd CO;replace CF:=Hd CF;clear hna hneg hml;have hz:Blk (w.alloc (.cells #[.bool false,.slice none 0 0] 30)) w.heap.size 30 #[.bool false,.slice none 0 0]:=Blk.new w _ _;have hb0:Below w.heap.size w (w.alloc (.cells #[.bool false,.slice none 0 0] 30)):=brf.alloc (nlr _) _;have hgl:=hz.lt;go_enter Tryz.func144,Tryz.ntmps144;go_wp2_with fail;revert hz hb0 hgl;generalize w.alloc (.cells #[.bool false,.slice none 0 0] 30)=w0;intro hz hb0 hgl;have hs0:=hb0.size;refine (CO.out _).mono ?_;rintro e w4 ⟨a3,c3,rfl,hV3,hb1⟩;have hw4:=bth hb0 hb1;have hz4:=hz.below' hb1;have CF2:=CF.out _ _ w4 (hV3 w4 (New.refl _ _));replace CF2:=Hd CF2;clear hV3;go_wp2_with fail;refine CF2.out.mono ?_;rintro e w3 ⟨a1,c1,rfl,hV,hb3⟩;have hw3:=bth hw4 hb3;have hz3:=hz4.below' hb3;have hg4:=hz4.lt;have HV:=Hd hV;clear hV;obtain ⟨z0,z1⟩:=cq2 hz3;obtain ⟨f0,f1⟩:=fq2 hz3
  go_wp2;have hF:=blk2 (x:=.bool false) (y:=.slice a1 (limbs m).length c1) hz3;obtain ⟨e0,e1⟩:=cq2 hF;refine bodyPost_ret (v:=.agg #[.bool false,.slice a1 (limbs m).length c1]) (by simp [results,Tryz.results144,go_sem,e0,e1]) rfl ?_;exact ⟨a1,c1,rfl,fun V hV=>HV.out V (back2 hV hw4.size hg4),qbt hw3 (nlr _)⟩
def zval (neg:Bool) (n:Nat):Int:=if neg=true then -(n:Int) else n
def cmpI (a b:Int):Int:=if a<b then -1 else if b<a then 1 else 0
theorem qfm (neg1 neg2:Bool) (l m:List Int) (n1 n2:Nat) (a a':Option Addr) (c c':Nat) (w:World) (h:NatR w a c l) (h':NatR w a' c' m) (hn:val l=n1) (hk:val m=n2) (hl:l.length<=2000000) (hm:m.length<=2000000) :
  Calls Tryz.prog 20 #[.agg #[.bool neg1,.slice a l.length c],.agg #[.bool neg2,.slice a' m.length c']] w (RetZ ((neg1 != neg2)&&decide (0<n1*n2)) (n1*n2) w):=by
 have hll:=qah h.u16;have hlm:=qah h'.u16;rw [hn] at hll;rw [hk] at hlm;have hp:=qa0 n1 n2;have CM:=fun W (hW:bw w W)=>qfn l m n1 n2 a a' c c' W (h.ext (xbw hW)) (h'.ext (xbw hW)) hn hk oo oo
 have CF:=fun a c W h=>qei (neg1 != neg2) (limbs (n1*n2)) (n1*n2) a c W h (qac _) oo
 obtain ⟨R,hR⟩:=nm (((neg1 != neg2)&&decide (0<n1*n2)))
 rw [hR] at CF ⊢;have hR0:True:=trivial;revert CM CF;generalize n1*n2=n;intro CM CF;replace CM:=Hd CM;replace CF:=Hd CF;have hz:Blk (((w.alloc (.cells #[.bool neg1,.slice a l.length c] 30)).alloc (.cells #[.bool neg2,.slice a' m.length c'] 30)).alloc (.cells #[.bool false,.slice none 0 0] 30)) (w.heap.size+1+1) 30 #[.bool false,.slice none 0 0]:=qb6 w _ _ _ _;have hx1:Blk (((w.alloc (.cells #[.bool neg1,.slice a l.length c] 30)).alloc (.cells #[.bool neg2,.slice a' m.length c'] 30)).alloc (.cells #[.bool false,.slice none 0 0] 30)) w.heap.size 30 #[.bool neg1,.slice a l.length c]:=((Blk.new w _ _).alloc _).alloc _;have hx2:Blk (((w.alloc (.cells #[.bool neg1,.slice a l.length c] 30)).alloc (.cells #[.bool neg2,.slice a' m.length c'] 30)).alloc (.cells #[.bool false,.slice none 0 0] 30)) (w.heap.size+1) 30 #[.bool neg2,.slice a' m.length c']:=(qa5 w _ _ _).alloc _
 have hb0:Below w.heap.size w (((w.alloc (.cells #[.bool neg1,.slice a l.length c] 30)).alloc (.cells #[.bool neg2,.slice a' m.length c'] 30)).alloc (.cells #[.bool false,.slice none 0 0] 30)):=by go_grown
 have hgB:w.heap.size<=w.heap.size+1+1:=oo
 clear h h' hn hk hll hlm hp hR;go_enter Tryz.func20,Tryz.ntmps20;go_wp2;revert hz hx1 hx2 hb0 hgB;generalize ((w.alloc (.cells #[.bool neg1,.slice a l.length c] 30)).alloc (.cells #[.bool neg2,.slice a' m.length c'] 30)).alloc (.cells #[.bool false,.slice none 0 0] 30)=w0;generalize w.heap.size+1+1=g;intro hz hx1 hx2 hb0 hgB;have k0:=held (hx1.cell 0);have k1:=held (hx1.cell 1);have k2:=held (hx2.cell 0);have k3:=held (hx2.cell 1);have s0:Below w0.heap.size w0 w0.drew:=brf.drew;have hgl:=hz.lt;have HR:=Hd hR0;clear hR0
 cases neg1 <;> cases neg2
 all_goals
  refine wrx (S:=Below w0.heap.size w0) [(0,.q),(1,.q),(2,.q),(3,.q),(4,.q),(5,.q),(6,.q),(7,.q),(8,.q),(9,.l),(10,.t),(11,.t)] (s0) ?_
  iterate 9 (refine qaf rfl rfl fun K hK=>xq ?_;go_simp;refine hK _ _ ?_;clear hK K)
  refine vl fun K hK=>?_
  go_simp;refine (CM.out _ (bth hb0 s0)).mono ?_;rintro r w1 ⟨a3,c3,rfl,hV3,hb1⟩;dsimp only;refine hK.out _ _ (bth s0 hb1) (fun _=>?_);clear hK K;have s1:=bth s0 hb1;have hr3:=hV3 w1 (New.refl _ _);clear hV3;refine vt fun K hK=>?_
  go_simp;refine (CF.out _ _ _ hr3).mono ?_;rintro r w2 ⟨a1,c1,rfl,hV,hb2⟩;dsimp only;refine hK.out _ _ ?_;clear hK K;have s2:=bth s1 hb2;have hz3:=hz.below' s2;obtain ⟨z0,z1⟩:=cq2 hz3;obtain ⟨f0,f1⟩:=fq2 hz3;have hw2:=bth hb0 s2;have hs1:=(bth hb0 s1).size;have hg1:g<w1.heap.size:=ltl hgl s1.size;have HV:=Hd hV;clear hV hr3 k0 k1 k2 k3;refine vt fun K hK=>?_
  go_simp;refine hK.out _ _ ?_;clear hK K;refine qad ?_;go_wp2;have hF:=blk2 (x:=.bool R) (y:=.slice a1 (limbs n).length c1) hz3;obtain ⟨e0,e1⟩:=cq2 hF;refine bodyPost_ret (v:=.agg #[.bool R,.slice a1 (limbs n).length c1]) (by simp [results,Tryz.results20,go_sem,e0,e1]) rfl ?_;exact ⟨a1,c1,rfl,fun V hV=>HV.out V (back2 hV hs1 hg1),qbt hw2 hgB⟩
theorem qtg (neg1 neg2:Bool) (n1 n2:Nat) {b1 b2:Bool} (h1:(neg1&&decide (0<n1))=b1) (h2:(neg2&&decide (0<n2))=b2) :
  cmpI (zval neg1 n1) (zval neg2 n2)=if (b1 && !b2)=true then -1 else if (b2 && !b1)=true then 1 else if b1=true then cmpN n2 n1 else cmpN n1 n2:=by
 subst h1 h2;unfold cmpI zval cmpN
 cases neg1 <;> cases neg2 <;> by_cases p1:0<n1 <;> by_cases p2:0<n2 <;> simp [p1,p2]
 all_goals (repeat' split) <;> omega
theorem qup (neg1 neg2:Bool) (l m:List Int) (n1 n2:Nat) (a a':Option Addr) (c c':Nat) (w:World) (h:NatR w a c l) (h':NatR w a' c' m) (hn:val l=n1) (hk:val m=n2) (hl:l.length<=4000000) (hm:m.length<=4000000) :
  Calls Tryz.prog 19 #[.agg #[.bool neg1,.slice a l.length c],.agg #[.bool neg2,.slice a' m.length c']] w fun e w'=>e=.returned (.int .i64 (cmpI (zval neg1 n1) (zval neg2 n2)))/\Below w.heap.size w w':=by
 have hll:=qah h.u16;have hlm:=qah h'.u16;rw [hn] at hll;rw [hk] at hlm;have C1:=fun W (hW:bw w W)=>qf5 neg1 l n1 a c W (h.ext (xbw hW)) hn oo
 have C2:=fun W (hW:bw w W)=>qf5 neg2 m n2 a' c' W (h'.ext (xbw hW)) hk oo
 have CA:=fun a1 a2 c1 c2 W h1 h2=>qfq (limbs n1) (limbs n2) a1 a2 c1 c2 W h1 h2 oo oo
 have CB:=fun a1 a2 c1 c2 W h1 h2=>qfq (limbs n2) (limbs n1) a1 a2 c1 c2 W h1 h2 oo oo
 simp only [qac] at CA CB;obtain ⟨b1,hb1'⟩:=nm ((neg1&&decide (0<n1)))
 obtain ⟨b2,hb2'⟩:=nm ((neg2&&decide (0<n2)))
 have hres:=qtg neg1 neg2 n1 n2 hb1' hb2';rw [hb1'] at C1;rw [hb2'] at C2;obtain ⟨R,hR⟩:=nm (cmpI (zval neg1 n1) (zval neg2 n2))
 rw [hR] at hres ⊢;have HRES:=Hd hres;replace C1:=Hd C1;replace C2:=Hd C2;replace CA:=Hd CA;replace CB:=Hd CB;have hx1:Blk ((w.alloc (.cells #[.bool neg1,.slice a l.length c] 30)).alloc (.cells #[.bool neg2,.slice a' m.length c'] 30)) w.heap.size 30 #[.bool neg1,.slice a l.length c]:=(Blk.new w _ _).alloc _;have hx2:Blk ((w.alloc (.cells #[.bool neg1,.slice a l.length c] 30)).alloc (.cells #[.bool neg2,.slice a' m.length c'] 30)) (w.heap.size+1) 30 #[.bool neg2,.slice a' m.length c']:=qa5 w _ _ _;have hb0:Below w.heap.size w ((w.alloc (.cells #[.bool neg1,.slice a l.length c] 30)).alloc (.cells #[.bool neg2,.slice a' m.length c'] 30)):=by go_grown
 have hgB:w.heap.size<w.heap.size+1:=oo
 clear h h' hn hk hll hlm hR hres hb1' hb2';go_enter Tryz.func19,Tryz.ntmps19;go_wp2;revert hx1 hx2 hb0 hgB;generalize (w.alloc (.cells #[.bool neg1,.slice a l.length c] 30)).alloc (.cells #[.bool neg2,.slice a' m.length c'] 30)=w0;generalize w.heap.size+1=g;intro hx1 hx2 hb0 hgB;have k0:=held (hx1.cell 0);have k1:=held (hx1.cell 1);have k2:=held (hx2.cell 0);have k3:=held (hx2.cell 1);have s0:Below w0.heap.size w0 w0.drew:=brf.drew;have hgl:=hx2.lt;refine wrx (S:=Below w0.heap.size w0) [(0,.q),(2,.q),(1,.l),(3,.t),(4,.t),(5,.t)] (s0) ?_
 iterate 2 (refine qaf rfl rfl fun K hK=>xq ?_;go_simp;refine hK _ _ ?_;clear hK K)
 refine vl fun K hK=>?_
 go_simp;refine (C1.out _ (bth hb0 s0)).mono ?_;rintro r w1 ⟨a1,c1,rfl,hV1,hb1⟩;dsimp only;refine hK.out _ _ (bth s0 hb1) (fun _=>?_);clear hK K;have s1:=bth s0 hb1;refine vt fun K hK=>?_
 go_simp;refine (C2.out _ (bth hb0 s1)).mono ?_;rintro r w2 ⟨a2,c2,rfl,hV2,hb2⟩;dsimp only;refine hK.out _ _ ?_;clear hK K;have s2:=bth s1 hb2;have hy1:=hx1.below' s2;have hy2:=hx2.below' s2;obtain ⟨z0,z1⟩:=cq2 hy1;obtain ⟨z2,z3⟩:=cq2 hy2;obtain ⟨f0,f1⟩:=fq2 hy1;obtain ⟨f2,f3⟩:=fq2 hy2;have hne:¬ g=w.heap.size:=oo
 have hne2:¬ w.heap.size=g:=oo
 have HV1:=Hd hV1;have HV2:=Hd hV2;have hw2:=bth hb0 s2;have hs1:=s1.size;have hs2:=s2.size;clear hV1 hV2 k0 k1 k2 k3;refine vt fun K hK=>?_
 go_simp;refine hK.out _ _ ?_;clear hK K;refine vt fun K hK=>?_
 go_simp;refine hK.out _ _ ?_;clear hK K;refine qad ?_;have hF1:=((blk2 (x:=.bool b1) (y:=.slice a1 (limbs n1).length c1) hy1).far (p:=⟨g,0,none⟩) hne2 (.bool b2)).far (p:=⟨g,1,none⟩) hne2 (.slice a2 (limbs n2).length c2);have hF2:=blk2 (x:=.bool b2) (y:=.slice a2 (limbs n2).length c2) ((hy2.far (p:=⟨w.heap.size,0,none⟩) hne (.bool b1)).far (p:=⟨w.heap.size,1,none⟩) hne (.slice a1 (limbs n1).length c1));have hwF:=qbt (x:=.bool b2) (y:=.slice a2 (limbs n2).length c2) (qbt (x:=.bool b1) (y:=.slice a1 (limbs n1).length c1) hw2 (nlr _)) (Nat.le_of_lt hgB);have hN:=New.refl w0.heap.size ((((w2.setCell ⟨w.heap.size,0,none⟩ (.bool b1)).setCell ⟨w.heap.size,1,none⟩ (.slice a1 (limbs n1).length c1)).setCell ⟨g,0,none⟩ (.bool b2)).setCell ⟨g,1,none⟩ (.slice a2 (limbs n2).length c2));have hN2:=back2 (back2 hN (nlr _) hgl) (nlr _) hx1.lt;revert hF1 hF2 hwF hN2
 generalize (((w2.setCell ⟨w.heap.size,0,none⟩ (.bool b1)).setCell ⟨w.heap.size,1,none⟩ (.slice a1 (limbs n1).length c1)).setCell ⟨g,0,none⟩ (.bool b2)).setCell ⟨g,1,none⟩ (.slice a2 (limbs n2).length c2)=wF;intro hF1 hF2 hwF hN2;have r2:=HV2.out wF (hN2.base hs1);have r1:=HV1.out wF (hN2.below hb2);clear hN hy1 hy2 z0 z1 z2 z3 f0 f1 f2 f3 hx1 hx2 HV1 HV2 s0 s1 s2 hb1 hb2;obtain ⟨z0,z1⟩:=cq2 hF1;obtain ⟨z2,z3⟩:=cq2 hF2;have CA2:=CA.out _ _ _ _ wF r1 r2;have CB2:=CB.out _ _ _ _ wF r2 r1;replace CA2:=Hd CA2;replace CB2:=Hd CB2;clear r1 r2
 cases b1 <;> cases b2
 ·
  obtain rfl:R=cmpN n1 n2:=by simpa using HRES.out
  go_wp2_with fail;refine CA2.out.mono ?_;rintro e w5 ⟨rfl,rfl⟩;go_wp2;go_ret;exact ⟨rfl,hwF⟩
 ·
  obtain rfl:R=1:=by simpa using HRES.out
  go_wp2;go_ret;exact ⟨rfl,hwF⟩
 ·
  obtain rfl:R = -1:=by simpa using HRES.out
  go_wp2;go_ret;exact ⟨rfl,hwF⟩
 ·
  obtain rfl:R=cmpN n2 n1:=by simpa using HRES.out
  go_wp2_with fail;refine CB2.out.mono ?_;rintro e w5 ⟨rfl,rfl⟩;go_wp2;go_ret;exact ⟨rfl,hwF⟩
def RetQ (neg:Bool) (n d:Nat) (w:World) (e:Ending) (w':World):Prop:=∃ na nc da dc,e=.returned (.agg #[.bool neg,.slice na (limbs n).length nc,.slice da (limbs d).length dc]) /\
 (∀ V,New w.heap.size w' V->NatR V na nc (limbs n))/\(∀ V,New w.heap.size w' V->NatR V da dc (limbs d))/\Below w.heap.size w w'
theorem qws (neg:Bool) (l m:List Int) (a a':Option Addr) (c c':Nat) (w:World) (h':NatR w a' c' m) (hk:val m=0) (hm:m.length<=2000000) :
  Calls Tryz.prog 39 #[.agg #[.bool neg,.slice a l.length c],.slice a' m.length c'] w (RetQ false 0 1 w):=by
 have CN:=fun W (hW:bw w W)=>qbk m a' c' W (h'.ext (xbw hW)) oo
 rw [hk,qao] at CN;have CO:=fun W=>qc4 1 W oo
 replace CN:=Hd CN;replace CO:=Hd CO;have hz:Blk ((w.alloc (.cells #[.bool neg,.slice a l.length c] 30)).alloc (.cells #[.bool false,.slice none 0 0,.slice none 0 0] 32)) (w.heap.size+1) 32 #[.bool false,.slice none 0 0,.slice none 0 0]:=qa5 w _ _ _;have hb0:Below w.heap.size w ((w.alloc (.cells #[.bool neg,.slice a l.length c] 30)).alloc (.cells #[.bool false,.slice none 0 0,.slice none 0 0] 32)):=by go_grown
 have hgB:w.heap.size<=w.heap.size+1:=oo
 unfold RetQ;rw [qao];clear h' hk;go_enter Tryz.func39,Tryz.ntmps39;go_wp2_with fail;have hgl:=hz.lt;revert hz hb0 hgB hgl;generalize (w.alloc (.cells #[.bool neg,.slice a l.length c] 30)).alloc (.cells #[.bool false,.slice none 0 0,.slice none 0 0] 32)=w0;generalize w.heap.size+1=g;intro hz hb0 hgB hgl;refine (CN.out _ hb0).mono ?_;rintro e w1 ⟨a3,c3,rfl,_,hb1⟩;have hw1:=bth hb0 hb1;have hz1:=hz.below' hb1;go_wp2_with fail;refine (CO.out _).mono ?_;rintro e w2 ⟨a1,c1,rfl,hV,hb2⟩;have hw2:=bth hw1 hb2;have hz2:=hz1.below' hb2;have hg1:=hz1.lt;have HV:=Hd hV;obtain ⟨z0,z1,z2⟩:=cq3 hz2;obtain ⟨f0,f1,f2⟩:=fq3 hz2;clear hV;go_wp2;have hF:=blk3 (x:=.bool false) (y:=.slice none 0 0) (z:=.slice a1 (limbs 1).length c1) hz2;obtain ⟨e0,e1,e2⟩:=cq3 hF;refine bodyPost_ret (v:=.agg #[.bool false,.slice none 0 0,.slice a1 (limbs 1).length c1]) (by simp [results,Tryz.results39,go_sem,e0,e1,e2]) rfl ?_
 exact ⟨none,0,a1,c1,rfl,fun _ _=>SlR.nil,fun V hV=>HV.out V (back3 hV hw1.size hg1),qbu hw2 hgB⟩
theorem qxm (neg:Bool) (l m:List Int) (n d:Nat) (a a':Option Addr) (c c':Nat) (w:World) (h:NatR w a c l) (h':NatR w a' c' m) (hn:val l=n) (hk:val m=d) (hl:l.length<=2000000) (hm:m.length<=2000000) (h0:0<d) :
  Calls Tryz.prog 39 #[.agg #[.bool neg,.slice a l.length c],.slice a' m.length c'] w (RetQ (neg&&decide (0<n / Nat.gcd n d)) (n / Nat.gcd n d) (d / Nat.gcd n d) w):=by
 have hll:=qah h.u16;have hlm:=qah h'.u16;rw [hn] at hll;rw [hk] at hlm;have hgp:0<Nat.gcd n d:=Nat.gcd_pos_of_pos_right n h0;have hgd:Nat.gcd n d<=d:=Nat.le_of_dvd h0 (Nat.gcd_dvd_right n d);have hgl0:=qap hgd;have hnl:=qap (Nat.div_le_self n (Nat.gcd n d));have CN:=fun W (hW:bw w W)=>qbk m a' c' W (h'.ext (xbw hW)) oo
 rw [hk] at CN;have CG:=fun W (hW:bw w W)=>qm3 l m n d a a' c c' W (h.ext (xbw hW)) (h'.ext (xbw hW)) hn hk hl hm
 have CD1:=fun ag cg W (hW:bw w W) hr=>qge l (limbs (Nat.gcd n d)) n (Nat.gcd n d) a ag c cg W (h.ext (xbw hW)) hr hn (qac _) hl oo hgp
 have CD2:=fun ag cg W (hW:bw w W) hr=>qge m (limbs (Nat.gcd n d)) d (Nat.gcd n d) a' ag c' cg W (h'.ext (xbw hW)) hr hk (qac _) hm oo hgp
 have CZ:=fun ag cg W hr=>qf5 neg (limbs (n / Nat.gcd n d)) (n / Nat.gcd n d) ag cg W hr (qac _) oo
 have hne:(((limbs d).length:Int)==0)=false:=by rw [beq_eq_false_iff_ne];have:=qat.2 h0;omega
 obtain ⟨R,hR⟩:=nm ((neg&&decide (0<n / Nat.gcd n d)))
 rw [hR] at CZ ⊢;unfold RetDM at CD1 CD2;obtain ⟨gg,hgg⟩:=nm (Nat.gcd n d)
 simp only [hgg] at CG CD1 CD2 CZ ⊢;obtain ⟨N,hN⟩:=nm (n / gg)
 obtain ⟨D,hD⟩:=nm (d / gg)
 simp only [hN] at CD1 CZ ⊢;simp only [hD] at CD2 ⊢;replace CN:=Hd CN;replace CG:=Hd CG;replace CD1:=Hd CD1;replace CD2:=Hd CD2;replace CZ:=Hd CZ;have hz:Blk ((w.alloc (.cells #[.bool neg,.slice a l.length c] 30)).alloc (.cells #[.bool false,.slice none 0 0,.slice none 0 0] 32)) (w.heap.size+1) 32 #[.bool false,.slice none 0 0,.slice none 0 0]:=qa5 w _ _ _;have hx:Blk ((w.alloc (.cells #[.bool neg,.slice a l.length c] 30)).alloc (.cells #[.bool false,.slice none 0 0,.slice none 0 0] 32)) w.heap.size 30 #[.bool neg,.slice a l.length c]:=(Blk.new w _ _).alloc _;have hb0:Below w.heap.size w ((w.alloc (.cells #[.bool neg,.slice a l.length c] 30)).alloc (.cells #[.bool false,.slice none 0 0,.slice none 0 0] 32)):=by go_grown
 have hgB:w.heap.size<=w.heap.size+1:=oo
 clear h h' hn hk hll hlm hgp hgd hgl0 hnl hR hgg hN hD;go_enter Tryz.func39,Tryz.ntmps39;go_wp2_with fail;have hgl:=hz.lt;revert hz hx hb0 hgB hgl;generalize (w.alloc (.cells #[.bool neg,.slice a l.length c] 30)).alloc (.cells #[.bool false,.slice none 0 0,.slice none 0 0] 32)=w0;generalize w.heap.size+1=g;intro hz hx hb0 hgB hgl;refine (CN.out _ hb0).mono ?_;rintro e w1 ⟨a3,c3,rfl,_,hb1⟩;have hw1:=bth hb0 hb1;have hx1:=hx.below' hb1;have hz1:=hz.below' hb1;obtain ⟨z0,z1⟩:=cq2 hx1;clear hz hx hb1 hgl;go_wp2_with fail;refine (CG.out _ hw1).mono ?_;rintro e w2 ⟨a4,c4,rfl,hV4,hb2⟩;have hw2:=bth hw1 hb2;have hx2:=hx1.below' hb2;have hz2:=hz1.below' hb2;have hr4:=hV4 w2 (New.refl _ _);have CE1:=CD1.out a4 c4 w2 hw2 hr4;replace CE1:=Hd CE1;clear z0 z1 hV4 hx1 hz1;obtain ⟨z0,z1⟩:=cq2 hx2;go_wp2_with fail;refine CE1.out.mono ?_;rintro e w3 ⟨a5,c5,_,_,rfl,hV5,_,hb3⟩;have hw3:=bth hw2 hb3
 have hx3:=hx2.below' hb3;have hz3:=hz2.below' hb3;have hg3:=hz3.lt;have HV5:=Hd hV5;have CE2:=CD2.out a4 c4 w3 hw3 (hr4.ext (xbw hb3));replace CE2:=Hd CE2;clear z0 z1 hV5 hx2 hz2 hr4 CE1;obtain ⟨z0,z1⟩:=cq2 hx3;go_wp2_with fail;refine CE2.out.mono ?_;rintro e w4 ⟨a6,c6,_,_,rfl,hV6,_,hb4⟩;have hw4:=bth hw3 hb4;have hx4:=hx3.below' hb4;have hz4:=hz3.below' hb4;have HV6:=Hd hV6;have CF:=CZ.out a5 c5 w4 (HV5.out w4 ((New.refl _ _).below hb4));replace CF:=Hd CF;clear z0 z1 hV6 hx3 hz3 CE2;obtain ⟨z0,z1⟩:=cq2 hx4;go_wp2_with fail;refine CF.out.mono ?_;rintro e w5 ⟨a7,c7,rfl,hV7,hb5⟩;have hw5:=bth hw4 hb5;have hz5:=hz4.below' hb5;have HV7:=Hd hV7;have hg4:=hz4.lt;clear z0 z1 hV7 hx4 CF;obtain ⟨z0,z1,z2⟩:=cq3 hz5;obtain ⟨f0,f1,f2⟩:=fq3 hz5;go_wp2;have hF:=blk3 (x:=.bool R) (y:=.slice a7 (limbs N).length c7) (z:=.slice a6 (limbs D).length c6) hz5;obtain ⟨e0,e1,e2⟩:=cq3 hF
 refine bodyPost_ret (v:=.agg #[.bool R,.slice a7 (limbs N).length c7,.slice a6 (limbs D).length c6]) (by simp [results,Tryz.results39,go_sem,e0,e1,e2]) rfl ?_;exact ⟨a7,c7,a6,c6,rfl,fun V hV=>HV7.out V (back3 hV hw4.size hg4),fun V hV=>HV6.out V ((back3 hV hw3.size hg3).below hb5),qbu hw5 hgB⟩
def qak (neg:Bool) (n d:Nat):Bool × Nat × Nat:=if d=0 then (false,0,1) else (neg&&decide (0<n / Nat.gcd n d),n / Nat.gcd n d,d / Nat.gcd n d)
def RetF (t:Bool × Nat × Nat) (w:World) (e:Ending) (w':World):Prop:=RetQ t.1 t.2.1 t.2.2 w e w'
theorem qhz (neg:Bool) (l m:List Int) (n d:Nat) (a a':Option Addr) (c c':Nat) (w:World) (h:NatR w a c l) (h':NatR w a' c' m) (hn:val l=n) (hk:val m=d) (hl:l.length<=2000000) (hm:m.length<=2000000) :
  Calls Tryz.prog 39 #[.agg #[.bool neg,.slice a l.length c],.slice a' m.length c'] w (RetF (qak neg n d) w):=by
 unfold RetF qak;by_cases h0:d=0
 ·
  rw [if_pos h0];exact qws neg l m a a' c c' w h' (by rw [hk,h0]) hm
 ·
  rw [if_neg h0];exact qxm neg l m n d a a' c c' w h h' hn hk hl hm oo
theorem qd6 (neg:Bool) (l m:List Int) (n d:Nat) (a a':Option Addr) (c c':Nat) (w:World) (h:NatR w a c l) (h':NatR w a' c' m) (hn:val l=n) (hk:val m=d) (hl:l.length<=2000000) (hm:m.length<=2000000) :
  Calls Tryz.prog 18 #[.agg #[.bool neg,.slice a l.length c,.slice a' m.length c']] w (RetF (qak neg n d) w):=by
 have CO:=fun W (hW:bw w W)=>qhz neg l m n d a a' c c' W (h.ext (xbw hW)) (h'.ext (xbw hW)) hn hk hl hm
 obtain ⟨t,ht⟩:=nm (qak neg n d)
 rw [ht] at CO ⊢;obtain ⟨s,N,D⟩:=t;unfold RetF at CO ⊢;dsimp only at CO ⊢;replace CO:=Hd CO;have hz:Blk ((w.alloc (.cells #[.bool neg,.slice a l.length c,.slice a' m.length c'] 32)).alloc (.cells #[.bool false,.slice none 0 0,.slice none 0 0] 32)) (w.heap.size+1) 32 #[.bool false,.slice none 0 0,.slice none 0 0]:=qa5 w _ _ _;have hb0:Below w.heap.size w ((w.alloc (.cells #[.bool neg,.slice a l.length c,.slice a' m.length c'] 32)).alloc (.cells #[.bool false,.slice none 0 0,.slice none 0 0] 32)):=by go_grown
 have hgB:w.heap.size<=w.heap.size+1:=oo
 have hgl:=hz.lt;clear h h' hn hk ht;go_enter Tryz.func18,Tryz.ntmps18;go_wp2_with fail;revert hz hb0 hgB hgl;generalize (w.alloc (.cells #[.bool neg,.slice a l.length c,.slice a' m.length c'] 32)).alloc (.cells #[.bool false,.slice none 0 0,.slice none 0 0] 32)=w0;generalize w.heap.size+1=g;intro hz hb0 hgB hgl;refine (CO.out _ hb0).mono ?_;rintro e w1 ⟨a1,c1,a2,c2,rfl,hV1,hV2,hb1⟩;have hw1:=bth hb0 hb1;have hz1:=hz.below' hb1;have HV1:=Hd hV1;have HV2:=Hd hV2;obtain ⟨z0,z1,z2⟩:=cq3 hz1;obtain ⟨f0,f1,f2⟩:=fq3 hz1;have hs0:=hb0.size;clear hV1 hV2 hb0;go_wp2;have hF:=blk3 (x:=.bool s) (y:=.slice a1 (limbs N).length c1) (z:=.slice a2 (limbs D).length c2) hz1;obtain ⟨e0,e1,e2⟩:=cq3 hF;refine bodyPost_ret (v:=.agg #[.bool s,.slice a1 (limbs N).length c1,.slice a2 (limbs D).length c2]) (by simp [results,Tryz.results18,go_sem,e0,e1,e2]) rfl ?_
 exact ⟨a1,c1,a2,c2,rfl,fun V hV=>HV1.out V (back3 hV hs0 hgl),fun V hV=>HV2.out V (back3 hV hs0 hgl),qbu hw1 hgB⟩
theorem qky (neg:Bool) (n d:Nat):qak (neg&&decide (0<n)) n d=qak neg n d:=by
 unfold qak
 split
 · rfl
 ·
  next h0 =>
  by_cases hn:n=0
  ·
   subst hn;simp
  ·
   have:decide (0<n)=true:=by rw [decide_eq_true_eq];omega
   rw [this,Bool.and_true]
def RetM (t:Bool × Nat × Nat) (w:World) (e:Ending) (w':World):Prop:=∃ na nc da dc,e=.returned (.tuple #[.agg #[.bool t.1,.slice na (limbs t.2.1).length nc,.slice da (limbs t.2.2).length dc],.int .i64 0]) /\
 (∀ V,New w.heap.size w' V->NatR V na nc (limbs t.2.1))/\(∀ V,New w.heap.size w' V->NatR V da dc (limbs t.2.2))/\Below w.heap.size w w'
theorem qg4 (n:Nat) (a:Option Addr) (c:Nat) (w:World) :
  Calls Tryz.prog 21 #[.slice a n c] w fun e w'=>e=.returned (.agg #[.bool false,.slice a n c])/\Below w.heap.size w w':=by
 go_enter Tryz.func21,Tryz.ntmps21;go_wp2;have hF:=Blk.new w 30 #[.bool false,.slice a n c];obtain ⟨e0,e1⟩:=cq2 hF;refine bodyPost_ret (v:=.agg #[.bool false,.slice a n c]) (by simp [results,Tryz.results21,go_sem]) rfl ?_;exact ⟨rfl,brf.alloc (nlr _) _⟩
theorem qi3 {z:Int} (hi:InInt z):(limbs z.natAbs).length<=4:=by
 obtain ⟨h1,h2⟩:=hi;have:(65536:Nat) ^ 4=18446744073709551616:=by decide
 exact qam oo
theorem qmr (z:Int) (w:World) (hi:InInt z) :
  Calls Tryz.prog 106 #[.int .i64 z] w (RetF (qak (decide (z<0)) z.natAbs 1) w):=by
 have hl4:=qi3 hi;have hl1:(limbs 1).length<=4:=qam dd;have CZ:=fun W=>qt5 z W hi
 have C1:=fun W=>qc4 1 W oo
 have CO:=fun a a' c c' W h h'=>qhz (decide (z<0)) (limbs z.natAbs) (limbs 1) z.natAbs 1 a a' c c' W h h' (qac _) (qac _) oo oo
 obtain ⟨t,ht⟩:=nm (qak (decide (z<0)) z.natAbs 1)
 obtain ⟨ng,hng⟩:=nm (decide (z<0))
 obtain ⟨nz,hnz⟩:=nm z.natAbs
 rw [ht] at CO ⊢;simp only [hng,hnz] at CO CZ;obtain ⟨s,N,D⟩:=t;unfold RetF at CO ⊢;dsimp only at CO ⊢;replace CZ:=Hd CZ;replace C1:=Hd C1;replace CO:=Hd CO;have hz:Blk (w.alloc (.cells #[.bool false,.slice none 0 0,.slice none 0 0] 32)) w.heap.size 32 #[.bool false,.slice none 0 0,.slice none 0 0]:=Blk.new w _ _;have hb0:Below w.heap.size w (w.alloc (.cells #[.bool false,.slice none 0 0,.slice none 0 0] 32)):=brf.alloc (nlr _) _;clear ht hng hnz hl4 hl1;go_enter Tryz.func106,Tryz.ntmps106;go_wp2_with fail;revert hz hb0;generalize w.alloc (.cells #[.bool false,.slice none 0 0,.slice none 0 0] 32)=w0;intro hz hb0;refine (CZ.out _).mono ?_;rintro e w1 ⟨a1,c1,rfl,hV1,hb1⟩;have hw1:=bth hb0 hb1;have hz1:=hz.below' hb1;have HV1:=Hd hV1;clear hV1;go_wp2_with fail;refine (C1.out _).mono ?_;rintro e w2 ⟨a2,c2,rfl,hV2,hb2⟩;have hw2:=bth hw1 hb2;have hz2:=hz1.below' hb2
 have CF:=CO.out a1 a2 c1 c2 w2 (HV1.out w2 ((New.refl _ _).below hb2)) (hV2 w2 (New.refl _ _));replace CF:=Hd CF;clear hV2;go_wp2_with fail;refine CF.out.mono ?_;rintro e w3 ⟨a3,c3,a4,c4,rfl,hV3,hV4,hb3⟩;have hw3:=bth hw2 hb3;have hz3:=hz2.below' hb3;have HV3:=Hd hV3;have HV4:=Hd hV4;have hs2:=hw2.size;have hgl2:=hz2.lt;obtain ⟨z0,z1,z2⟩:=cq3 hz3;obtain ⟨f0,f1,f2⟩:=fq3 hz3;clear hV3 hV4;go_wp2;have hF:=blk3 (x:=.bool s) (y:=.slice a3 (limbs N).length c3) (z:=.slice a4 (limbs D).length c4) hz3;obtain ⟨e0,e1,e2⟩:=cq3 hF;refine bodyPost_ret (v:=.agg #[.bool s,.slice a3 (limbs N).length c3,.slice a4 (limbs D).length c4]) (by simp [results,Tryz.results106,go_sem,e0,e1,e2]) rfl ?_;exact ⟨a3,c3,a4,c4,rfl,fun V hV=>HV3.out V (back3 hV hs2 hgl2),fun V hV=>HV4.out V (back3 hV hs2 hgl2),qbu hw3 (nlr _)⟩
end Go.Proofs.YtmdlbpibipnapaaGreat
