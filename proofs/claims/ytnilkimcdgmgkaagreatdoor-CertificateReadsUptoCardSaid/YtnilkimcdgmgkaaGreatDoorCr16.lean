/- Walks: the program's rational numbers: Make of a denominator 0; Neg of the number that an error leaves. -/
import Derived.Test.YtnilkimcdgmgkaaGreatDoorCr15
import Derived.Test.YtnilkimcdgmgkaaGreatDoorCr1
import Derived.Test.YtnilkimcdgmgkaaGreatDoorCr13
import Derived.Test.YtnilkimcdgmgkaaGreatDoorCr5
import Derived.Test.YtnilkimcdgmgkaaGreatDoorCr8
import Derived.Test.YtnilkimcdgmgkaaGreatDoorCr7
set_option linter.all false
set_option maxRecDepth 100000
set_option maxHeartbeats 4000000
namespace Go.Proofs.YtnilkimcdgmgkaaGreatDoor
open Go.RowKit
def ArrZ (w:World) (g:Nat) (l:List Int):Prop:=Blk w g 211 (l.map (Value.int .i64)).toArray
section
variable {w w' : World} {g : Nat} {l : List Int}
theorem ArrZ.cell (h:ArrZ w g l) {i:Nat} {x:Int} (hx:l[i]? = some x):w.cell? ⟨g,i,none⟩=some (.int .i64 x):=by
 rw [Blk.cell h i];simp [hx]
theorem ArrZ.set_ (h:ArrZ w g l) (i:Nat) (x:Int):ArrZ (w.setCell ⟨g,i,none⟩ (.int .i64 x)) g (l.set i x):=by
 have:=Blk.set_ h i (.int .i64 x);unfold ArrZ;rw [List.setIfInBounds_toArray,<- List.map_set] at this;exact this
theorem ArrZ.reads (h:ArrZ w g l) (hs:∀ x∈l,0<=x/\x<=2097152) (hl:l.length=64):IntsR w (some ⟨g,0,none⟩) 64 l :=
 ⟨by omega,by simp [maxLen],fun k x hx=>⟨g,0,rfl,by simpa using h.cell hx,wf_of (by have:=hs x (List.mem_of_getElem? hx);unfold InInt;omega)⟩⟩
end
theorem Kp.low {R:World->Prop} {B B' T:Nat} {w:World} (h:Kp R B T w) (hB:B'<=B):Kp R B' T w:=fun V hV=>h V fun p v h1=>hV p v (Nat.le_trans hB h1)
def InZ (m:List Int):Prop:=m.length=64/\∀ x∈m,0<=x/\x<=2097152
theorem InM.z {m:List Int} (h:InM m):InZ m:=⟨h.1,fun x hx=>by have:=h.2 x hx;omega⟩
theorem InM.at_ {m:List Int} (h:InM m) {v:Nat} (hv:v<64):m[v]? = some (expAt m v)/\0<=expAt m v/\expAt m v<=1048576:=by
 obtain ⟨x,hx⟩:=qad (xs:=m) (k:=v) (by rw [h.1];exact hv);have e:expAt m v=x:=by unfold expAt;rw [List.getD_eq_getElem?_getD,hx];rfl
 rw [e];exact ⟨hx,h.2 x (List.mem_of_getElem? hx)⟩
theorem InM.put {m:List Int} (h:InM m) {v:Nat} {x:Int} (h0:0<=x) (h1:x<=1048576):InM (m.set v x):=⟨by rw [List.length_set];exact h.1,fun y hy=>by
 rcases List.mem_or_eq_of_mem_set hy with hy | rfl
 · exact h.2 y hy
 · exact ⟨h0,h1⟩⟩
theorem InM.putz {m:List Int} (h:InM m) {v:Nat} {x:Int} (h0:0<=x) (h1:x<=2097152):InZ (m.set v x):=⟨by rw [List.length_set];exact h.1,fun y hy=>by
 rcases List.mem_or_eq_of_mem_set hy with hy | rfl
 · exact h.z.2 y hy
 · exact ⟨h0,h1⟩⟩
theorem qn5 {names:List ByteArray} {l:List UInt8} {k:Nat} {e:Int} (h:namG names l=.bad k e):powG names l=.bad k e:=by unfold powG;rw [h];rfl
theorem qrc {names:List ByteArray} {l r:List UInt8} {v:Nat} (h:namG names l=.ok v r) (hr:r[0]? ≠ some 94):powG names l=.ok (v,1) r:=by
 unfold powG;rw [h];show (if _ then _ else _)=_;rw [if_neg hr]
theorem qqm {names:List ByteArray} {l r:List UInt8} {v:Nat} (h:namG names l=.ok v r) (hr:r[0]? = some 94):powG names l=(expG (r.drop 1)).bnd fun n r2=>.ok (v,(n:Int)) r2:=by
 unfold powG;rw [h]
 show (if _ then _ else _)=_
 rw [if_pos hr];unfold expG
 cases numG (r.drop 1) with
 | bad k e=>rfl
 | ok d r2 =>
  show (if _ then _ else _)=(Got.bnd (if _ then _ else _) _)
  split <;> rfl
theorem qk9 {names:List ByteArray} {F n:Nat} {m:List Int} {l:List UInt8} {k:Nat} {e:Int} (h:powG names l=.bad k e):proG names F (n+1) m l=.bad k e:=by rw [proG,h];rfl
theorem qqu {names:List ByteArray} {F n:Nat} {m:List Int} {l r:List UInt8} {v:Nat} {x:Int} (h:powG names l=.ok (v,x) r) (hb:1048576<expAt m v+x):proG names F (n+1) m l=.bad F 4:=by
 rw [proG,h];show (if _ then _ else _)=_;rw [if_pos hb]
theorem qjh {names:List ByteArray} {F n:Nat} {m:List Int} {l r:List UInt8} {v:Nat} {x:Int} (h:powG names l=.ok (v,x) r) (hb:¬ 1048576<expAt m v+x) (hr:r[0]? = some 42):proG names F (n+1) m l=proG names F n (m.set v (expAt m v+x)) (r.drop 1):=by
 rw [proG,h];show (if _ then _ else _)=_;rw [if_neg hb,if_pos hr];rfl
theorem qpw {names:List ByteArray} {F n:Nat} {m:List Int} {l r:List UInt8} {v:Nat} {x:Int} (h:powG names l=.ok (v,x) r) (hb:¬ 1048576<expAt m v+x) (hr:r[0]? ≠ some 42):proG names F (n+1) m l=.ok (m.set v (expAt m v+x)) r:=by
 rw [proG,h];show (if _ then _ else _)=_;rw [if_neg hb,if_neg hr];rfl
def ProS (wr:World) (g mb g5:Nat) (s:ByteArray) (names:List ByteArray) (F:Nat) (PG:Got (List Int)) (gk:Nat):Prop :=
 (∃ (p fu:Nat) (m:List Int),p<=s.size/\s.size-p<gk/\s.size-p<fu/\InM m/\RdA wr g s mb p 0 0/\ArrZ wr g5 m/\PG=proG names F fu m (tl s p)) \/
 ∃ (k:Nat) (er:Int) (m:List Int),InZ m/\StE wr g s mb k er/\ArrZ wr g5 m/\PG=.bad k er
theorem qhf {names:List ByteArray} {l r:List UInt8} {v:Nat} (h:namG names l=.ok v r):r.length<l.length:=by
 unfold namG at h
 split at h
 · exact absurd h fun e=>qc4 e
 ·
  next h0 =>
  split at h
  · cases h
  ·
   injection h with h1 h2
   subst h2;have:l≠[]:=fun e=>h0 (by rw [e];rfl)
   have:=List.length_pos_iff.2 this;rw [List.length_drop];omega
theorem qn9 {l r:List UInt8} {n:Nat} (h:expG l=.ok n r):r.length<=l.length:=by
 unfold expG numG at h
 split at h
 · unfold lost at h;split at h <;> cases h
 ·
  split at h
  · cases h
  ·
   change (if _ then _ else _)=_ at h
   split at h
   · cases h
   ·
    injection h with h1 h2
    subst h2;rw [List.length_drop];omega
theorem zz45 {P:Prop} (h:P:=by
 rw [hin.out.1] at CN;obtain ⟨RV,hRV⟩:∃ R,(if monoB (cutM mz)=true then cutM mz else [])=R:=⟨_,rfl⟩
 rw [hRV] at CN;replace hRV:=Hd hRV;replace CN:=Hd CN;clear hI;go_wp2_with fail;refine CN.out.mono ?_;rintro e w9 ⟨a9,c9,rfl,hK9,hb9⟩;have hSE9:=hSEX.out.below hb9;go_wp2;go_ret;exact ⟨_,a9,c9,rfl,fun m' r e=>(by cases hGe.out.symm.trans e),hK9.low hfX.out.size,by rw [hGe.out];exact hSE9,hfX.out.call hb9⟩
 ):P:=h
theorem zz50 {P:Prop} (h:P:=by
 have hI:=hArrX.out.reads hin.out.2 hin.out.1;have CN:=qg8 mz (some ⟨g5,0,none⟩) 64 w7 hI (by rw [hin.out.1];omega);exact zz45
 ):P:=h
theorem zz43 {P:Prop} (h:P:=by
 have CP:=Hd (qck g mb pe s er ((s.size-k:Nat):Int) 42 W6 hRe hpe hs);obtain ⟨bp,hbp⟩:∃ b,nxtB (tl s pe) 42=b:=⟨_,rfl⟩
 rw [hbp] at CP;replace hbp:=Hd hbp;refine CP.out.mono ?_;rintro e w7 ⟨rfl,hb7⟩;have hRe7:=hRe.below hb7;have hArrX:=Hd (show ArrZ w7 g5 mz from Blk.below' hArr6 hb7);have hfX:=Hd (hf6.call hb7);have hSEX:=Hd (show StE w7 g s mb k er from ⟨pe,hpe,hke,h0e.out,hRe7⟩);clear CP
 cases bp
 ·
  clear hRe7
  -- the end behind an error
  have hGe:=Hd (show GG=.bad k er by rw [<- hGG.out,hPGb.out];rfl);exact zz50
 ·
  have hl7:=Blk.lt hRe7;obtain ⟨z0,z1,z2,z3,z4⟩:=cq5 hRe7;clear hRe7;go_wp2;go_roundg 0
  case rel=>exact ⟨.inr ⟨k,er,mz,hin.out,hSEX.out,hArrX.out,hPGb.out⟩,hfX.out⟩
  case measure=>have:=hgk.out;omega
 ):P:=h
theorem zz44 {P:Prop} (h:P:=by
 have hPGb:=Hd (show PG=.bad (s.size-b0) 4 from hPG.out.trans (qqu hPW (by rw [hx];exact hbig)));have hin:=hinz;have hpe:=hp2;replace hx:=Hd hx;clear hPW;go_wp2_with fail;refine qah (fun W=>RdA W g s mb p2 0 0/\ArrZ W g5 mz/\Fg g w W) ⟨hRe3.out,hArr3.out,hf3.out⟩ ?_;rintro W5 ⟨hR5,hArr5,hf5⟩;clear hRe3 hArr3 hf3 z0 z1 z2 z3 z4 hcx hfz;refine (qdd g mb p2 s 4 (b0:Int) W5 hR5).mono ?_;rintro e W6 ⟨rfl,hRe,hff⟩;have hf6:=hf5.trans hff;have hArr6:ArrZ W6 g5 mz:=Blk.fr hArr5 hff (by have:=hg5.out;omega);clear hR5 hArr5 hf5 hff;go_wp2_with fail
 -- at the question for the star,in world W6,behind an error
 have CP:=Hd (qck g mb p2 s 4 (b0:Int) 42 W6 hRe hpe hs);obtain ⟨bp,hbp⟩:∃ b,nxtB (tl s p2) 42=b:=⟨_,rfl⟩
 rw [hbp] at CP;replace hbp:=Hd hbp;refine CP.out.mono ?_;rintro e w7 ⟨rfl,hb7⟩;have hRe7:=hRe.below hb7;have hArrX:=Hd (show ArrZ w7 g5 mz from Blk.below' hArr6 hb7);have hfX:=Hd (hf6.call hb7);have hSEX:=Hd (show StE w7 g s mb (s.size-b0) 4 from ⟨p2,hp2,by omega,by decide,by rw [show s.size-(s.size-b0)=b0 by omega];exact hRe7⟩);clear CP
 cases bp
 ·
  clear hRe7
  -- the end behind an error
  have hGe:=Hd (show GG=.bad (s.size-b0) 4 by rw [<- hGG.out,hPGb.out];rfl);exact zz50
 ·
  have hl7:=Blk.lt hRe7;obtain ⟨z0,z1,z2,z3,z4⟩:=cq5 hRe7;clear hRe7;go_wp2;go_roundg 0
  case rel=>exact ⟨.inr ⟨(s.size-b0),4,mz,hin.out,hSEX.out,hArrX.out,hPGb.out⟩,hfX.out⟩
  case measure=>have:=hgk.out;omega
 ):P:=h
theorem zz46 {P:Prop} (h:P:=by
 have hPGe:PG=.ok mz (tl s p2):=hPG.out.trans ((qpw hPW (by rw [hx];omega) (by simpa using hst.symm)).trans (by rw [hx,hmz.out]));replace hx:=Hd hx;clear hst hPW
 -- the end
 have hGe:=Hd (show GG=.ok (cutM mz) (tl s p2) by rw [<- hGG.out,hPGe];rfl);have hI:=hArrX.out.reads hin.out.z.2 hin.out.1;have CN:=qg8 mz (some ⟨g5,0,none⟩) 64 w7 hI (by rw [hin.out.1];omega);rw [hin.out.1,if_pos (qoq hin.out)] at CN;replace CN:=Hd CN;clear hI hPGe;go_wp2_with fail;refine CN.out.mono ?_;rintro e w9 ⟨a9,c9,rfl,hK9,hb9⟩;have hR9:=hR7.out.below hb9;go_wp2;go_ret;exact ⟨_,a9,c9,rfl,fun m' r e=>(by injection hGe.out.symm.trans e),hK9.low hfX.out.size,by rw [hGe.out];exact ⟨p2,hp2,rfl,hR9⟩,hfX.out.call hb9⟩
 ):P:=h
theorem zz47 {P:Prop} (h:P:=by
 go_wp2_with fail;refine qah (fun W=>RdA W g s mb pe er ((s.size-k:Nat):Int)/\ArrZ W g5 mz/\Fg g w W) ⟨hRe3.out,hArr3.out,hf3.out⟩ ?_;rintro W6 ⟨hRe,hArr6,hf6⟩;clear hRe3 hArr3 hf3 z0 z1 z2 z3 z4 hcx hfz;refine (qai2 g mb pe s er ((s.size-k:Nat):Int) 4 (b0:Int) W6 hRe h0e.out).mono ?_;rintro e w' ⟨rfl,rfl⟩;go_wp2_with fail
 -- at the question for the star,in world W6,behind an error
 exact zz43
 ):P:=h
theorem zz48 {P:Prop} (h:P:=by
 clear hRd7 hst hPW h42;go_wp2;go_roundg (s.size-(p2+1)+1)
 case rel=>exact ⟨.inl ⟨p2+1,fu,mz,hp2l,by omega,by have:=hfu.out;have:=hlt2.out;omega,hin.out,by unfold RdA;rw [hpc];exact hR8.out,hArr8.out,hPGn.out⟩,hf8.out⟩
 case measure=>have:=hgk.out;have:=hlt2.out;omega
 ):P:=h
theorem zz49 {P:Prop} (h:P:=by
 go_wp2_with fail;refine qah (fun W=>RdA W g s mb pe er ((s.size-k:Nat):Int)/\ArrZ W g5 mz/\Fg g w W) ⟨hRe3.out,hArr3.out,hf3.out⟩ ?_;rintro W6 ⟨hRe,hArr6,hf6⟩;clear hRe3 hArr3 hf3 z0 z1 z2 z3 z4 hcx hfz
 -- at the question for the star,in world W6,behind an error
 exact zz43
 ):P:=h
theorem qk5 (g mb a nm b0:Nat) (s:ByteArray) (names:List ByteArray) (w:World) (h:RdA w g s mb a 0 0) (ha:a<=s.size) (hs:s.size<=281474976710656) (hm:OwnV w mb nm (names.take 64)) (hne:mb≠g) (he:ErrW w) (hge:Tryz.lays172_ren.g 16≠g) (hb0:b0<=s.size) :
  Calls Tryz.prog 142 #[.pointer (some ⟨g,0,none⟩),.int .i64 b0] w fun u w'=>∃ m a' c',u=.returned (.slice a' m.length c')/\(∀ m' r,((proG names (s.size-b0) ((tl s a).length+1) zerM (tl s a)).bnd fun m r=>(.ok (cutM m) r:Got (List Int)))=.ok m' r->m=m') /\
   Kp (fun V=>IntsR V a' c' m) w.heap.size w'.heap.size w'/\StG w' g s mb ((proG names (s.size-b0) ((tl s a).length+1) zerM (tl s a)).bnd fun m r=>(.ok (cutM m) r:Got (List Int)))/\Fg g w w':=by
 have HM:=Hd (fun W (hW:Fg g w W)=>hm.fr hW hne);have HE:=Hd (fun W (hW:Fg g w W)=>he.fr hW hge);obtain ⟨PG,hPG0⟩:∃ G,proG names (s.size-b0) ((tl s a).length+1) zerM (tl s a)=G:=⟨_,rfl⟩
 rw [hPG0];rw [qaq] at hPG0;obtain ⟨GG,hGG⟩:∃ G,(PG.bnd fun m r=>(.ok (cutM m) r:Got (List Int)))=G:=⟨_,rfl⟩
 rw [hGG];replace hGG:=Hd hGG;replace hPG0:=Hd hPG0;have hlg:=Hd h.lt;have hR0:=Hd (fun o=>show RdA (w.alloc o) g s mb a 0 0 from bA h);clear h hm he;go_enter Tryz.func142,Tryz.ntmps142;go_wp2;refine qak (fun W=>RdA W g s mb a 0 0/\ArrZ W w.heap.size zerM/\Fg g w W) ⟨hR0.out _,Blk.new w _ _,(Fr.refl _ _).alloc _⟩ ?_;rintro w0 ⟨h0,hA0,hf0⟩;obtain ⟨g5,hg50⟩:∃ q,w.heap.size=q:=⟨_,rfl⟩
 have hg5w:Hid (w.heap.size<=g5):=Hd (by omega);have hg5:Hid (g<g5):=Hd (by have:=hlg.out;omega);rw [hg50] at hA0 ⊢;replace hg50:=Hd hg50;clear hR0
 go_loopg [6,7] (s.size+2) (fun gk _ _ wr=>ProS wr g mb g5 s names (s.size-b0) PG gk/\Fg g w wr)
 case atStart=>exact ⟨.inl ⟨a,s.size-a+1,zerM,ha,by omega,by omega,qmr,h0,hA0,hPG0.out.symm⟩,hf0⟩
 case round =>
  clear h0 hA0 hf0;obtain ⟨hP,hf⟩:=hrel;rcases hP with ⟨p,fu,m,hp,hgk,hfu,hM,hR,hArr,hPG⟩ | ⟨k,er,mz,hin,hSE,hArr,hPG⟩
  ·
   obtain ⟨fu,rfl⟩:∃ f,fu=f+1:=⟨fu-1,by omega⟩
   have CN:=Hd (qzf g mb p nm s names wr hR hp hs (HM.out wr hf) hne);replace hM:=Hd hM;replace hPG:=Hd hPG;replace hgk:=Hd hgk;replace hfu:=Hd hfu;obtain ⟨z0,z1,z2,z3,z4⟩:=cq5 hR;have hl:=hR.lt;have hpw1:=fun k e=>qn5 (names:=names) (l:=tl s p) (k:=k) (e:=e)
   have hpw2:=fun v r=>qrc (names:=names) (l:=tl s p) (r:=r) (v:=v)
   have hpw3:=fun v r=>qqm (names:=names) (l:=tl s p) (r:=r) (v:=v)
   obtain ⟨NG,hNG⟩:∃ G,namG names (tl s p)=G:=⟨_,rfl⟩
   rw [hNG] at CN hpw1 hpw2 hpw3;have hlen:=Hd (show ∀ v r,NG=.ok v r->r.length<s.size-p from fun v r e=>by have:=qhf (hNG.trans e);rwa [qaq] at this);replace CN:=Hd CN.out;replace hNG:=Hd hNG;replace hpw1:=Hd hpw1;replace hpw2:=Hd hpw2;replace hpw3:=Hd hpw3;clear hR;go_wp2_with fail;refine CN.out.mono ?_;rintro e w1 ⟨v,rfl,hv64,hvv,hS1,hf1⟩;have hf2:=hf.trans hf1;have hArr2:ArrZ w1 g5 m:=Blk.fr hArr hf1 (by have:=hg5.out;omega);clear CN z0 z1 z2 z3 z4 hl hArr hf hf1
   cases NG with
   | bad k er =>
    have hSE0:StE w1 g s mb k er:=hS1;clear hS1 hvv
    -- the exponents are written behind an error,in world w1
    obtain ⟨hmx,x0,x1⟩:=hM.out.at_ hv64;have hcx:=ArrZ.cell hArr2 hmx;have hfz:=Blk.frozen hArr2 v;have hgl5:=Blk.lt hArr2;obtain ⟨x,hx⟩:∃ x,expAt m v=x:=⟨_,rfl⟩
    rw [hx] at hcx x0 x1;have hArr3:=Hd (ArrZ.set_ hArr2 v (x+1));have hf3:=Hd (hf2.setc (g:=g5) (i:=v) (u:=.int .i64 (x+1)) (.inr hg5w.out));have hinz:=Hd (hM.out.putz (v:=v) (x:=x+1) (by omega) (by omega));have hvi:(v:Int)<64:=by omega
    obtain ⟨mz,hmz⟩:∃ z,m.set v (x+1)=z:=⟨_,rfl⟩
    rw [hmz] at hinz hArr3;replace hmz:=Hd hmz;clear hArr2 hmx;obtain ⟨pe,hpe,hke,h0e,hRe0⟩:=hSE0;have hRe3:=Hd (show RdA (w1.setCell ⟨g5,v,none⟩ (.int .i64 (x+1))) g s mb pe er ((s.size-k:Nat):Int) from bF (by have:=hg5.out;omega) hRe0);have hin:=hinz;have hzE:(er==0)=false:=by rw [beq_eq_false_iff_ne];exact h0e
    have hzE2:(er != 0)=true:=by rw [bne,hzE];rfl
    have hPGb:=Hd (show PG=.bad k er from hPG.out.trans (qk9 (hpw1.out k er rfl)));obtain ⟨z0,z1,z2,z3,z4⟩:=cq5 hRe0;have hl2:=Blk.lt hRe0;replace hx:=Hd hx;replace h0e:=Hd h0e;clear hRe0;by_cases hbig:1048576<x+1
    ·
     exact zz47
    ·
     exact zz49
   | ok v0 r =>
    obtain rfl:=hvv v0 r rfl;obtain ⟨p1,hp1,hr1,hR1⟩:=hS1;have hlt1:=hlen.out v r rfl;rw [hr1,qaq] at hlt1;have CP:=Hd (qck g mb p1 s 0 0 94 w1 hR1 hp1 hs);have hst:=qb3 (tl s p1) 94 (z:=94) rfl;obtain ⟨bp,hbp⟩:∃ b,nxtB (tl s p1) 94=b:=⟨_,rfl⟩
    rw [hbp] at CP hst;replace hbp:=Hd hbp;replace hr1:=Hd hr1;replace hlt1:=Hd hlt1;replace hst:=Hd hst;obtain ⟨z0,z1,z2,z3,z4⟩:=cq5 hR1;have hl:=hR1.lt;clear hvv;go_wp2_with fail;refine CP.out.mono ?_;rintro e w2 ⟨rfl,hb2⟩;have hR2:=hR1.below hb2;have hArr2':ArrZ w2 g5 m:=Blk.below' hArr2 hb2;have hf2':=hf2.call hb2;clear hArr2 hf2 CP z0 z1 z2 z3 z4 hl hR1 hb2;have hArr2:=hArr2';have hf2:=hf2';clear hArr2' hf2'
    cases bp
    ·
     have h94:(tl s p1)[0]? ≠ some 94:=by have:=hst.out;simpa using this.symm
     obtain ⟨p2,hpp⟩:∃ q,q=p1:=⟨_,rfl⟩
     subst hpp;have hp2:=hp1;have hPW:powG names (tl s p)=.ok (v,1) (tl s p2):=by have:=hpw2.out v r rfl (by rw [hr1.out];exact h94);rwa [hr1.out] at this
     clear h94 hp1
     -- the exponents are written,in world w2: the power is v,1,and p2 is the place behind it (hPW:powG names (tl s p)=.ok (v,1) (tl s p2))
     obtain ⟨hmx,x0,x1⟩:=hM.out.at_ hv64;have hcx:=ArrZ.cell hArr2 hmx;have hfz:=Blk.frozen hArr2 v;have hgl5:=Blk.lt hArr2;obtain ⟨x,hx⟩:∃ x,expAt m v=x:=⟨_,rfl⟩
     rw [hx] at hcx x0 x1;have hArr3:=Hd (ArrZ.set_ hArr2 v (x+1));have hf3:=Hd (hf2.setc (g:=g5) (i:=v) (u:=.int .i64 (x+1)) (.inr hg5w.out));have hinz:=Hd (hM.out.putz (v:=v) (x:=x+1) (by omega) (by omega));have hvi:(v:Int)<64:=by omega
     obtain ⟨mz,hmz⟩:∃ z,m.set v (x+1)=z:=⟨_,rfl⟩
     rw [hmz] at hinz hArr3;replace hmz:=Hd hmz;clear hArr2 hmx;have hRe3:=Hd (show RdA (w2.setCell ⟨g5,v,none⟩ (.int .i64 (x+1))) g s mb p2 0 0 from bF (by have:=hg5.out;omega) hR2);obtain ⟨z0,z1,z2,z3,z4⟩:=cq5 hR2;have hl2:=Blk.lt hR2;clear hR2;by_cases hbig:1048576<x+1
     ·
      exact zz44
     ·
      have hin:=Hd (hmz.out ▸ hM.out.put (v:=v) (x:=x+1) (by omega) (by omega):InM mz);go_wp2_with fail;refine qah (fun W=>RdA W g s mb p2 0 0/\ArrZ W g5 mz/\Fg g w W) ⟨hRe3.out,hArr3.out,hf3.out⟩ ?_;rintro W6 ⟨hR6,hArr6,hf6⟩;clear hRe3 hArr3 hf3 z0 z1 z2 z3 z4 hcx hfz;have CP:=Hd (qck g mb p2 s 0 0 42 W6 hR6 hp2 hs);have hst:=qb3 (tl s p2) 42 (z:=42) rfl;obtain ⟨bp,hbp⟩:∃ b,nxtB (tl s p2) 42=b:=⟨_,rfl⟩
      rw [hbp] at CP hst;replace hbp:=Hd hbp;refine CP.out.mono ?_;rintro e w7 ⟨rfl,hb7⟩;have hR7:=Hd (hR6.below hb7);have hArrX:=Hd (show ArrZ w7 g5 mz from Blk.below' hArr6 hb7);have hfX:=Hd (hf6.call hb7);clear CP hR6 hArr6 hf6
      cases bp
      ·
       exact zz46
      ·
       have h42:(tl s p2)[0]? = some 42:=by simpa using hst.symm
       have hp2l:p2<s.size:=by
        apply Nat.lt_of_not_le;intro hle;rw [qbn hle] at h42
        cases h42
       have hPGn:=Hd (show PG=proG names (s.size-b0) fu mz (tl s (p2+1)) from hPG.out.trans ((qjh hPW (by rw [hx];omega) h42).trans (by rw [hx,hmz.out,qbi])));have hpc:((p2+1:Nat):Int)=(p2:Int)+1:=by omega
       have hRd7:=hR7.out;obtain ⟨z0,z1,z2,z3,z4⟩:=cq5 hRd7;have hl7:=Blk.lt hRd7;have f1:=Blk.frozen hRd7 1;have hR8:=Hd (hRd7.set1 (p2+1));have hArr8:=Hd (show ArrZ (w7.setCell ⟨g,1,none⟩ (.int .i64 ((p2+1:Nat):Int))) g5 mz from bF (by have:=hg5.out;omega) hArrX.out);have hf8:=Hd (hfX.out.setc (g:=g) (i:=1) (u:=.int .i64 ((p2+1:Nat):Int)) (.inl rfl));unfold RdA at hR8;unfold ArrZ at hArr8;rw [hpc] at hR8 hArr8 hf8;replace hx:=Hd hx;have hlt2:=Hd (show p<p2+1 from by have:=hlt1.out;omega);exact zz48
    ·
     have h94:(tl s p1)[0]? = some 94:=by have:=hst.out;simpa using this.symm
     have hp1l:p1<s.size:=by
      apply Nat.lt_of_not_le;intro hle;rw [qbn hle] at h94
      cases h94
     have hpwe:=hpw3.out v r rfl (by rw [hr1.out];exact h94);rw [hr1.out,qbi] at hpwe;have hpc:((p1+1:Nat):Int)=(p1:Int)+1:=by omega
     obtain ⟨z0,z1,z2,z3,z4⟩:=cq5 hR2;have hl:=Blk.lt hR2;have f1:=Blk.frozen hR2 1;have hR3:=Hd (hR2.set1 (p1+1));have hArr3:=Hd (show ArrZ (w2.setCell ⟨g,1,none⟩ (.int .i64 ((p1+1:Nat):Int))) g5 m from bF (by have:=hg5.out;omega) hArr2);have hf3:=Hd (hf2.setc (g:=g) (i:=1) (u:=.int .i64 ((p1+1:Nat):Int)) (.inl rfl));unfold RdA at hR3;unfold ArrZ at hArr3;rw [hpc] at hR3 hArr3 hf3;replace hpwe:=Hd hpwe;clear hR2 hArr2 hf2 h94;go_wp2_with fail;refine qah (fun W=>RdA W g s mb (p1+1) 0 0/\ArrZ W g5 m/\Fg g w W) ⟨by unfold RdA;rw [hpc];exact hR3.out,hArr3.out,hf3.out⟩ ?_;clear hR3 hArr3 hf3 z0 z1 z2 z3 z4 f1 hl;rintro w3 ⟨hR3,hArr3,hf3⟩;have CE:=qq9 g mb (p1+1) s w3 hR3 (by omega) hs (HE.out w3 hf3) hge;obtain ⟨EG,hEG⟩:∃ G,expG (tl s (p1+1))=G:=⟨_,rfl⟩
     have hel:=Hd (show ∀ n r,EG=.ok n r->r.length<=s.size-(p1+1) from fun n r e=>by have:=qn9 (hEG.trans e);rwa [qaq] at this);have hpwe2:=hpwe.out;rw [hEG] at CE hpwe2;refine CE.mono ?_;rintro e w4 ⟨n,rfl,hn,hnn,hS4,hf4⟩;have hf2:=hf3.trans hf4;have hArr2:ArrZ w4 g5 m:=Blk.fr hArr3 hf4 (by have:=hg5.out;omega);replace hEG:=Hd hEG;clear CE hf3 hArr3 hf4 hR3
     cases EG with
     | bad k er =>
      have hSE0:StE w4 g s mb k er:=hS4;have hpb:=Hd (show powG names (tl s p)=.bad k er from hpwe2);clear hS4 hnn hpwe2
      -- the exponents are written behind an error,in world w4
      obtain ⟨hmx,x0,x1⟩:=hM.out.at_ hv64;have hcx:=ArrZ.cell hArr2 hmx;have hfz:=Blk.frozen hArr2 v;have hgl5:=Blk.lt hArr2;obtain ⟨x,hx⟩:∃ x,expAt m v=x:=⟨_,rfl⟩
      rw [hx] at hcx x0 x1;have hArr3:=Hd (ArrZ.set_ hArr2 v (x+(n:Int)));have hf3:=Hd (hf2.setc (g:=g5) (i:=v) (u:=.int .i64 (x+(n:Int))) (.inr hg5w.out));have hinz:=Hd (hM.out.putz (v:=v) (x:=x+(n:Int)) (by omega) (by omega));have hvi:(v:Int)<64:=by omega
      obtain ⟨mz,hmz⟩:∃ z,m.set v (x+(n:Int))=z:=⟨_,rfl⟩
      rw [hmz] at hinz hArr3;replace hmz:=Hd hmz;clear hArr2 hmx;obtain ⟨pe,hpe,hke,h0e,hRe0⟩:=hSE0;have hRe3:=Hd (show RdA (w4.setCell ⟨g5,v,none⟩ (.int .i64 (x+(n:Int)))) g s mb pe er ((s.size-k:Nat):Int) from bF (by have:=hg5.out;omega) hRe0);have hin:=hinz;have hzE:(er==0)=false:=by rw [beq_eq_false_iff_ne];exact h0e
      have hzE2:(er != 0)=true:=by rw [bne,hzE];rfl
      have hPGb:=Hd (show PG=.bad k er from hPG.out.trans (qk9 hpb.out));obtain ⟨z0,z1,z2,z3,z4⟩:=cq5 hRe0;have hl2:=Blk.lt hRe0;replace hx:=Hd hx;replace h0e:=Hd h0e;clear hRe0;by_cases hbig:1048576<x+(n:Int)
      ·
       exact zz47
      ·
       exact zz49
     | ok n0 r2 =>
      obtain rfl:=hnn n0 r2 rfl;obtain ⟨p2,hp2,hr2,hR2⟩:=hS4;have hlt2':=Hd (show p<p2+1 from by have h1:=hel.out n r2 rfl;rw [hr2,qaq] at h1;have:=hlt1.out;omega);have hPW:powG names (tl s p)=.ok (v,(n:Int)) (tl s p2):=by rw [<- hr2];exact hpwe2
      clear hnn hpwe2 hr2
      -- the exponents are written,in world w4: the power is v,(n:Int),and p2 is the place behind it (hPW:powG names (tl s p)=.ok (v,(n:Int)) (tl s p2))
      obtain ⟨hmx,x0,x1⟩:=hM.out.at_ hv64;have hcx:=ArrZ.cell hArr2 hmx;have hfz:=Blk.frozen hArr2 v;have hgl5:=Blk.lt hArr2;obtain ⟨x,hx⟩:∃ x,expAt m v=x:=⟨_,rfl⟩
      rw [hx] at hcx x0 x1;have hArr3:=Hd (ArrZ.set_ hArr2 v (x+(n:Int)));have hf3:=Hd (hf2.setc (g:=g5) (i:=v) (u:=.int .i64 (x+(n:Int))) (.inr hg5w.out));have hinz:=Hd (hM.out.putz (v:=v) (x:=x+(n:Int)) (by omega) (by omega));have hvi:(v:Int)<64:=by omega
      obtain ⟨mz,hmz⟩:∃ z,m.set v (x+(n:Int))=z:=⟨_,rfl⟩
      rw [hmz] at hinz hArr3;replace hmz:=Hd hmz;clear hArr2 hmx;have hRe3:=Hd (show RdA (w4.setCell ⟨g5,v,none⟩ (.int .i64 (x+(n:Int)))) g s mb p2 0 0 from bF (by have:=hg5.out;omega) hR2);obtain ⟨z0,z1,z2,z3,z4⟩:=cq5 hR2;have hl2:=Blk.lt hR2;clear hR2;by_cases hbig:1048576<x+(n:Int)
      ·
       exact zz44
      ·
       have hin:=Hd (hmz.out ▸ hM.out.put (v:=v) (x:=x+(n:Int)) (by omega) (by omega):InM mz);go_wp2_with fail;refine qah (fun W=>RdA W g s mb p2 0 0/\ArrZ W g5 mz/\Fg g w W) ⟨hRe3.out,hArr3.out,hf3.out⟩ ?_;rintro W6 ⟨hR6,hArr6,hf6⟩;clear hRe3 hArr3 hf3 z0 z1 z2 z3 z4 hcx hfz;have CP:=Hd (qck g mb p2 s 0 0 42 W6 hR6 hp2 hs);have hst:=qb3 (tl s p2) 42 (z:=42) rfl;obtain ⟨bp,hbp⟩:∃ b,nxtB (tl s p2) 42=b:=⟨_,rfl⟩
       rw [hbp] at CP hst;replace hbp:=Hd hbp;refine CP.out.mono ?_;rintro e w7 ⟨rfl,hb7⟩;have hR7:=Hd (hR6.below hb7);have hArrX:=Hd (show ArrZ w7 g5 mz from Blk.below' hArr6 hb7);have hfX:=Hd (hf6.call hb7);clear CP hR6 hArr6 hf6
       cases bp
       ·
        exact zz46
       ·
        have h42:(tl s p2)[0]? = some 42:=by simpa using hst.symm
        have hp2l:p2<s.size:=by
         apply Nat.lt_of_not_le;intro hle;rw [qbn hle] at h42
         cases h42
        have hPGn:=Hd (show PG=proG names (s.size-b0) fu mz (tl s (p2+1)) from hPG.out.trans ((qjh hPW (by rw [hx];omega) h42).trans (by rw [hx,hmz.out,qbi])));have hpc:((p2+1:Nat):Int)=(p2:Int)+1:=by omega
        have hRd7:=hR7.out;obtain ⟨z0,z1,z2,z3,z4⟩:=cq5 hRd7;have hl7:=Blk.lt hRd7;have f1:=Blk.frozen hRd7 1;have hR8:=Hd (hRd7.set1 (p2+1));have hArr8:=Hd (show ArrZ (w7.setCell ⟨g,1,none⟩ (.int .i64 ((p2+1:Nat):Int))) g5 mz from bF (by have:=hg5.out;omega) hArrX.out);have hf8:=Hd (hfX.out.setc (g:=g) (i:=1) (u:=.int .i64 ((p2+1:Nat):Int)) (.inl rfl));unfold RdA at hR8;unfold ArrZ at hArr8;rw [hpc] at hR8 hArr8 hf8;replace hx:=Hd hx;have hlt2:=Hd (show p<p2+1 from hlt2'.out);exact zz48
  ·
   obtain ⟨pe,hpe,hke,h0e,hRe⟩:=hSE;have hzE:(er==0)=false:=by rw [beq_eq_false_iff_ne];exact h0e
   have hPGb:=Hd hPG;have hSEX:=Hd (show StE wr g s mb k er from ⟨pe,hpe,hke,h0e,hRe⟩);have hArrX:=Hd hArr;have hfX:=Hd hf;replace hin:=Hd hin;replace h0e:=Hd h0e;obtain ⟨z0,z1,z2,z3,z4⟩:=cq5 hRe;have hl:=hRe.lt;clear hRe hArr hPG hf
   -- the end behind an error
   have hGe:=Hd (show GG=.bad k er by rw [<- hGG.out,hPGb.out];rfl);have hI:=hArrX.out.reads hin.out.2 hin.out.1;have CN:=qg8 mz (some ⟨g5,0,none⟩) 64 wr hI (by rw [hin.out.1];omega);exact zz45
end Go.Proofs.YtnilkimcdgmgkaaGreatDoor
namespace Go.Proofs.YtnilkimcdgmgkaaGreatDoor
def lmb (m i:Nat):Int:=((m / 65536 ^ i % 65536:Nat):Int)
theorem qja:∀ (i m:Nat),i<(limbs m).length->(limbs m)[i]? = some (lmb m i)
 | 0,m,h=>by
  have h0:m≠0:=fun e=>by subst e;rw [qai] at h;simp at h
  rw [qbk h0];simp [lmb]
 | i+1,m,h=>by
  have h0:m≠0:=fun e=>by subst e;rw [qai] at h;simp at h
  rw [qbk h0] at h ⊢;rw [List.getElem?_cons_succ,qja i (m / 65536) (by simpa using h)];unfold lmb;rw [Nat.div_div_eq_div_mul,Nat.pow_succ,Nat.mul_comm]
theorem qom (m:Nat):limbs m=(List.range (limbs m).length).map (lmb m):=by
 apply List.ext_getElem (by simp);intro i h1 h2;have:=qja i m h1;rw [List.getElem?_eq_getElem h1] at this;injection this with this
 rw [this];simp
def qbz (n d k:Nat):List Int:=(List.range k).map (lmb (10*n+d))++(limbs n).drop k
def tenC (n d k:Nat):Nat:=(10*(n % 65536 ^ k)+d) / 65536 ^ k
theorem qr8 (n d:Nat):qbz n d 0=limbs n:=by simp [qbz]
theorem qyn (n d:Nat):tenC n d 0=d:=by simp [tenC,Nat.mod_one]
theorem qlw {n d k:Nat} (h:k<=(limbs n).length):(qbz n d k).length=(limbs n).length:=by unfold qbz;simp;omega
theorem qyr {n d k:Nat} (h:k<(limbs n).length):(qbz n d k)[k]? = some (lmb n k):=by
 unfold qbz;rw [List.getElem?_append_right (by simp)];simp only [List.length_map,List.length_range,Nat.sub_self,List.getElem?_drop,Nat.add_zero];exact qja k n h
theorem qm6 (n d k:Nat):tenC n d k+10*(n / 65536 ^ k % 65536)=(10*(n % 65536 ^ (k+1))+d) / 65536 ^ k:=by
 have hp:0<65536 ^ k:=Nat.pow_pos (by decide);unfold tenC;rw [Nat.mod_pow_succ,Nat.mul_add,show 10*(65536 ^ k*(n / 65536 ^ k % 65536))=65536 ^ k*(10*(n / 65536 ^ k % 65536)) by rw [Nat.mul_left_comm],
  show 10*(n % 65536 ^ k)+65536 ^ k*(10*(n / 65536 ^ k % 65536))+d=(10*(n % 65536 ^ k)+d)+65536 ^ k*(10*(n / 65536 ^ k % 65536)) by omega,Nat.add_mul_div_left _ _ hp]
theorem qv8 (n d k:Nat):(tenC n d k+10*(n / 65536 ^ k % 65536)) / 65536=tenC n d (k+1):=by
 rw [qm6,Nat.div_div_eq_div_mul,<- Nat.pow_succ];rfl
theorem qad4 (n d k:Nat):(tenC n d k+10*(n / 65536 ^ k % 65536)) % 65536=(10*n+d) / 65536 ^ k % 65536:=by
 have hp:0<65536 ^ k:=Nat.pow_pos (by decide);rw [qm6];have e:10*n+d=(10*(n % 65536 ^ (k+1))+d)+65536 ^ k*(65536*(10*(n / 65536 ^ (k+1)))):=by
  have h1:=Nat.mod_add_div n (65536 ^ (k+1));have h2:65536 ^ k*(65536*(10*(n / 65536 ^ (k+1))))=10*(65536 ^ (k+1)*(n / 65536 ^ (k+1))):=by
   rw [Nat.pow_succ,<- Nat.mul_assoc,<- Nat.mul_assoc,<- Nat.mul_assoc,Nat.mul_comm (65536 ^ k*65536) 10,Nat.mul_assoc 10]
  omega
 rw [e,Nat.add_mul_div_left _ _ hp,Nat.add_mul_mod_self_left]
theorem qtx {n d k:Nat} (h:k<(limbs n).length):(qbz n d k).set k (lmb (10*n+d) k)=qbz n d (k+1):=by
 unfold qbz;rw [List.set_append,if_neg (by simp),List.range_succ,List.map_append,List.append_assoc];congr 1;simp only [List.length_map,List.length_range,Nat.sub_self];rw [List.drop_eq_getElem_cons h]
 rfl
theorem qs7 {n d k:Nat} (hd:d<=9):tenC n d k<=9:=by
 unfold tenC;have hp:0<65536 ^ k:=Nat.pow_pos (by decide);have h:=Nat.mod_lt n hp;refine Nat.le_of_lt_succ ((Nat.div_lt_iff_lt_mul hp).2 ?_)
 omega
theorem qad0 {n d:Nat} (hd:d<=9):limbs (10*n+d)=if 0<tenC n d (limbs n).length then qbz n d (limbs n).length++[(tenC n d (limbs n).length:Int)] else qbz n d (limbs n).length:=by
 have hn:=qa0 n;have hc:=qs7 (n:=n) (k:=(limbs n).length) hd;have hmono:=qaj (show n<=10*n+d by omega);have he:tenC n d (limbs n).length=(10*n+d) / 65536 ^ (limbs n).length:=by unfold tenC;rw [Nat.mod_eq_of_lt hn]
 have hrow:qbz n d (limbs n).length=(List.range (limbs n).length).map (lmb (10*n+d)):=by unfold qbz;simp
 have hp:0<65536 ^ (limbs n).length:=Nat.pow_pos (by decide)
 split
 ·
  next h =>
  have hup:(limbs (10*n+d)).length<=(limbs n).length+1:=qan (by
   rw [Nat.pow_succ];have:(10*n+d) / 65536 ^ (limbs n).length<65536:=by omega
   have:=(Nat.div_lt_iff_lt_mul hp).1 this
   omega)
  have hlo:(limbs n).length<(limbs (10*n+d)).length:=by
   apply Nat.lt_of_not_le;intro hle;have h1:=qa0 (10*n+d);have h2:65536 ^ (limbs (10*n+d)).length<=65536 ^ (limbs n).length:=Nat.pow_le_pow_right (by decide) hle;rw [he,Nat.div_eq_of_lt (ltl h1 h2)] at h;exact absurd h (Nat.lt_irrefl 0)
  rw [qom (10*n+d),show (limbs (10*n+d)).length=(limbs n).length+1 by omega,List.range_succ,List.map_append,hrow];congr 1
  show [lmb (10*n+d) (limbs n).length]=_
  unfold lmb;rw [<- he,Nat.mod_eq_of_lt (by omega)]
 ·
  next h =>
  have h0:(10*n+d) / 65536 ^ (limbs n).length=0:=by omega
  have hlt:10*n+d<65536 ^ (limbs n).length:=by
   rcases Nat.div_eq_zero_iff.1 h0 with h1 | h1
   · omega
   · exact h1
  have:=qan hlt;rw [qom (10*n+d),show (limbs (10*n+d)).length=(limbs n).length by omega,hrow]
end Go.Proofs.YtnilkimcdgmgkaaGreatDoor
namespace Go.Proofs.YtnilkimcdgmgkaaGreatDoor
open Go.RowKit
theorem qst:∀ (l:List UInt8) (a:Nat),(∀ c∈l,digU c=true)->l.foldl (fun a c=>10*a+(c.toNat-48)) a<(a+1)*10 ^ l.length
 | [],a,_=>by simp
 | c :: l,a,h=>by
  have h2:=h c (by simp);unfold digU digV at h2;rw [decide_eq_true_eq] at h2;have h1:=qst l (10*a+(c.toNat-48)) fun x hx=>h x (by simp [hx])
  rw [List.foldl_cons,List.length_cons,Nat.pow_succ,Nat.mul_comm (10 ^ l.length) 10,<- Nat.mul_assoc];exact ltl h1 (Nat.mul_le_mul_right _ (by omega))
theorem qsr {l:List UInt8} (h:∀ c∈l,digU c=true):decL l<10 ^ l.length:=by
 have:=qst l 0 h;simpa [decL] using this
theorem qfs {l:List UInt8} (h:∀ c∈l,digU c=true):(limbs (decL l)).length<=l.length :=
 qan (ltl (qsr h) (Nat.pow_le_pow_left (by omega) _))
theorem qtv (n d k:Nat):U16 (qbz n d k):=by
 unfold qbz;refine U16.app ?_ ((qa3 n).drop k);intro x hx;obtain ⟨i,_,rfl⟩:=List.mem_map.1 hx;unfold lmb
 omega
theorem qah9 {B:Nat} {w:World} {a:Option Addr} {c:Nat} {l:List Int} (h:OwnN B w a c l) {k:Nat} (hk:k<l.length):∃ g,a=some ⟨g,0,none⟩/\B<=g/\g<w.heap.size/\(∀ x,l[k]? = some x->w.cell? ⟨g,k,none⟩=some (.int .u16 x))/\w.frozen? ⟨g,k,none⟩=false /\
  ∀ x:Int,OwnN B (w.setCell ⟨g,k,none⟩ (.int .u16 x)) a c (l.set k x):=by
 obtain ⟨g,r,rfl,hg,hc,hR⟩:=qs3 h (by omega);refine ⟨g,rfl,hg,hR.lt,fun x hx=>hR.cell hx,hR.frozen k,fun x=>?_⟩;have h2:=(hR.set_ hk x).own hg (c:=c) (by simpa using hc) h.cap.2 (l.set k x).length (nlr _)
 rwa [List.take_length] at h2
theorem zz51 {P:Prop} (h:P:=by
 go_enter Tryz.func181,Tryz.ntmps181;go_wp2;obtain ⟨wo,rfl⟩:∃ wo:World,wo=w:=⟨_,rfl⟩
 go_loopg [4,5,6,7,26] s.size (fun g o _ _ _ i wr=>∃ (k:Nat) (a:Option Addr) (c:Nat),Hid (k+g=s.size)/\o=.slice a (limbs (decL (s.data.toList.take k))).length c/\i=.int .i64 k/\Hid (OwnN wo.heap.size wr a c (limbs (decL (s.data.toList.take k))))/\Below wo.heap.size wo wr)
 case atStart=>exact ⟨0,none,0,by show _=_;omega,by simp [decL,qai],rfl,by show OwnN _ _ _ _ _;simp only [List.take_zero];rw [show decL []=0 from rfl,qai];exact Own.nil,Below.refl _ _⟩
 case round =>
  obtain ⟨k,a,c,hk,rfl,rfl,ho,hwr⟩:=hrel;by_cases hlt:k<s.size
  ·
   obtain ⟨d,hd9,hyd,hdn⟩:=hdig.out k hlt;obtain ⟨y,hy⟩:∃ y:Nat,(s[k]'hlt).toNat=y:=⟨_,rfl⟩
   rw [hy] at hyd;obtain ⟨n,hn⟩:∃ n,decL (s.data.toList.take k)=n:=⟨_,rfl⟩
   have hle:=hlim.out k;rw [hn] at ho hle hdn ⊢;have hdn2:=Hd hdn;have hn2:=Hd hn;have hyd2:((y:Int)-48)=(d:Int):=by omega
   have hy48:¬ ((y:Int)<48):=by omega
   have hy57:¬ (57<(y:Int)):=by omega
   have hy256:y<256:=by omega
   obtain ⟨gk0,rfl⟩:∃ n,n=gk:=⟨_,rfl⟩
   obtain ⟨wp,rfl⟩:∃ wp:World,wp=wr:=⟨_,rfl⟩
   obtain ⟨T,hT⟩:∃ T,(limbs n).length=T:=⟨_,rfl⟩
   rw [hT] at hle ⊢;replace hT:=Hd hT;clear hdn hn;go_wp2
   go_loopg [6,7,46] T (fun g q _ i w2=>∃ j:Nat,Hid (j+g=T)/\q=.int .u32 (tenC n d j)/\i=.int .i64 j/\Hid (OwnN wo.heap.size w2 a c (qbz n d j))/\Below wo.heap.size wo w2)
   case atStart=>exact ⟨0,by show _=_;omega,by rw [qyn];exact qeh (by omega),rfl,by show OwnN _ _ _ _ _;rw [qr8];exact ho.out,hwr⟩
   case round =>
    obtain ⟨j,hj,rfl,rfl,ho2,hw2⟩:=hrel;have hc9:=qs7 (n:=n) (k:=j) hd9;have hst:=qm6 n d j;by_cases hjt:j<T
    ·
     have hjl:j<(limbs n).length:=by rw [hT.out];exact hjt
     have hat:=qyr (d:=d) hjl;have hrl:(qbz n d j).length=(limbs n).length:=qlw (Nat.le_of_lt hjl);obtain ⟨g,rfl,hgB,hgl,hcell,hfz,hset⟩:=qah9 ho2.out (k:=j) (by rw [hrl];exact hjl);have hcx:=hcell _ hat;have hlow:=qad4 n d j;have hsu:=qv8 n d j;have hnx:=qtx (d:=d) hjl;obtain ⟨X,hX,hX2⟩:∃ X:Nat,n / 65536 ^ j % 65536=X/\X<=65535:=⟨_,rfl,by omega⟩
     unfold lmb at hcx hnx;rw [hX] at hcx hlow hsu;obtain ⟨lo,hlo⟩:∃ lo,(10*n+d) / 65536 ^ j % 65536=lo:=⟨_,rfl⟩
     rw [hlo] at hlow hnx;have hs2:=hset (lo:Int);rw [hnx] at hs2;obtain ⟨cc,hcc⟩:∃ cc,tenC n d j=cc:=⟨_,rfl⟩
     obtain ⟨c2,hc2⟩:∃ c2,tenC n d (j+1)=c2:=⟨_,rfl⟩
     rw [hcc] at hc9 hlow hsu;rw [hc2] at hsu;obtain ⟨S,hS⟩:∃ S:Nat,(cc:Int)+10*(X:Int)=(S:Int):=⟨cc+10*X,by omega⟩
     have hSn:cc+10*X=S:=by omega
     rw [hSn] at hlow hsu;have hS32:S<4294967296:=by omega
     have hw16:IntKind.u16.wrap (S:Int)=(lo:Int):=by rw [qbt,hlow]
     have hdv:(S:Int) / 65536=(c2:Int):=by omega
     have hlo2:lo<=65535:=by omega
     have hw3:=hw2.setCell (p:=⟨g,j,none⟩) hgB (.int .u16 lo);replace hs2:=Hd hs2;replace hc2:=Hd hc2;replace hw3:=Hd hw3;replace hgB:=Hd hgB;simp only [hcc];clear hset hcell hat hnx hlow hsu hlo hX hst hrl hjl ho2 hcc;go_wp2;go_roundg (gk-1)
     case rel=>exact ⟨j+1,by have:=hj.out;show _=_;omega,by rw [hc2.out],by go_num,hs2.out,hw3.out⟩
     case measure=>have:=hj.out;omega
    ·
     have hjT:j=T:=by have:=hj.out;omega
     subst hjT;have hend:=qad0 (n:=n) hd9;rw [hT.out] at hend;have hle2:=hlim.out (k+1);rw [hdn2.out] at hle2;have hrl:(qbz n d j).length=j:=by rw [qlw (by rw [hT.out];exact nlr _),hT.out]
     have hu:=qtv n d j;obtain ⟨R,hR⟩:∃ R,qbz n d j=R:=⟨_,rfl⟩
     obtain ⟨cc,hcc⟩:∃ cc,tenC n d j=cc:=⟨_,rfl⟩
     rw [hR] at hrl ho2 hend hu;rw [hcc] at hend hc9 hst;simp only [hcc];by_cases hc0:0<cc
     ·
      have hcd:decide ((0:Int)<(cc:Int))=true:=by simpa using hc0
      have hcd2:decide (0<cc)=true:=by simpa using hc0
      rw [if_pos hc0] at hend;have hend2:=Hd (hdn2.out.symm ▸ hend:limbs (decL (s.data.toList.take (k+1)))=R++[(cc:Int)]);have hlen:Hid ((R++[(cc:Int)]).length<=16777216):=Hd (by rw [<- hend];omega);have hw16:IntKind.u16.wrap (cc:Int)=(cc:Int):=by rw [qbt,Nat.mod_eq_of_lt (by omega)]
      have hcm:(cc:Int) % 65536=(cc:Int):=by omega
      replace hend:=Hd hend;replace hrl:=Hd hrl;clear hst hc0 hle2 hu hR hcc;go_wp2_with (at_builtin;go_must (refine qdb rfl (.tmp 67) (.tmp 70) rfl a c (by rw [<- hrl.out];rfl) (ho2.out.alloc _) (cc:Int) wr.heap.size 1 rfl (by simp) (R++[(cc:Int)]) rfl hlen.out (by have:=hw2.size;simp;omega) ?_);intro a3 c3 w3 ho3 hg3 hx3);have hw3:=qav (hw2.alloc hw2.size _) (ho2.out.alloc _) hg3;replace ho3:=Hd ho3;replace hw3:=Hd hw3;clear hg3 hx3 ho2;go_roundg (gk0-1)
      case rel=>exact ⟨k+1,a3,c3,by have:=hk.out;show _=_;omega,by rw [hend2.out,List.length_append];rfl,by go_num,by rw [hend2.out];exact ho3.out,hw3.out⟩
      case measure=>have:=hk.out;omega
     ·
      have hcd:decide ((0:Int)<(cc:Int))=false:=by simpa using hc0
      have hcd2:decide (0<cc)=false:=by simpa using hc0
      rw [if_neg hc0] at hend;have hend2:=Hd (hdn2.out.symm ▸ hend:limbs (decL (s.data.toList.take (k+1)))=R);replace hend:=Hd hend;replace hrl:=Hd hrl;clear hst hc0 hle2 hu hR hcc;go_wp2;go_roundg (gk0-1)
      case rel=>exact ⟨k+1,a,c,by have:=hk.out;show _=_;omega,by rw [hend2.out,hrl.out],by go_num,by rw [hend2.out];exact ho2.out,hw2⟩
      case measure=>have:=hk.out;omega
  ·
   have hks:k=s.size:=by have:=hk.out;omega
   have hfin:decL (s.data.toList.take k)=N:=by rw [List.take_of_length_le (by rw [HSZ.out,hks];exact nlr _)];exact HN.out
   rw [hfin] at ho ⊢;have hu:=qa3 N;have hF:=Hd (fun V (hV:New wo.heap.size wr V)=>ho.out.readsV hV hu);clear hfin hu ho;go_wp2;go_ret2;exact ⟨a,c,rfl,hF.out,hwr⟩
 ):P:=h
theorem qpd (s:ByteArray) (w:World) (h0:0<s.size) (hs:s.size<=1000) (hd:∀ c∈s.data.toList,digU c=true) (hz:s.size=1\/((s[0]'h0).toNat:Int)≠48) :
  Calls Tryz.prog 181 #[.string s] w (RetNE (limbs (decL s.data.toList)) 0 w):=by
 have hse:s.toList.isEmpty=false:=by rw [qd8,decide_eq_false_iff_not];exact fun e=>by rw [e] at h0;exact absurd h0 (by decide)
 have hse2:s.toList≠[]:=by intro e;rw [e] at hse;cases hse
 have hsb:(s.toList==([]:List UInt8))=false:=by simpa using hse2
 have hsz:s.data.toList.length=s.size:=by simp
 obtain ⟨N,hN⟩:∃ N,decL s.data.toList=N:=⟨_,rfl⟩
 rw [hN];have HN:=Hd hN;have HD:=Hd hd;have HSZ:=Hd hsz;clear hN hd hsz;have hdig:=fun (k:Nat) (hk:k<s.size)=>show ∃ d:Nat,d<=9/\(s[k]'hk).toNat=48+d/\decL (s.data.toList.take (k+1))=10*decL (s.data.toList.take k)+d from by
  have hg:=qda hk;have h1:=HD.out _ (List.mem_of_getElem? hg);unfold digU digV at h1;rw [decide_eq_true_eq] at h1;refine ⟨(s[k]'hk).toNat-48,by omega,by omega,?_⟩;rw [qbc hg,qjj]
 have hlim:=fun (k:Nat)=>show (limbs (decL (s.data.toList.take k))).length<=1000 from by
  have:=qfs (l:=s.data.toList.take k) (fun c hc=>HD.out c (List.mem_of_mem_take hc));rw [List.length_take,HSZ.out] at this
  omega
 replace hdig:=Hd hdig;replace hlim:=Hd hlim;have h1:(1<s.size)=(1<s.size):=rfl;by_cases h11:1<s.size
 ·
  have hh:((s[0]'h0).toNat:Int)≠48:=hz.resolve_left (by omega);obtain ⟨y0,hy0⟩:∃ y:Nat,(s[0]'h0).toNat=y:=⟨_,rfl⟩
  rw [hy0] at hh;have hyb:((y0:Int)==48)=false:=by simpa using hh
  have h1d:decide (1<s.size)=true:=by simpa using h11
  clear hz h1 hh hse;exact zz51
 ·
  have h1d:decide (1<s.size)=false:=by simpa using h11
  clear hz h1 hse;exact zz51
theorem qac0 (neg:Bool) (l m:List Int) (n d:Nat) (a a':Option Addr) (c c':Nat) (w:World) (h:NatR w a c l) (h':NatR w a' c' m) (hn:val l=n) (hk:val m=d) (hl:l.length<=2000000) (hm:m.length<=2000000) (h0:d≠0) :
  Calls Tryz.prog 94 #[.agg #[.bool neg,.slice a l.length c,.slice a' m.length c']] w (RetF (qao (!neg) n d) w):=by
 have CP:=fun W (hW:Below w.heap.size w W)=>qcs neg l m a a' c c' W (h'.ext (xbw hW)) (by omega) (by omega)
 have CO:=fun W (hW:Below w.heap.size w W)=>qdi (!neg) l m n d a a' c c' W (h.ext (xbw hW)) (h'.ext (xbw hW)) hn hk hl hm
 obtain ⟨t,ht⟩:∃ t,qao (!neg) n d=t:=⟨_,rfl⟩
 rw [ht] at CO ⊢;obtain ⟨s,N,D⟩:=t;unfold RetF at CO ⊢;dsimp only at CO ⊢;replace CP:=Hd CP;replace CO:=Hd CO;have hx:Blk ((w.alloc (.cells #[.bool neg,.slice a l.length c,.slice a' m.length c'] 76)).alloc (.cells #[.bool false,.slice none 0 0,.slice none 0 0] 76)) w.heap.size 76 #[.bool neg,.slice a l.length c,.slice a' m.length c']:=(Blk.new w _ _).alloc _;have hz:Blk ((w.alloc (.cells #[.bool neg,.slice a l.length c,.slice a' m.length c'] 76)).alloc (.cells #[.bool false,.slice none 0 0,.slice none 0 0] 76)) (w.heap.size+1) 76 #[.bool false,.slice none 0 0,.slice none 0 0]:=qay w _ _ _;have hb0:Below w.heap.size w ((w.alloc (.cells #[.bool neg,.slice a l.length c,.slice a' m.length c'] 76)).alloc (.cells #[.bool false,.slice none 0 0,.slice none 0 0] 76)):=by go_grown
 have hgB:w.heap.size<w.heap.size+1:=by omega
 have hgl:=hz.lt;clear h h' hn hk h0 ht;go_enter Tryz.func94,Tryz.ntmps94;go_wp2_with fail;revert hx hz hb0 hgB hgl;generalize (w.alloc (.cells #[.bool neg,.slice a l.length c,.slice a' m.length c'] 76)).alloc (.cells #[.bool false,.slice none 0 0,.slice none 0 0] 76)=w0;generalize w.heap.size+1=g;intro hx hz hb0 hgB hgl;obtain ⟨z0,z1,z2⟩:=cq3 hx;go_wp2_with fail;refine (CP.out _ hb0).mono ?_;rintro e w1 ⟨rfl,hb1⟩;have hw1:=bth hb0 hb1;have hz1:=hz.below' hb1;clear z0 z1 z2 hx hz;go_wp2_with fail;have hp:=hz1.alloc (.cells #[.bool neg,.slice a l.length c] 74);have hy:=Blk.new w1 74 #[.bool neg,.slice a l.length c];have hw2:=hw1.alloc hw1.size (.cells #[.bool neg,.slice a l.length c] 74);revert hp hy hw2;generalize w1.alloc (.cells #[.bool neg,.slice a l.length c] 74)=w2;intro hp hy hw2;refine (CO.out _ hw2).mono ?_;rintro e w3 ⟨a3,c3,a4,c4,rfl,hV3,hV4,hb3⟩;have hw3:=bth hw2 hb3
 have hz3:=hp.below' hb3;have HV3:=Hd hV3;have HV4:=Hd hV4;have hs2:=hw2.size;have hgl2:=hp.lt;obtain ⟨y0,y1,y2⟩:=cq3 hz3;obtain ⟨f0,f1,f2⟩:=fq3 hz3;clear hV3 hV4 hp hz1;go_wp2;have hF:=blk3 (x:=.bool s) (y:=.slice a3 (limbs N).length c3) (z:=.slice a4 (limbs D).length c4) hz3;obtain ⟨e0,e1,e2⟩:=cq3 hF;refine bodyPost_ret (v:=.agg #[.bool s,.slice a3 (limbs N).length c3,.slice a4 (limbs D).length c4]) (by simp [results,Tryz.results94,go_sem,e0,e1,e2]) rfl ?_;exact ⟨a3,c3,a4,c4,rfl,fun V hV=>HV3.out V (back3 hV hs2 hgl2),fun V hV=>HV4.out V (back3 hV hs2 hgl2),qbw hw3 (Nat.le_of_lt hgB)⟩
theorem ql0 (neg1 neg2:Bool) (l m:List Int) (a a':Option Addr) (c c':Nat) (w:World) (h':NatR w a' c' m) (hk:val m=0) (hm:m.length<=2000000) :
  Calls Tryz.prog 182 #[.agg #[.bool neg1,.slice a l.length c],.agg #[.bool neg2,.slice a' m.length c']] w fun e w'=>e=.returned (.tuple #[.agg #[.bool false,.slice none 0 0,.slice none 0 0],.int .i64 3])/\Below w.heap.size w w':=by
 have CS:=Hd (fun W (hW:Below w.heap.size w W)=>qei neg2 m 0 a' c' W (h'.ext (xbw hW)) hk (by omega));have hsg:sgnZ neg2 0=0:=rfl;rw [hsg] at CS;clear h' hk hsg;go_enter Tryz.func182,Tryz.ntmps182;go_wp2_with fail;refine qah (fun W=>Blk W (w.heap.size+1+1) 76 #[.bool false,.slice none 0 0,.slice none 0 0]/\Below w.heap.size w W) ⟨qb1 w _ _ _ _,by go_grown⟩ ?_;rintro w0 ⟨hz,hb0⟩;refine (CS.out w0 hb0).mono ?_;rintro e w1 ⟨rfl,hb1⟩;obtain ⟨g,hg⟩:∃ g,w.heap.size+1+1=g:=⟨_,rfl⟩
 have hgB:w.heap.size<=g:=by omega
 rw [hg] at hz ⊢;replace hg:=Hd hg;have hz1:=hz.below' hb1;have hw1:=bth hb0 hb1;obtain ⟨z0,z1,z2⟩:=cq3 hz1;obtain ⟨f0,f1,f2⟩:=fq3 hz1;have hgl:=hz1.lt;clear CS hz hb0 hb1;go_wp2;have hF:=blk3 (x:=.bool false) (y:=.slice none 0 0) (z:=.slice none 0 0) hz1;obtain ⟨e0,e1,e2⟩:=cq3 hF;refine bodyPost_ret (v:=.tuple #[.agg #[.bool false,.slice none 0 0,.slice none 0 0],.int .i64 3]) (by simp [results,Tryz.results182,go_sem,e0,e1,e2]) rfl ?_;exact ⟨rfl,qbw hw1 hgB⟩
theorem quu (w:World) :
  Calls Tryz.prog 104 #[.agg #[.bool false,.slice none 0 0,.slice none 0 0]] w fun e w'=>∃ a c,e=.returned (.tuple #[.agg #[.bool false,.slice none 0 0],.slice a (limbs 1).length c])/\(∀ V,New w.heap.size w' V->NatR V a c (limbs 1))/\Below w.heap.size w w':=by
 have CB:=Hd (fun W=>qlo [] 0 none 0 W SlR.nil rfl (by simp));have CU:=Hd (fun W=>qk6 W);go_enter Tryz.func104,Tryz.ntmps104;go_wp2_with fail;refine qah (fun W=>Blk W (w.heap.size+1) 74 #[.bool false,.slice none 0 0]/\Below w.heap.size w W) ⟨qay w _ _ _,by go_grown⟩ ?_;rintro w0 ⟨hz,hb0⟩;refine (CB.out w0).mono ?_;rintro e w1 ⟨b,rfl,hb,rfl⟩;obtain rfl:=hb.out.1 trivial;obtain ⟨g,hg⟩:∃ g,w.heap.size+1=g:=⟨_,rfl⟩
 have hgB:w.heap.size<=g:=by omega
 rw [hg] at hz ⊢;replace hg:=Hd hg;clear CB hb;go_wp2_with fail;refine (CU.out w0).mono ?_;rintro e w1 ⟨a1,c1,rfl,hV,hb1⟩;have hz1:=hz.below' hb1;have hw1:=bth hb0 hb1;have hgl:=hz1.lt;have hgl0:=hz.lt;have hs0:=hb0.size;obtain ⟨z0,z1⟩:=cq2 hz1;obtain ⟨f0,f1⟩:=fq2 hz1;replace hV:=Hd hV;clear CU hz;go_wp2;have hF:=blk2 (x:=.bool false) (y:=.slice none 0 0) hz1;obtain ⟨q0,q1⟩:=cq2 hF;refine bodyPost_ret (v:=.tuple #[.agg #[.bool false,.slice none 0 0],.slice a1 (limbs 1).length c1]) (by simp [results,Tryz.results104,go_sem,q0,q1]) rfl ?_;exact ⟨a1,c1,rfl,fun V hV2=>hV.out V (back2 hV2 hs0 hgl0),qbh hw1 hgB⟩
theorem qv6 (w:World) :
  Calls Tryz.prog 94 #[.agg #[.bool false,.slice none 0 0,.slice none 0 0]] w fun e w'=>∃ x:QA,e=.returned (.agg #[.bool x.neg,.slice x.a x.n x.c,.slice x.b x.m x.d])/\Below w.heap.size w w':=by
 have CP:=Hd (fun W=>quu W);have CO:=Hd (fun a c W (h:NatR W a c (limbs 1))=>qdi true [] (limbs 1) 0 1 none a 0 c W SlR.nil h rfl (qaa 1) (by simp) (by rw [qfp];decide));obtain ⟨t,ht⟩:∃ t,qao true 0 1=t:=⟨_,rfl⟩
 rw [ht] at CO;obtain ⟨s,N,D⟩:=t;unfold RetF at CO;dsimp only at CO;clear ht;go_enter Tryz.func94,Tryz.ntmps94;go_wp2_with fail;refine qah (fun W=>Blk W (w.heap.size+1) 76 #[.bool false,.slice none 0 0,.slice none 0 0]/\Below w.heap.size w W) ⟨qay w _ _ _,by go_grown⟩ ?_;rintro w0 ⟨hz,hb0⟩;refine (CP.out w0).mono ?_;rintro e w1 ⟨a1,c1,rfl,hV,hb1⟩;obtain ⟨g,hg⟩:∃ g,w.heap.size+1=g:=⟨_,rfl⟩
 have hgB:w.heap.size<=g:=by omega
 rw [hg] at hz ⊢;replace hg:=Hd hg;have hw1:=bth hb0 hb1;have hz1:=hz.below' hb1;have hu1:=hV w1 (New.refl _ _);clear hz CP hV;go_wp2_with fail;refine qah (fun W=>Blk W g 76 #[.bool false,.slice none 0 0,.slice none 0 0]/\NatR W a1 c1 (limbs 1)/\Below w.heap.size w W) ⟨hz1.alloc _,hu1.ext (qel _ _),hw1.alloc hw1.size _⟩ ?_;rintro w2 ⟨hz2,hu2,hw2⟩;refine (CO.out a1 c1 w2 hu2).mono ?_;rintro e w3 ⟨a3,c3,a4,c4,rfl,hV3,hV4,hb3⟩;have hw3:=bth hw2 hb3;have hz3:=hz2.below' hb3;have hgl2:=hz3.lt;obtain ⟨y0,y1,y2⟩:=cq3 hz3;obtain ⟨f0,f1,f2⟩:=fq3 hz3;clear hV3 hV4 hz1 hz2 hu1 hu2 CO;go_wp2;have hF:=blk3 (x:=.bool s) (y:=.slice a3 (limbs N).length c3) (z:=.slice a4 (limbs D).length c4) hz3;obtain ⟨e0,e1,e2⟩:=cq3 hF;refine bodyPost_ret (v:=.agg #[.bool s,.slice a3 (limbs N).length c3,.slice a4 (limbs D).length c4]) (by simp [results,Tryz.results94,go_sem,e0,e1,e2]) rfl ?_
 exact ⟨⟨s,(limbs N).length,a3,c3,(limbs D).length,a4,c4⟩,rfl,qbw hw3 hgB⟩
end Go.Proofs.YtnilkimcdgmgkaaGreatDoor
