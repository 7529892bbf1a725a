/- Walk: R07.Read. -/
import Derived.Test.YtnilkimcdgmgkaaGreatDoorCr23
import Derived.Test.YtnilkimcdgmgkaaGreatDoorCr18
import Derived.Test.YtnilkimcdgmgkaaGreatDoorCr22
import Derived.Test.YtnilkimcdgmgkaaGreatDoorCr19
import Derived.Test.YtnilkimcdgmgkaaGreatDoorCr20
set_option linter.all false
set_option maxRecDepth 100000
set_option maxHeartbeats 4000000
namespace Go.Proofs.YtnilkimcdgmgkaaGreatDoor
open Go.RowKit
theorem qy5 (x:QA) (q:Rat) (w:World) (H:QK 1000 w x q):Calls Tryz.prog 56 #[.agg #[.bool x.neg,.slice x.a x.n x.c,.slice x.b x.m x.d]] w (RetQK 1000 q w):=by
 obtain ⟨s1,n1,a1,c1,m1,b1,d1⟩:=x;obtain ⟨⟨e1,e2,e3,r1,r2⟩,z1⟩:=H;dsimp only at e1 e2 e3 r1 r2 ⊢;subst e1 e2 e3;have l1:=qbm q;have l2:=qbj q;have:=qcw (decide (q.num<0)) (limbs q.num.natAbs) (limbs q.den) q.num.natAbs q.den a1 b1 c1 d1 w r1 r2 (qaa _) (qaa _) (by omega) (by omega);rw [qbo,qb2] at this;exact this.mono fun _ _ h=>qd6 z1 h
theorem qir (a:Option Addr) (n c i:Nat) (hi:i<=c) (w:World) :
  (Instr.slice 53 (.slice a n c) none (some (.int .i64 (i:Int))) none).run Tryz.prog w=.ok (.slice a i c) w:=by
 have hu:=Tryz.underlying53;have he:Tryz.prog.elem 53=81:=by unfold Program.elem;rw [hu]
 obtain ⟨d,hd,hz,hsz,hby⟩:=info_parts qia;have:=run_slice_h (P:=Tryz.prog) (w:=w) 53 a n c (by rw [hu,he]) .i64 (i:Int) (by omega) (by omega);rw [this,he]
 cases a with
 | none=>simp [sizeOf,typeInfo,hd,hsz,sliced]
 | some g=>simp [sizeOf,typeInfo,hd,hsz,sliced,Addr.add_zero']
theorem PolX.front {X:Nat->Prop} {w:World} {a:Option Addr} {c:Nat} {p:List Tm} (h:PolX X w a c p) (k:Nat) (hk:k<=p.length) :
  ∃ l:List TQ,k=l.length/\AllT X w l (p.take k)/\Rd X w (RowT a c l):=by
 obtain ⟨l,h1,h2⟩:=h;refine ⟨l.take k,by rw [List.length_take,h2.1];omega,h2.take k,h1.imp fun V hR=>?_⟩;refine ⟨by have:=hR.1;rw [List.length_take];omega,hR.2.1,fun j t ht=>?_⟩;rw [List.getElem?_take] at ht
 split at ht
 · exact hR.2.2 j t ht
 · cases ht
theorem qac4 {u:Tm} (h:FineT u):∀ x∈u.2,0<=x/\x<=1048576:=fun x hx=>by have:=h.1.1 x hx;omega
theorem zz80 {P:Prop} (h:P:=by
 have hw9:=qav hw6 ho6.out hg9;rw [hly.out] at hA9;have hP9:=ho9.pol hA9 HX.out;have hRl:ly.length=R.length:=by rw [hA9.1,hRe.out,List.append_assoc]
 replace hRl:=Hd hRl;go_ret;exact ⟨ra9,rc9,by rw [<- hRl.out];rfl,by rw [hRe.out,<- List.append_assoc];exact hP9,hw9⟩
 ):P:=h
theorem zz81 {P:Prop} (h:P:=by
 have hA9:=AllT.appN (hA6.out.append (hA2.out.map (Y:=Xr X ra1) fun _ _ h=>qbl h (fun g hg=>(ho6.out.lt hg).1) hw6)) hg9 ha9;exact zz80
 ):P:=h
theorem zz82 {P:Prop} (h:P:=by
 have hA9:=AllT.appN (hA6.out.append (hA2.out.map (Y:=Xr X ra6) fun _ _ h=>qbl h (fun g hg=>(ho6.out.lt hg).1) hw6)) hg9 ha9;exact zz80
 ):P:=h
theorem zz77 {P:Prop} (h:P:=by
 rw [<- hge] at hg ⊢;clear hge;replace HK:=Hd HK;have CS2:=fun W (hW:Below wz.heap.size wz W)=>qkl x3 (s.1+q) 2001 W ((HK.out.call hW).now) (by omega)
 have hsg2:=qm2 (s.1+q);obtain ⟨S1,hS1⟩:∃ S1,sgnQ (s.1+q)=S1:=⟨_,rfl⟩
 rw [hS1] at CS2 hsg2;clear hS1;replace CS2:=Hd CS2;have szz:=bth hw1 sz;have ho2:=Hd (ho1.out.below sz);have hA4:=Hd (hA3.out.call sz);have hs2:=fun W=>qgx 53 Tryz.underlying53 (some ⟨b,off,none⟩) p.length pc k hk2.out W
 obtain ⟨pa2,hpa2⟩:∃ A,(if pc=k then some (⟨b,off,none⟩:Addr) else (some (⟨b,off,none⟩:Addr)).map (·.add (k*4)))=A:=⟨_,rfl⟩
 have hR2':=hR2.out;rw [hpa2] at hs2 hR2';replace hR2:=Hd hR2';obtain ⟨pa,hpa⟩:∃ A:Option Addr,some ⟨b,off,none⟩=A:=⟨_,rfl⟩
 rw [hpa] at hs2 ⊢;clear hpa hpa2 hR2' hwn j0 j1 j2 n0 n1 n2 hs1;obtain ⟨z0,z1,z2⟩:=cq3 hg;by_cases h0:s.1+q=0
 ·
  have hRe:=Hd (show R=p.take n++([]++p.drop k) from hR0.out.trans (by rw [if_pos h0,hk0.out]));rw [decide_eq_true h0] at hsg2;clear h0;go_wp2_with fail;refine (CS2.out wz brf).mono ?_;rintro e w6 ⟨rfl,hb6⟩;have hw6:=bth szz hb6;have hA6:=Hd (show AllT (Xr X ra1) w6 l1 (p.take n++[]) by rw [List.append_nil];exact hA4.out.call hb6);have ho6:=Hd (ho2.out.below hb6);have hl6:=Hd (show l1.length<=100001 by have:=hl1.out;have:=hkl.out;omega);clear z0 z1 z2 hg;obtain ⟨ly,hly⟩:∃ l,l1++l2=l:=⟨_,rfl⟩
  have hlyl:=Hd (show ly.length<=16777216 by rw [<- hly,List.length_append];have:=hl6.out;have:=hl2.out;omega);replace hly:=Hd hly;go_wp2_with (at_builtin;go_must (refine qcd (B:=w.heap.size) rfl (.tmp 63) (.tmp 66) 53 rfl Tryz.underlying53 ra1 rc1 rfl ho6.out l2 pa2 (p.length-k) (pc-k) hl2.out rfl (qbl hR2.out (fun g hg=>(ho6.out.lt hg).1) hw6).now ly hly.out.symm hlyl.out hw6.size ?_);intro ra9 rc9 w9 ho9 hg9 ha9);exact zz81
 ·
  have hRe:=Hd (show R=p.take n++([(s.1+q,m)]++p.drop k) from hR0.out.trans (by rw [if_neg h0,hk0.out]));rw [decide_eq_false h0] at hsg2;clear h0;go_wp2_with fail;refine (CS2.out wz brf).mono ?_;rintro e w3 ⟨rfl,hb3⟩;have hw3:=bth szz hb3;have hb13:=bth sz hb3;replace hg:=hg.below' hb3;clear z0 z1 z2;obtain ⟨z0,z1,z2⟩:=cq3 hg;obtain ⟨sn,hsn⟩:∃ sn:TQ,sn=⟨x3,m.length,a,ca⟩:=⟨_,rfl⟩
  have ex:x3=sn.x:=by rw [hsn]
  have e5:m.length=sn.n:=by rw [hsn]
  have e6:a=sn.a:=by rw [hsn]
  have e7:ca=sn.c:=by rw [hsn]
  have hlx:=Xr_lt HX.out ho1.out hw1.size;have hRS:Rd (Xr X ra1) w3 (sn.R (s.1+q,m)):=by
   rw [hsn];exact ((Rd.kp (HK.out.call hb3) fun b hb=>.inl (by have:=hlx b hb;omega)).and (qbl HM.out (fun g hg=>(ho1.out.lt hg).1) hw3)).imp fun V h=>⟨h.1.1,h.2,rfl⟩
  have hb5:Below w3.heap.size w3 (w3.alloc (.cells #[.bool sn.x.neg,.slice sn.x.a sn.x.n sn.x.c,.slice sn.x.b sn.x.m sn.x.d,.slice sn.a sn.n sn.c] 81)):=by go_grown
  have howc:=Hd ((ho1.out.below hb13).alloc (.cells #[.bool sn.x.neg,.slice sn.x.a sn.x.n sn.x.c,.slice sn.x.b sn.x.m sn.x.d,.slice sn.a sn.n sn.c] 81));have hel:=Hd (show sn.At (w3.alloc (.cells #[.bool sn.x.neg,.slice sn.x.a sn.x.n sn.x.c,.slice sn.x.b sn.x.m sn.x.d,.slice sn.a sn.n sn.c] 81)) w3.heap.size 0 from At.new);have hwoc:=bth hw3 hb5;replace ex:=Hd ex;replace e5:=Hd e5;replace e6:=Hd e6;replace e7:=Hd e7;replace hRS:=Hd hRS;replace hsn:=Hd hsn;have hl6:=Hd (show (l1++[sn]).length<=100001 by have:=hl1.out;have:=hkl.out;rw [List.length_append,List.length_singleton];omega);obtain ⟨l6,hl6e⟩:∃ l,l1++[sn]=l:=⟨_,rfl⟩
  rw [hl6e] at hl6;obtain ⟨ly,hly⟩:∃ l,l6++l2=l:=⟨_,rfl⟩
  have hlyl:=Hd (show ly.length<=16777216 by rw [<- hly,List.length_append];have:=hl6.out;have:=hl2.out;omega);replace hly:=Hd hly;replace hl6e:=Hd hl6e;rw [ex.out] at z0 z1 z2;rw [ex.out,e5.out,e6.out,e7.out];clear hlx;go_wp2_with (first
   | (at_builtin
      refine qce (B:=w.heap.size) rfl (.tmp 57) (.tmp 61) 53 rfl Tryz.underlying53 ra1 rc1 rfl howc.out sn w3.heap.size 1 rfl hel.out l6 hl6e.out.symm (by have:=hl6.out;omega) (by have:=hwoc.size;simpa using this) ?_;intro ra6 rc6 w6 ho6 hg6 ha6;have hA6:=qge hA3.out hb13 hb5 (hRS.out.call hb5) hg6 ha6;have hw6:Below w.heap.size w w6:=qav hwoc howc.out hg6;rw [hl6e.out] at hA6;replace ho6:=Hd ho6;replace hA6:=Hd hA6;clear hg6 ha6 hb5 hwoc)
   | (at_builtin
      go_must (refine qcd (B:=w.heap.size) rfl (.tmp 63) (.tmp 66) 53 rfl Tryz.underlying53 ra6 rc6 rfl ho6.out l2 pa2 (p.length-k) (pc-k) hl2.out rfl (qbl hR2.out (fun g hg=>(ho6.out.lt hg).1) hw6).now ly hly.out.symm hlyl.out hw6.size ?_)
      intro ra9 rc9 w9 ho9 hg9 ha9))
  exact zz82
 ):P:=h
theorem zz78 {P:Prop} (h:P:=by
 have hRe:=Hd (show R=p.take k++([(q,m)]++p.drop k) from hR0.out.trans (by rw [if_neg h0]));rw [decide_eq_false h0] at hsg;clear h0 hR0;go_wp2_with fail;refine (CS.out w1 hw1).mono ?_;rintro e w2 ⟨rfl,hb2⟩;have hw2:=bth hw1 hb2;replace hz:=hz.below' hb2;clear z0 z1 z2;obtain ⟨z0,z1,z2⟩:=cq3 hz;go_wp2_with fail;refine (CN.out w2 hw2).mono ?_;rintro e w3 ⟨x2,rfl,HK,hb3⟩;have hw3:=bth hw2 hb3;have hb13:=bth hb2 hb3;obtain ⟨sn,hsn⟩:∃ sn:TQ,sn=⟨x2,m.length,a,ca⟩:=⟨_,rfl⟩
 have ex:x2=sn.x:=by rw [hsn]
 have e5:m.length=sn.n:=by rw [hsn]
 have e6:a=sn.a:=by rw [hsn]
 have e7:ca=sn.c:=by rw [hsn]
 have hRS:Rd (Xr X ra1) w3 (sn.R (q,m)):=by
  rw [hsn];exact ((Rd.kp HK fun b hb=>.inl (Xr_lt HX.out (ho1.out.below hb2) hw2.size b hb)).and (qbl HM.out (fun g hg=>(ho1.out.lt hg).1) hw3)).imp fun V h=>⟨h.1.1,h.2,rfl⟩
 have hb5:Below w3.heap.size w3 (w3.alloc (.cells #[.bool sn.x.neg,.slice sn.x.a sn.x.n sn.x.c,.slice sn.x.b sn.x.m sn.x.d,.slice sn.a sn.n sn.c] 81)):=by go_grown
 have howc:=Hd ((ho1.out.below hb13).alloc (.cells #[.bool sn.x.neg,.slice sn.x.a sn.x.n sn.x.c,.slice sn.x.b sn.x.m sn.x.d,.slice sn.a sn.n sn.c] 81));have hel:=Hd (show sn.At (w3.alloc (.cells #[.bool sn.x.neg,.slice sn.x.a sn.x.n sn.x.c,.slice sn.x.b sn.x.m sn.x.d,.slice sn.a sn.n sn.c] 81)) w3.heap.size 0 from At.new);have hwoc:=bth hw3 hb5;replace ex:=Hd ex;replace e5:=Hd e5;replace e6:=Hd e6;replace e7:=Hd e7;replace hRS:=Hd hRS;replace hsn:=Hd hsn;have hl6:=Hd (show (l1++[sn]).length<=100001 by have:=hl1.out;have:=hkl.out;rw [List.length_append,List.length_singleton];omega);obtain ⟨l6,hl6e⟩:∃ l,l1++[sn]=l:=⟨_,rfl⟩
 rw [hl6e] at hl6;obtain ⟨ly,hly⟩:∃ l,l6++l2=l:=⟨_,rfl⟩
 have hlyl:=Hd (show ly.length<=16777216 by rw [<- hly,List.length_append];have:=hl6.out;have:=hl2.out;omega);replace hly:=Hd hly;replace hl6e:=Hd hl6e;rw [ex.out,e5.out,e6.out,e7.out];clear HK z0 z1 z2 hz;go_wp2_with (first
  | (at_builtin
     refine qce (B:=w.heap.size) rfl (.tmp 76) (.tmp 81) 53 rfl Tryz.underlying53 ra1 rc1 rfl howc.out sn w3.heap.size 1 rfl hel.out l6 hl6e.out.symm (by have:=hl6.out;omega) (by have:=hwoc.size;simpa using this) ?_;intro ra6 rc6 w6 ho6 hg6 ha6;have hA6:=qge hA3.out hb13 hb5 (hRS.out.call hb5) hg6 ha6;have hw6:Below w.heap.size w w6:=qav hwoc howc.out hg6;rw [hl6e.out] at hA6;replace ho6:=Hd ho6;replace hA6:=Hd hA6;clear hg6 ha6 hb5 hwoc)
  | (at_builtin
     go_must (refine qcd (B:=w.heap.size) rfl (.tmp 83) (.tmp 86) 53 rfl Tryz.underlying53 ra6 rc6 rfl ho6.out l2 pa2 (p.length-k) (pc-k) hl2.out rfl (qbl hR2.out (fun g hg=>(ho6.out.lt hg).1) hw6).now ly hly.out.symm hlyl.out hw6.size ?_)
     intro ra9 rc9 w9 ho9 hg9 ha9))
 exact zz82
 ):P:=h
theorem zz79 {P:Prop} (h:P:=by
 have hRe:=Hd (show R=p.take k++([]++p.drop k) from hR0.out.trans (by rw [if_pos h0]));rw [decide_eq_true h0] at hsg;clear h0 hR0;go_wp2_with fail;refine (CS.out w1 hw1).mono ?_;rintro e w6 ⟨rfl,hb6⟩;have hw6:=bth hw1 hb6;have hA6:=Hd (show AllT (Xr X ra1) w6 l1 (p.take k++[]) by rw [List.append_nil];exact hA3.out.call hb6);have ho6:=Hd (ho1.out.below hb6);have hl6:=Hd (show l1.length<=100001 by have:=hl1.out;have:=hkl.out;omega);clear z0 z1 z2 hz;obtain ⟨ly,hly⟩:∃ l,l1++l2=l:=⟨_,rfl⟩
 have hlyl:=Hd (show ly.length<=16777216 by rw [<- hly,List.length_append];have:=hl6.out;have:=hl2.out;omega);replace hly:=Hd hly;go_wp2_with (at_builtin;go_must (refine qcd (B:=w.heap.size) rfl (.tmp 83) (.tmp 86) 53 rfl Tryz.underlying53 ra1 rc1 rfl ho6.out l2 pa2 (p.length-k) (pc-k) hl2.out rfl (qbl hR2.out (fun g hg=>(ho6.out.lt hg).1) hw6).now ly hly.out.symm hlyl.out hw6.size ?_);intro ra9 rc9 w9 ho9 hg9 ha9);exact zz81
 ):P:=h
theorem qaj7 (X:Nat->Prop) (D:Int) (p:List Tm) (x:QA) (q:Rat) (m:List Int) (pa:Option Addr) (pc:Nat) (a:Option Addr) (ca:Nat) (w:World) (hX:∀ b,X b->b<w.heap.size) (hp:PolX X w pa pc p) (hx:Rd X w fun V=>QAc V x q) (hq:qsz q<=1000) (hm:Rd X w fun V=>IntsR V a ca m)
  (hPok:Pok D p) (hmok:Mok D m) (fp:FineP p) (fm:∀ y∈m,0<=y/\y<=1048576) (hlen:p.length<=100000) :
  Calls Tryz.prog 125 #[.slice pa p.length pc,.agg #[.bool x.neg,.slice x.a x.n x.c,.slice x.b x.m x.d],.slice a m.length ca] w (RetP X (addP p (oneP (q,m))) w):=by
 have CS:=fun W (hW:Below w.heap.size w W)=>qkl x q 1000 W ⟨(hx.call hW).now,hq⟩ (by omega)
 have CN:=fun W (hW:Below w.heap.size w W)=>qy5 x q W ⟨(hx.call hW).now,hq⟩
 have hsg:=qm2 q;obtain ⟨S0,hS0⟩:∃ S0,sgnQ q=S0:=⟨_,rfl⟩
 rw [hS0] at CS hsg;obtain ⟨R,hR⟩:∃ R,addP p (oneP (q,m))=R:=⟨_,rfl⟩
 rw [hR];have HX:=Hd hX;have HM:=Hd hm;have HP:=Hd hp;have HPok:=Hd hPok;have HMok:=Hd hmok;have FP:=Hd fp.2;have FM:=Hd fm;have HR:=Hd hR;have HQK:=Hd (fun W (hW:Below w.heap.size w W)=>(show QK 1000 W x q from ⟨(hx.call hW).now,hq⟩));replace CS:=Hd CS;replace CN:=Hd CN;clear hX hx hS0 hq hm hp hPok hmok fp fm hR;go_enter Tryz.func125,Tryz.ntmps125;go_wp2;refine qak (fun W=>Blk W w.heap.size 76 #[.bool x.neg,.slice x.a x.n x.c,.slice x.b x.m x.d]/\Below w.heap.size w W) ⟨by ((with_reducible repeat first|assumption|(apply bF;focus omega)|apply bS|(apply bN;focus (simp;done))|apply bA|apply bD);all_goals rfl),by go_grown⟩ ?_;rintro w0 ⟨hz,hw0⟩
 go_loopg [7] p.length (fun gk sv wr=>sv=.int .i64 gk/\Hid (gk<=p.length)/\Hid (∀ i s,p[i]? = some s->gk<=i->lexI s.2 m<0)/\w0=wr)
 case atStart=>exact ⟨rfl,nlr _,(fun i s h1 h2=>absurd (qas h1) (by omega)),rfl⟩
 case round =>
  obtain ⟨rfl,hk,hlow,rfl⟩:=hrel
  cases gk with
  | zero =>
   obtain ⟨k,hk0⟩:∃ k:Nat,0=k:=⟨_,rfl⟩
   rw [hk0] at hk hlow;rw [show (((0:Nat):Int))=(k:Int) by rw [hk0]];have hk2:=hk;have d1:decide ((0:Int)<(k:Int))=false:=by rw [decide_eq_false_iff_not];omega
   have d2:decide (0<k)=false:=by rw [decide_eq_false_iff_not];omega
   replace hk0:=Hd hk0
   -- k terms stand ahead of the place,none of which has the monomial
   have hR0:=qnw (q:=q) HPok.out hk2.out hlow.out (fun s h1 _=>absurd hk0.out.symm h1);rw [HR.out] at hR0;replace hR0:=Hd hR0;obtain ⟨l1,hl1,hA1,hR1⟩:=PolX.front HP.out k hk2.out;obtain ⟨l2,hl2,hA2,hR2⟩:=HP.out.rest k;have hs1:=fun W=>qir pa p.length pc k (by have:=HP.out.cap;have:=hk2.out;omega) W
   have hs2:=fun W=>qgx 53 Tryz.underlying53 pa p.length pc k hk2.out W
   obtain ⟨pa2,hpa2⟩:∃ A,(if pc=k then pa else pa.map (·.add (k*4)))=A:=⟨_,rfl⟩
   rw [hpa2] at hs2 hR2;replace hl1:=Hd hl1;replace hl2:=Hd hl2;replace hA1:=Hd hA1;replace hA2:=Hd hA2;replace hR1:=Hd hR1;replace hR2:=Hd hR2;have hkl:=Hd hk2.out;obtain ⟨z0,z1,z2⟩:=cq3 hz;clear hpa2 hlow;go_wp2_with (first
    | (at_builtin
       go_must (refine qcd (B:=w.heap.size) rfl (.tmp 68) (.tmp 71) 53 rfl Tryz.underlying53 none 0 (l:=[]) rfl Own.nil l1 pa k pc hl1.out rfl ((hR1.out.call hw0).now) l1 rfl (by rw [<- hl1.out];have:=hkl.out;omega) hw0.size ?_)
       intro ra1 rc1 w1 ho1 hg1 ha1;have hA3:=Hd (AllT.appN (hA1.out.map (Y:=Xr X none) fun _ _ h=>qbl h (fun g hg=>by cases hg) hw0) hg1 ha1);have hb1:Below w0.heap.size w0 w1:=qen brf hg1 (fun g hg=>by cases hg);have hw1:=bth hw0 hb1;replace hz:=hz.below' hb1;clear z0 z1 z2 hg1 ha1 hA1 hR1;have z0:=hz.cell 0;have z1:=hz.cell 1;have z2:=hz.cell 2;replace ho1:=Hd ho1))
   by_cases h0:q=0
   ·
    exact zz79
   ·
    exact zz78
  | succ n =>
   have hnl:n<p.length:=by have:=hk.out;omega
   obtain ⟨s,hs⟩:=qad hnl;obtain ⟨b,off,t,hpa,ht,htR⟩:=HP.out.get hs;have fs:=FP.out s (List.mem_of_getElem? hs);have CL:=qjo s.2 m t.a a t.c ca w0 (htR.call hw0).now.2.1 (HM.out.call hw0).now (qac4 fs) FM.out;rw [<- htR.now.2.2] at CL;obtain ⟨c0,c1,c2,c3⟩:=ht;have y3:=held c3 w0 hw0;obtain ⟨L,hL⟩:∃ L,lexI s.2 m=L:=⟨_,rfl⟩
   rw [hL] at CL;obtain ⟨k,hk0⟩:∃ k:Nat,n+1=k:=⟨_,rfl⟩
   rw [hk0] at hk hlow;rw [hk0];have hk2:=hk;have d1:decide ((0:Int)<(k:Int))=true:=by rw [decide_eq_true_iff];omega
   have d2:decide (0<k)=true:=by rw [decide_eq_true_iff];omega
   have hkn:(k:Int)-1=(n:Int):=by omega
   have hkb:=Hd (show k<=100000 by have:=hk.out;omega);replace CL:=Hd CL;replace hL:=Hd hL;replace hk0:=Hd hk0;replace fs:=Hd fs;replace htR:=Hd htR;replace hs:=Hd hs;by_cases g1:L<0
   ·
    have g1b:decide (L<0)=true:=decide_eq_true g1;have hlow2:=Hd (show ∀ i s,p[i]? = some s->n<=i->lexI s.2 m<0 from fun i u hu hi=>by
     rcases Nat.lt_or_ge n i with h | h
     · exact hlow.out i u hu (by have:=hk0.out;omega)
     ·
      obtain rfl:i=n:=by omega
      rw [hs.out] at hu;injection hu with hu
      rw [<- hu,hL.out];exact g1)
    subst hpa;clear g1 c0 c1 c2 c3;go_wp2_with fail;refine CL.out.mono ?_;rintro e w9 ⟨rfl,rfl⟩;go_wp2;go_roundg n
    case rel=>exact ⟨by go_num,by show _<=_;omega,hlow2.out,rfl⟩
    case measure=>have:=hk0.out;omega
   ·
    have g1b:decide (L<0)=false:=decide_eq_false g1;by_cases g2:0<L
    ·
     have g2b:(L==0)=false:=by rw [beq_eq_false_iff_ne];omega
     have hgt:=Hd (show ∀ u,k≠0->p[k-1]? = some u->0<lexI u.2 m from fun u _ hu=>by
      rw [show k-1=n by have:=hk0.out;omega,hs.out] at hu;injection hu with hu
      rw [<- hu,hL.out];exact g2)
     have hpa':=Hd hpa;subst hpa;clear g1 g2 c0 c1 c2 c3;go_wp2_with fail;refine CL.out.mono ?_;rintro e w9 ⟨rfl,rfl⟩;go_wp2_with fail;refine CL.out.mono ?_;rintro e w9 ⟨rfl,rfl⟩;obtain ⟨pa,hpa⟩:∃ A:Option Addr,some ⟨b,off,none⟩=A:=⟨_,rfl⟩
     rw [hpa] at HP ⊢;replace hpa:=Hd hpa;clear y3
     -- k terms stand ahead of the place,none of which has the monomial
     have hR0:=qnw (q:=q) HPok.out hk2.out hlow.out hgt.out;rw [HR.out] at hR0;replace hR0:=Hd hR0;obtain ⟨l1,hl1,hA1,hR1⟩:=PolX.front HP.out k hk2.out;obtain ⟨l2,hl2,hA2,hR2⟩:=HP.out.rest k;have hs1:=fun W=>qir pa p.length pc k (by have:=HP.out.cap;have:=hk2.out;omega) W
     have hs2:=fun W=>qgx 53 Tryz.underlying53 pa p.length pc k hk2.out W
     obtain ⟨pa2,hpa2⟩:∃ A,(if pc=k then pa else pa.map (·.add (k*4)))=A:=⟨_,rfl⟩
     rw [hpa2] at hs2 hR2;replace hl1:=Hd hl1;replace hl2:=Hd hl2;replace hA1:=Hd hA1;replace hA2:=Hd hA2;replace hR1:=Hd hR1;replace hR2:=Hd hR2;have hkl:=Hd hk2.out;obtain ⟨z0,z1,z2⟩:=cq3 hz;clear hpa2 hlow;go_wp2_with (first
      | (at_builtin
         go_must (refine qcd (B:=w.heap.size) rfl (.tmp 68) (.tmp 71) 53 rfl Tryz.underlying53 none 0 (l:=[]) rfl Own.nil l1 pa k pc hl1.out rfl ((hR1.out.call hw0).now) l1 rfl (by rw [<- hl1.out];have:=hkl.out;omega) hw0.size ?_)
         intro ra1 rc1 w1 ho1 hg1 ha1;have hA3:=Hd (AllT.appN (hA1.out.map (Y:=Xr X none) fun _ _ h=>qbl h (fun g hg=>by cases hg) hw0) hg1 ha1);have hb1:Below w0.heap.size w0 w1:=qen brf hg1 (fun g hg=>by cases hg);have hw1:=bth hw0 hb1;replace hz:=hz.below' hb1;clear z0 z1 z2 hg1 ha1 hA1 hR1;have z0:=hz.cell 0;have z1:=hz.cell 1;have z2:=hz.cell 2;replace ho1:=Hd ho1))
     by_cases h0:q=0
     ·
      exact zz79
     ·
      exact zz78
    ·
     have g2b:(L==0)=true:=by rw [beq_iff_eq];omega
     have hL0:=Hd (show L=0 by omega);subst hpa;clear g1 g2 c3;go_wp2_with fail;refine CL.out.mono ?_;rintro e w9 ⟨rfl,rfl⟩;go_wp2_with fail;refine CL.out.mono ?_;rintro e w9 ⟨rfl,rfl⟩;have hR0:=Hd ((HR.out).symm.trans (qvt (q:=q) HPok.out HMok.out hs.out (by rw [hL.out];exact hL0.out)));obtain ⟨l1,hl1,hA1,hR1⟩:=PolX.front HP.out n (by omega);obtain ⟨l2,hl2,hA2,hR2⟩:=HP.out.rest k;have hs1:=fun W=>qir (some ⟨b,off,none⟩) p.length pc n (by have:=HP.out.cap;omega) W
     replace hl1:=Hd hl1;replace hl2:=Hd hl2;replace hA1:=Hd hA1;replace hA2:=Hd hA2;replace hR1:=Hd hR1;replace hR2:=Hd hR2;have hkl:=Hd (show n<=100000 by omega);obtain ⟨z0,z1,z2⟩:=cq3 hz;clear hlow;go_wp2_with (first
      | (at_builtin
         go_must (refine qcd (B:=w.heap.size) rfl (.tmp 40) (.tmp 44) 53 rfl Tryz.underlying53 none 0 (l:=[]) rfl Own.nil l1 (some ⟨b,off,none⟩) n pc hl1.out rfl ((hR1.out.call hw0).now) l1 rfl (by rw [<- hl1.out];have:=hkl.out;omega) hw0.size ?_)
         intro ra1 rc1 w1 ho1 hg1 ha1;have hA3:=Hd (AllT.appN (hA1.out.map (Y:=Xr X none) fun _ _ h=>qbl h (fun g hg=>by cases hg) hw0) hg1 ha1);have hb1:Below w0.heap.size w0 w1:=qen brf hg1 (fun g hg=>by cases hg);have hw1:=bth hw0 hb1;replace hz:=hz.below' hb1;clear z0 z1 z2 hg1 ha1 hA1 hR1 y3;have z0:=hz.cell 0;have z1:=hz.cell 1;have z2:=hz.cell 2;have k0:=held c0 w1 hw1;have k1:=held c1 w1 hw1;have k2:=held c2 w1 hw1;replace ho1:=Hd ho1))
     have CA:=Hd (fun W (hW:Below w1.heap.size w1 W)=>qaj3 t.x x s.1 q 1000 1000 W ((htR.out.call (bth hw1 hW)).now.qk fs.out) (HQK.out W (bth hw1 hW)) (by omega) (by omega));have j0:=held k0;have j1:=held k1;have j2:=held k2;have n0:=held z0;have n1:=held z1;have n2:=held z2;have hwn:IntKind.i64.wrap (n:Int)=(n:Int):=by rw [IntKind.wrap_i64];have:=hkl.out;omega
     have s0:Below w1.heap.size w1 w1.drew:=brf.drew;clear k0 k1 k2 z0 z1 z2 hz CS CN CL;refine qfa (S:=Below w1.heap.size w1) (.q 0 (.q 1 (.q 2 (.q 3 (.q 4 (.q 5 (.q 6 (.two 7 (.l 8 (.t 9 .nil)) 8 (.l 7 (.t 9 .nil)))))))))) [9] (by kernel_rfl) (by kernel_rfl) (by kernel_rfl) (fun d _ _ _ _ h=>by cases d <;> exact h) s0 ?_
     iterate 7 (refine qjw rfl rfl fun K hK=>xq ?_;go_simp;refine hK _ _ ?_;clear hK K)
     refine qle ?_ ?_
     ·
      skip
      refine qcc rfl rfl (fun K hK=>?_);go_simp;refine (CA.out _ s0).mono ?_;rintro r w5 ⟨x3,rfl,HK,hb5⟩;dsimp only;refine hK.out _ _ (bth s0 hb5) (fun _=>?_);clear hK K;have s5:Below w1.heap.size w1 w5:=bth s0 hb5;have sA:Below w1.heap.size w1 (w5.alloc (.cells #[.bool false,.slice none 0 0,.slice none 0 0] 76)):=s5.alloc s5.size _;refine qcc rfl rfl (fun K hK=>?_);go_simp;refine hK.out _ _ (sA) (fun _=>?_);clear hK K;have hzz:Blk (w5.alloc (.cells #[.bool false,.slice none 0 0,.slice none 0 0] 76)) w5.heap.size 76 #[.bool false,.slice none 0 0,.slice none 0 0]:=Blk.new w5 _ _;obtain ⟨z0,z1,z2⟩:=cq3 hzz;obtain ⟨x0,x1,x2⟩:=fq3 hzz;refine ql6 rfl rfl (fun K hK=>?_);go_simp;refine hK.out _ _ ?_;clear hK K;refine qe8 ?_;replace HK:=Hd (show Kp (fun V=>QK 2001 V x3 (s.1+q)) w1.heap.size w5.heap.size w5 from HK)
      refine qak (fun W=>Blk W w5.heap.size 76 #[.bool x3.neg,.slice x3.a x3.n x3.c,.slice x3.b x3.m x3.d]/\Kp (fun V=>QK 2001 V x3 (s.1+q)) w1.heap.size w5.heap.size W/\Below w1.heap.size w1 W) ⟨by ((with_reducible repeat first|assumption|(apply bF;focus omega)|apply bS|(apply bN;focus (simp;done))|apply bA|apply bD);all_goals rfl),by (with_reducible repeat first | exact HK.out | (refine Kp.setc ?_ ?_;focus omega) | refine Kp.alloc ?_ | refine Kp.drew ?_),s5.alloc s5.size _⟩ ?_;clear z0 z1 z2 x0 x1 x2 hzz sA hb5 s5 s0;rintro wz ⟨hg,HK,sz⟩;obtain ⟨g,hge⟩:∃ g,g=w5.heap.size:=⟨_,rfl⟩
      exact zz77
     ·
      skip
      have sA:Below w1.heap.size w1 (w1.alloc (.cells #[.bool false,.slice none 0 0,.slice none 0 0] 76)).drew:=(brf.alloc (nlr _) _).drew;refine qcc rfl rfl (fun K hK=>?_);go_simp;refine hK.out _ _ sA (fun _=>?_);clear hK K;refine qcc rfl rfl (fun K hK=>?_);go_simp;refine (CA.out _ sA).mono ?_;rintro r w5 ⟨x3,rfl,HK,hb5⟩;dsimp only;refine hK.out _ _ (bth sA hb5) (fun _=>?_);clear hK K;have s5:=bth sA hb5;have hle4:w1.heap.size<=w1.heap.size:=nlr _;have hzz:Blk w5 w1.heap.size 76 #[.bool false,.slice none 0 0,.slice none 0 0]:=(show Blk (w1.alloc (.cells #[.bool false,.slice none 0 0,.slice none 0 0] 76)).drew w1.heap.size 76 #[.bool false,.slice none 0 0,.slice none 0 0] from Blk.new w1 _ _).below' hb5;obtain ⟨z0,z1,z2⟩:=cq3 hzz;obtain ⟨x0,x1,x2⟩:=fq3 hzz;have hle:w1.heap.size<(w1.alloc (.cells #[.bool false,.slice none 0 0,.slice none 0 0] 76)).drew.heap.size:=by simp
      refine ql6 rfl rfl (fun K hK=>?_);go_simp;refine hK.out _ _ ?_;clear hK K;refine qe8 ?_;replace HK:=Hd (Kp.broad (B':=w1.heap.size+1) HK (by simp) (nlr _));refine qak (fun W=>Blk W w1.heap.size 76 #[.bool x3.neg,.slice x3.a x3.n x3.c,.slice x3.b x3.m x3.d]/\Kp (fun V=>QK 2001 V x3 (s.1+q)) (w1.heap.size+1) w5.heap.size W/\Below w1.heap.size w1 W) ⟨by ((with_reducible repeat first|assumption|(apply bF;focus omega)|apply bS|(apply bN;focus (simp;done))|apply bA|apply bD);all_goals rfl),by (with_reducible repeat first | exact HK.out | (refine Kp.setc ?_ ?_;focus omega) | refine Kp.alloc ?_ | refine Kp.drew ?_),(((s5.setCell hle4 _).setCell hle4 _).setCell hle4 _)⟩ ?_;clear z0 z1 z2 x0 x1 x2 hzz sA hle hle4 hb5 s5 s0;rintro wz ⟨hg,HK,sz⟩;obtain ⟨g,hge⟩:∃ g,g=w1.heap.size:=⟨_,rfl⟩
      exact zz77
theorem qzm (L:List Tm) (k:Nat):wtP (L.take k)<=wtP L:=by
 have h:wtP L=wtP (L.take k)+wtP (L.drop k):=by
  unfold wtP;rw [<- List.sum_append,<- List.map_append,List.take_append_drop]
 omega
theorem ql1 {L:List Tm} (hM:∀ t∈L,Mok 1048576 t.2) (hw:wtP L<=1001) (k:Nat):FineP (normP (L.take k))/\Pok 1048576 (normP (L.take k)):=by
 have hM2:∀ t∈L.take k,Mok 1048576 t.2:=fun t ht=>hM t (List.mem_of_mem_take ht)
 have h1:=qho hM2 (Nat.le_trans (qzm L k) hw) _ (List.infix_refl _);have h2:=qgl hM2;unfold onesP at h1;rw [h2] at h1;exact ⟨h1,(qix hM2).1⟩
theorem qt9 {L:List Tm} {k:Nat} {u:Tm} (h:L[k]? = some u):normP (L.take (k+1))=addP (normP (L.take k)) (oneP u):=by
 unfold normP;rw [qbc h,List.foldl_append]
 rfl
theorem qah6 (X:Nat->Prop) (L:List Tm) (a:Option Addr) (c:Nat) (w:World) (hX:∀ b,X b->b<w.heap.size) (hp:PolX X w a c L) (hM:∀ t∈L,Mok 1048576 t.2) (hq:∀ t∈L,qsz t.1<=1000) (hw:wtP L<=1001) :
  Calls Tryz.prog 69 #[.slice a L.length c] w (RetP X (normP L) w):=by
 have hll:=qmt L;have hfi:=Hd (ql1 hM hw);have HP:=Hd hp;have HX:=Hd hX;have HM:=Hd hM;have HQL:=Hd hq;have hLl:L.length<=1001:=by omega
 clear hp hX hM hq hw hll;go_enter Tryz.func69,Tryz.ntmps69;go_wp2;obtain ⟨wo,rfl⟩:∃ wo:World,wo=w:=⟨_,rfl⟩
 go_loopg [3,4] L.length (fun gk o i wr=>∃ (k:Nat) (ra:Option Addr) (rc:Nat) (n:Nat),Hid (k+gk=L.length)/\o=.slice ra n rc/\Hid (n=(normP (L.take k)).length)/\i=.int .i64 k/\Hid (PolX X wr ra rc (normP (L.take k)))/\Hid (Below wo.heap.size wo wr))
 case atStart=>exact ⟨0,none,0,0,by show _=_;omega,rfl,rfl,rfl,PolX.nil,Below.refl _ _⟩
 case round =>
  obtain ⟨k,ra,rc,n,hk,rfl,hn,rfl,hA,hwr⟩:=hrel;obtain ⟨w1,rfl⟩:∃ W:World,W=wr:=⟨_,rfl⟩
  by_cases hkl:k<L.length
  ·
   obtain ⟨u,hu⟩:=qad hkl;have hum:u∈L:=List.mem_of_getElem? hu;have hmu:=HM.out u hum;obtain ⟨b,off,t,rfl,ht,htR⟩:=HP.out.get hu;obtain ⟨c0,c1,c2,c3⟩:=ht;have e0:=held c0 w1 hwr.out;have e1:=held c1 w1 hwr.out;have e2:=held c2 w1 hwr.out;have e3:=held c3 w1 hwr.out;have hIm:=Hd ((htR.call hwr.out).imp fun V h=>h.2.1);have CM:=qfh u.2 t.a t.c w1 hIm.out.now (by have:=hmu.2.2;omega);have hnu:t.n=u.2.length:=htR.now.2.2;rw [qpa hmu,if_pos (qjd hmu),<- hnu] at CM;have hnr:=Hd (qt9 hu);have hum':=Hd hum;replace hnu:=Hd hnu;replace hmu:=Hd hmu;replace htR:=Hd htR;replace CM:=Hd CM;clear hu hum;go_wp2_with fail;refine CM.out.mono ?_;rintro e w2 ⟨a1,c4,rfl,hK,hb2⟩;have hw2:=bth hwr.out hb2;have CZ:=Hd (qsc u.2 t.a a1 t.c c4 w2 (hIm.out.call hb2).now hK.now);rw [<- hnu.out] at CZ;have g0:=held c0 w2 hw2;have g1:=held c1 w2 hw2;have g2:=held c2 w2 hw2;have g3:=held c3 w2 hw2;rw [<- hnu.out]
   clear CM e0 e1 e2 e3;go_wp2_with fail;refine CZ.out.mono ?_;rintro e w3 ⟨rfl,hb3⟩;have hw3:=bth hw2 hb3;have h23:=bth hb2 hb3;have k0:=held c0 w3 hw3;have k1:=held c1 w3 hw3;have k2:=held c2 w3 hw3;have k3:=held c3 w3 hw3;have CG:=qaj7 X 1048576 (normP (L.take k)) t.x u.1 u.2 ra rc a1 c4 w3 (fun b hb=>ltl (HX.out b hb) hw3.size) (hA.out.call h23) ((htR.out.call hw3).imp fun V h=>h.1) (HQL.out u hum'.out)
    (Rd.kp (hK.call hb3) fun b hb=>.inl (ltl (HX.out b hb) hwr.out.size)) (hfi.out k).2 hmu.out (hfi.out k).1 (fun y hy=>by have:=hmu.out.1 y hy;omega) (hfi.out k).1.1
   rw [<- hn.out,<- hnu.out,<- hnr.out] at CG;replace CG:=Hd CG;clear CZ g0 g1 g2 g3;go_wp2_with fail;refine CG.out.mono ?_;rintro e w4 ⟨ra2,rc2,rfl,hP4,hb4⟩;have hw4:=Hd (bth hw3 hb4);obtain ⟨n2,hn2⟩:∃ q:Nat,q=(normP (L.take (k+1))).length:=⟨_,rfl⟩
   rw [<- hn2];replace hn2:=Hd hn2;replace hP4:=Hd hP4;clear CG k0 k1 k2 k3;go_wp2;go_roundg (gk-1)
   case rel=>exact ⟨k+1,ra2,rc2,n2,by have:=hk.out;show _=_;omega,rfl,hn2.out,by go_num,hP4.out,hw4.out⟩
   case measure=>have:=hk.out;omega
  ·
   have hke:k=L.length:=by have:=hk.out;omega
   have hP:=hA.out;have hn2:=hn.out;rw [hke,List.take_length] at hP hn2;replace hP:=Hd hP;replace hn2:=Hd hn2;clear hA hn hke;go_wp2;go_ret;exact ⟨ra,rc,by rw [<- hn2.out];rfl,hP.out,hwr.out⟩
theorem qo3 {w w' W0:World} {g a B:Nat} {s:ByteArray} {nv:Value} {e:Int} {ra:Option Addr} {rc:Nat} {lo:List TQ} (h:RrA w g s nv a e) (ho:OwnT B W0 ra rc lo) (hg:g<B) (hgr:w.grownBy w' (Value.ownBlock (.slice ra lo.length rc))):RrA w' g s nv a e:=Blk.under h ho hg hgr
theorem quk {α:Type} {G:Got α} {w w' W0:World} {g B:Nat} {s:ByteArray} {nv:Value} {ra:Option Addr} {rc:Nat} {lo:List TQ} (h:StGr w g s nv G) (ho:OwnT B W0 ra rc lo) (hg:g<B) (hgr:w.grownBy w' (Value.ownBlock (.slice ra lo.length rc))):StGr w' g s nv G:=by
 cases G with
 | ok v r=>obtain ⟨a,h1,h2,h3⟩:=(h:StRr w g s nv r);exact ⟨a,h1,h2,qo3 h3 ho hg hgr⟩
 | bad k e=>obtain ⟨h1,h2,h3⟩:=(h:StEr w g s nv k e);exact ⟨h1,h2,qo3 h3 ho hg hgr⟩
theorem qug (g a:Nat) (s:ByteArray) (nv:Value) (z:Int) (w:World) (b:Bool) (h:RrA w g s nv a 0) (ha:a<=s.size) (hs:s.size<=281474976710656) (hn:nxtB (tl s a) z=b) :
  Calls Tryz.prog 64 #[.pointer (some ⟨g,0,none⟩),.int .u8 z] w fun u w'=>u=.returned (.bool b)/\RrA w' g s nv (if b=true then a+1 else a) 0/\Fg g w w':=by
 cases b
 ·
  refine (qds g a s nv z w h ha hs hn).mono ?_;rintro e w' ⟨rfl,hb⟩;exact ⟨rfl,h.below hb,Fr.below hb⟩
 · exact qdt g a s nv z w h ha hs hn
theorem qy1 {names:List ByteArray} {a:Option Addr} {c:Nat} {w:World} (h:StrsR w a c names):names≠[]->∀ p:Addr,a=some p->p.block<w.heap.size:=fun hne p hp=>by
 obtain ⟨x,hx⟩:∃ x,names[0]? = some x:=by
  cases names with
  | nil=>exact absurd rfl hne
  | cons x r=>exact ⟨x,rfl⟩
 obtain ⟨b,off,ha,hc⟩:=h.2.2 0 x hx;rw [ha] at hp;injection hp with hp
 subst hp;exact World.block_lt_of_cell? w _ hc
theorem qto (Y:Nat->Prop) (s:ByteArray) (names:List ByteArray) (a:Option Addr) (c:Nat) (w:World) (h:StrsR w a c names) (hnz:∀ x∈names,x.size<=1048576) (hnl:names.length<=1000) (hs:s.size<=3000) (hW:Wok names s.data.toList) (hY:∀ b,Y b->b<w.heap.size) :
  Calls Tryz.prog 33 #[.string s,.slice a names.length c] w (qys Y names s w):=by
 replace hY:=Hd hY;have CK:=Hd (qlr names a c w h hnz (by omega));have HN:=Hd (fun W (hW:Below w.heap.size w W)=>h.ext (xbw hW));have HWk:=Hd hW;have HNA:=Hd (qy1 h);clear h hnz hW;obtain ⟨er,her⟩:∃ e,errNm names=e:=⟨_,rfl⟩
 rw [her] at CK;by_cases he0:er=0
 ·
  subst he0;go_enter Tryz.func33,Tryz.ntmps33;go_wp2_with fail;refine CK.out.mono ?_;rintro e w1 ⟨rfl,hb1⟩;go_wp2_with fail;refine qah (fun W=>RrA W w1.heap.size s (Value.slice a names.length c) 0 0/\Below w.heap.size w W) ⟨bN rfl,hb1.alloc hb1.size _⟩ ?_;rintro w2 ⟨h2,hw2⟩;obtain ⟨g,hg⟩:∃ q,w1.heap.size=q:=⟨_,rfl⟩
  have hgw:=Hd (show w.heap.size<=g by have:=hb1.size;omega);rw [hg] at h2 ⊢;replace hg:=Hd hg;clear hb1 CK;obtain ⟨SG,hSG⟩:∃ G,reaG names s.data.toList=G:=⟨_,rfl⟩
  have hSG0:=Hd hSG;have hst:=qb3 (tl s 0) 45 (z:=45) rfl;obtain ⟨bp,hbp⟩:∃ b,nxtB (tl s 0) 45=b:=⟨_,rfl⟩
  rw [hbp] at hst;have hP0:SG=sumG names (s.size+1) bp [] (tl s (if bp=true then 1 else 0))/\(if bp=true then 1 else 0)<=s.size:=by
   unfold reaG at hSG;rw [<- qwo,qaq,Nat.sub_zero] at hSG
   cases bp
   ·
    have h45:¬ (tl s 0)[0]? = some 45:=by simpa using hst.symm
    rw [if_neg h45] at hSG;exact ⟨hSG.symm,Nat.zero_le _⟩
   ·
    have h45:(tl s 0)[0]? = some 45:=by simpa using hst.symm
    rw [if_pos h45,qbi] at hSG;refine ⟨hSG.symm,?_⟩;apply Nat.lt_of_not_le;intro hle;rw [qbn hle] at h45
    cases h45
  obtain ⟨p0,hp0⟩:∃ q,(if bp=true then 1 else 0)=q:=⟨_,rfl⟩
  rw [hp0] at hP0;obtain ⟨hS0,hp0s⟩:=hP0;replace hS0:=Hd hS0;have CT:=qug g 0 s (Value.slice a names.length c) 45 w2 bp h2 (by omega) (by omega) hbp;rw [show (if bp=true then 0+1 else 0)=p0 from hp0] at CT;clear hst hbp hp0 hSG h2;refine CT.mono ?_;rintro e w3 ⟨rfl,h3,hf3⟩;have hw3:Below w.heap.size w w3:=Below.fr hw2 hf3 (fun b hb=>by subst hb;exact hgw.out) hw2.size;have hww:=Hd (fun W (hW:Fg g w3 W)=>(show Below w.heap.size w W from Below.fr hw3 hW (fun b hb=>by subst hb;exact hgw.out) hw3.size));have hX:=Hd (show ∀ b,(Y b\/b=g)->b<w3.heap.size from fun b hb=>by
   rcases hb with hb | rfl
   · have:=hY.out b hb;have:=hw3.size;omega
   · exact h3.lt)
  obtain ⟨X,hXe⟩:∃ X:Nat->Prop,X=fun b=>Y b\/b=g:=⟨_,rfl⟩
  have hX2:=Hd (show ∀ b,X b->b<w3.heap.size from fun b hb=>hX.out b (by rw [hXe] at hb;exact hb));have hXg:=Hd (show ∀ b,b=g->X b from fun b hb=>by rw [hXe];exact .inr hb);have hYX:=Hd (show ∀ b,Y b->X b from fun b hb=>by rw [hXe];exact .inl hb);clear hX hXe hf3 hw2 CT;have h3':=Hd h3;have hw3':=Hd hw3;clear h3 hw3;go_wp2
  go_loopg [9,10] (s.size+1) (fun gk ng o wr=>∃ (p fu:Nat) (neg:Bool) (lo:List TQ) (po:List Tm) (ra:Option Addr) (rc:Nat),ng=.bool neg/\o=.slice ra lo.length rc/\Hid (p<=s.size)/\Hid (s.size-p<gk)/\Hid (s.size-p<fu)/\Hid (lo.length<=p)/\Hid (OwnT w3.heap.size wr ra rc lo)/\Hid (AllT (Xr X ra) wr lo po)/\Hid (RrA wr g s (Value.slice a names.length c) p 0)/\Hid (SG=sumG names fu neg po (tl s p))/\Hid (Fg g w3 wr)/\Hid (∀ u∈po,qsz u.1<=1000))
  case atStart=>exact ⟨p0,s.size+1,bp,[],[],none,0,rfl,rfl,hp0s,by show _<_;omega,by show _<_;omega,Nat.zero_le _,Own.nil,AllT.nil,h3'.out,hS0.out,Fr.refl _ _,fun u hu=>by cases hu⟩
  case round =>
   clear h3' hw3' hS0;obtain ⟨p,fu,neg,lo,po,ra,rc,rfl,rfl,hp,hgk,hfu,hlo,ho,hA,hR,hSp,hf,hqp⟩:=hrel;obtain ⟨w4,rfl⟩:∃ W:World,W=wr:=⟨_,rfl⟩
   have h4k:((lo.length:Int)==4000)=false:=by rw [beq_eq_false_iff_ne];have:=hlo.out;have:=hp.out;omega
   have h4k2:(lo.length==4000)=false:=by rw [beq_eq_false_iff_ne];have:=hlo.out;have:=hp.out;omega
   have CT:=Hd (quy g p s names a c w4 hR.out hp.out (by omega) (HN.out w4 (hww.out w4 hf.out)) (fun hne q hq e=>by have:=HNA.out hne q hq;have:=hgw.out;omega) hnl);obtain ⟨TG,hTG⟩:∃ G,terG names (tl s p)=G:=⟨_,rfl⟩
   rw [hTG] at CT;replace hTG:=Hd hTG;go_wp2_with fail;refine CT.out.mono ?_;rintro e w5 ⟨t,rfl,hok,hbad,hS5,hf5⟩;have hKq:∃ q0,Kp (fun V=>QK 1000 V t.x q0) w4.heap.size w5.heap.size w5/\(∀ u r,TG=.ok u r->q0=u.1):=by
    cases TG with
    | bad k er =>
     obtain ⟨q,hq⟩:=hbad k er rfl;exact ⟨q,hq,fun u r e=>by cases e⟩
    | ok u r=>exact ⟨u.1,(hok u r rfl).imp fun V h=>⟨h.1.1,h.2⟩,fun u' r' e=>by injection e with e _;rw [e]⟩
   obtain ⟨q0,hK0,hq0⟩:=hKq;have hKm:=Hd (show ∀ u r,TG=.ok u r->Kp (fun V=>IntsR V t.a t.c u.2/\t.n=u.2.length) w4.heap.size w5.heap.size w5 from fun u r e=>(hok u r e).imp fun V h=>h.1.2);have hqs:=Hd (show ∀ u r,TG=.ok u r->qsz u.1<=1000 from fun u r e=>by have:=(hok u r e).now;exact this.2);replace hK0:=Hd hK0;replace hq0:=Hd hq0;replace hS5:=Hd hS5;replace hf5:=Hd hf5;obtain ⟨g5,hg5⟩:∃ q,w5.heap.size=q:=⟨_,rfl⟩
   replace hg5:=Hd hg5;have hgt:=Hd (show g<w4.heap.size/\w4.heap.size<=g5 from ⟨hR.out.lt,by rw [<- hg5.out];exact hf5.out.size⟩);clear CT hok hbad hR h4k h4k2;have hgw3:=Hd (show g<w3.heap.size from hX2.out g (hXg.out g rfl));have hoL:=Hd (show ∀ q,ra=some q->q.block<w4.heap.size from fun q hq=>(ho.out.lt hq).2)
   go_upto_if 34 with fail
   have ho5:=Hd (qgw ho.out hf5.out hgw3.out);refine qak (fun W=>Blk W g5 81 #[.bool t.x.neg,.slice t.x.a t.x.n t.x.c,.slice t.x.b t.x.m t.x.d,.slice t.a t.n t.c]/\StGr W g s (Value.slice a names.length c) TG/\Fg g w4 W/\Kp (fun V=>QK 1000 V t.x q0) w4.heap.size g5 W/\(∀ u r,TG=.ok u r->Kp (fun V=>IntsR V t.a t.c u.2/\t.n=u.2.length) w4.heap.size g5 W)/\OwnT w3.heap.size W ra rc lo/\g5<W.heap.size) ⟨bN hg5.out.symm,hS5.out.below (brf.alloc (nlr _) _),hf5.out.alloc _,by have:=hK0.out;rw [hg5.out] at this;exact this.alloc,(fun u r e=>by have:=hKm.out u r e;rw [hg5.out] at this;exact this.alloc),ho5.out.alloc _,by rw [<- hg5.out];simp⟩ ?_;rw [hg5.out];rintro w6 ⟨hb6,hS6,hf6,hK6,hm6,ho6,hl6⟩;clear ho5 hS5 hf5 hK0 hKm;have hb6':=Hd hb6;have hS6':=Hd hS6;have hf6':=Hd hf6;have hK6':=Hd hK6;have hm6':=Hd hm6;have ho6':=Hd ho6;have hl6':=Hd hl6;clear hb6 hS6 hf6 hK6 hm6 ho6 hl6
   go_cut [] from 35 to 38 (fun wc=>∃ (y:QA) (BB TB:Nat),Hid (Blk wc g5 81 #[.bool y.neg,.slice y.a y.n y.c,.slice y.b y.m y.d,.slice t.a t.n t.c])/\Hid (StGr wc g s (Value.slice a names.length c) TG)/\Hid (Fg g w4 wc)/\Hid (Kp (fun V=>QK 1000 V y (if neg=true then -q0 else q0)) BB TB wc)/\Hid (w4.heap.size<=BB/\TB<=wc.heap.size/\(g5<BB\/TB<=g5))/\Hid (∀ u r,TG=.ok u r->Kp (fun V=>IntsR V t.a t.c u.2/\t.n=u.2.length) w4.heap.size g5 wc)/\Hid (OwnT w3.heap.size wc ra rc lo)/\Hid (g5<wc.heap.size))
   case first =>
    cases neg
    ·
     go_wp2
     go_meet
     case rel=>exact ⟨t.x,w4.heap.size,g5,hb6'.out,hS6'.out,hf6'.out,hK6'.out,⟨nlr _,Nat.le_of_lt hl6'.out,.inr (nlr _)⟩,hm6'.out,ho6'.out,hl6'.out⟩
    ·
     have hb6:=hb6'.out;have hS6:=hS6'.out;have hf6:=hf6'.out;have hK6:=hK6'.out;have hm6:=hm6'.out;have ho6:=ho6'.out;have hl6:=hl6'.out;obtain ⟨z0,z1,z2,z3⟩:=cq4 hb6;go_wp2_with fail;refine (qxm t.x q0 1000 w6 hK6.now (by omega)).mono ?_;rintro e w7 ⟨y,rfl,HK,hb7⟩;have hy7:=hb6.below' hb7;obtain ⟨y0,y1,y2,y3⟩:=cq4 hy7;obtain ⟨k0,k1,k2⟩:=fq3 hy7;have hgl7:=hy7.lt;have hS7:=hS6.below hb7;have hf7:=hf6.call hb7;have hm7:=fun u r e=>(hm6 u r e).call hb7
     have ho7:OwnT w3.heap.size w7 ra rc lo:=ho6.below hb7;have hsz7:=hb7.size;have hK7:Kp (fun V=>QK 1000 V y (-q0)) w6.heap.size w7.heap.size w7:=HK;obtain ⟨W4,hW4⟩:∃ W,((w7.setCell ⟨g5,0,none⟩ (.bool y.neg)).setCell ⟨g5,1,none⟩ (.slice y.a y.n y.c)).setCell ⟨g5,2,none⟩ (.slice y.b y.m y.d)=W:=⟨_,rfl⟩
     have q1:=Hd (show Blk W4 g5 81 #[.bool y.neg,.slice y.a y.n y.c,.slice y.b y.m y.d,.slice t.a t.n t.c] by rw [<- hW4];exact bS (bS (bS hy7 rfl) rfl) rfl);have hgr4:w7.grownBy W4 (some g5):=by rw [<- hW4];exact qb0 (qb0 (qb0 (qcz w7 g5) 0 _) 1 _) 2 _
     have q2:=Hd (show StGr W4 g s (Value.slice a names.length c) TG by rw [<- hW4];exact ((hS7.set_ (by have:=hgt.out;omega)).set_ (by have:=hgt.out;omega)).set_ (by have:=hgt.out;omega));have q3:=Hd (show Fg g w4 W4 by rw [<- hW4];exact ((hf7.setc (.inr hgt.out.2)).setc (.inr hgt.out.2)).setc (.inr hgt.out.2));have q4:=Hd (show Kp (fun V=>QK 1000 V y (-q0)) w6.heap.size w7.heap.size W4 by rw [<- hW4];exact ((hK7.setc (.inl hl6)).setc (.inl hl6)).setc (.inl hl6));have q5:=Hd (show ∀ u r,TG=.ok u r->Kp (fun V=>IntsR V t.a t.c u.2/\t.n=u.2.length) w4.heap.size g5 W4 from fun u r e=>by rw [<- hW4];exact (((hm7 u r e).setc (.inr (nlr _))).setc (.inr (nlr _))).setc (.inr (nlr _)));have q6:=Hd (show OwnT w3.heap.size W4 ra rc lo from ho7.grown hgr4 fun q hq e=>by have h1:=hoL.out q hq;have:=hgt.out;injection e with e;omega);have q7:=Hd (show w7.heap.size=W4.heap.size by rw [<- hW4];simp)
     have q8:=Hd (show w4.heap.size<=w6.heap.size/\g5<w6.heap.size/\w6.heap.size<=w7.heap.size from ⟨hf6.size,hl6,hsz7⟩);clear z0 z1 z2 z3 hy7 hS7 hf7 hm7 ho7 hK7 hgr4 hb6 hS6 hf6 hK6 hm6 ho6 HK hb7;go_wp2
     go_meet
     case rel=>exact ⟨y,w6.heap.size,w7.heap.size,q1.out,q2.out,q3.out,q4.out,⟨q8.out.1,by rw [q7.out];exact nlr _,.inl q8.out.2.1⟩,q5.out,q6.out,by show _<_;have:=q7.out;have:=q8.out;omega⟩
   case rest =>
    clear hb6' hS6' hf6' hK6' hm6' ho6' hl6' ho;obtain ⟨y,BB,TB,hb7,hS7,hf7,hK7,hBT,hm7,ho7,hl7⟩:=hcut;obtain ⟨w7,rfl⟩:∃ W:World,W=wc:=⟨_,rfl⟩
    obtain ⟨sn,hsn⟩:∃ sn:TQ,sn=⟨y,t.n,t.a,t.c⟩:=⟨_,rfl⟩
    have e1:y=sn.x:=by rw [hsn]
    have e2:t.n=sn.n:=by rw [hsn]
    have e3:t.a=sn.a:=by rw [hsn]
    have e4:t.c=sn.c:=by rw [hsn]
    rw [e1,e2,e3,e4] at hb7;have hbo:=hb7.out;obtain ⟨z0,z1,z2,z3⟩:=cq4 hbo;have hel:=Hd (show sn.At (w7.alloc (.cells #[.bool sn.x.neg,.slice sn.x.a sn.x.n sn.x.c,.slice sn.x.b sn.x.m sn.x.d,.slice sn.a sn.n sn.c] 81)) w7.heap.size 0 from At.new);have howc:=Hd (ho7.out.alloc (.cells #[.bool sn.x.neg,.slice sn.x.a sn.x.n sn.x.c,.slice sn.x.b sn.x.m sn.x.d,.slice sn.a sn.n sn.c] 81));have hll:=Hd (show (lo++[sn]).length<=16777216 by have:=hlo.out;have:=hp.out;rw [List.length_append,List.length_singleton];omega);have hsz:=Hd (show w3.heap.size<=w7.heap.size from Nat.le_trans hf.out.size hf7.out.size);replace hsn:=Hd hsn;replace e1:=Hd e1;replace e2:=Hd e2;replace e3:=Hd e3;replace e4:=Hd e4;obtain ⟨l6,hl6e⟩:∃ l,lo++[sn]=l:=⟨_,rfl⟩
    rw [hl6e] at hll;replace hl6e:=Hd hl6e;clear hbo;go_wp2_with (at_builtin;go_must (refine qce (B:=w3.heap.size) rfl (.tmp 39) (.tmp 41) 52 rfl Tryz.underlying52 ra rc rfl howc.out sn w7.heap.size 1 rfl hel.out l6 hl6e.out.symm hll.out (by have:=hsz.out;simp;omega) ?_);intro ra6 rc6 w8 ho8 hg8 ha8);have hba:Below w7.heap.size w7 (w7.alloc (.cells #[.bool sn.x.neg,.slice sn.x.a sn.x.n sn.x.c,.slice sn.x.b sn.x.m sn.x.d,.slice sn.a sn.n sn.c] 81)):=brf.alloc (nlr _) _;have hS8:=Hd (quk (hS7.out.below hba) howc.out hgw3.out hg8);have hf8:=Hd (show Fg g w3 w8 from Fr.grown ((hf.out.trans hf7.out).call hba) hg8 (fun q hq=>.inr (howc.out.lt hq).1))
    -- the handles at hand: all of po,and the term if it was read
    have hA7:=Hd (show AllT (Xr X ra) w7 lo po from hA.out.step fun q v hq hc=>hf7.out.agr q v (fun e=>hq (.inl (hXg.out _ e))) hc);have hA8:=Hd (show ∀ u r,TG=.ok u r->AllT (Xr X ra6) w8 l6 (po++[sgnT neg u]) from fun u r e=>by
     have hlt:∀ b,Xr X ra b->b<w4.heap.size:=fun b hb=>by
      rcases hb with hb | ⟨q,hq,rfl⟩
      · have:=hX2.out b hb;have:=hf.out.size;omega
      · exact hoL.out q hq
     have h1:Rd (Xr X ra) w7 (sn.R (sgnT neg u)):=by
      have hk:=Rd.kp (X:=Xr X ra) hK7.out fun b hb=>.inl (by have:=hlt b hb;have:=hBT.out.1;omega)
      have hm:=Rd.kp (X:=Xr X ra) (hm7.out u r e) fun b hb=>.inl (hlt b hb)
      rw [hq0.out u r e] at hk;rw [hsn.out];exact (hk.and hm).imp fun V h=>⟨h.1.1,h.2.1,h.2.2⟩
     have:=qge hA7.out brf hba (h1.call hba) hg8 ha8;rw [hl6e.out] at this;exact this)
    have ho8':=Hd ho8;clear z0 z1 z2 z3 hg8 ha8 ho8 hba;have hlpo:=Hd (show po.length≠4000 by have h1:=hA.out.1;have:=hlo.out;have:=hp.out;omega);obtain ⟨f,rfl⟩:∃ q,fu=q+1:=⟨fu-1,by have:=hfu.out;omega⟩
    have hG1:SG=(terG names (tl s p)).bnd fun t r=>if r.length=0 then .ok (po++[sgnT neg t]) r else (sepG r).bnd fun ng' r'=>sumG names f ng' (po++[sgnT neg t]) r':=by
     rw [hSp.out,sumG,if_neg hlpo.out]
    have htl:=Hd (fun u r (e:terG names (tl s p)=.ok u r)=>show r.length<=(tl s p).length from qta e);rw [hTG.out] at hG1 htl;clear hA hSp hlpo hf7 hS7 hb7 hK7 hm7 ho7 hl7 hel howc hsz hll hA7
    cases TG with
    | bad k er =>
     have hGe:=Hd (show SG=.bad k er from hG1);obtain ⟨hke,h0e,hRe⟩:=(hS8.out:StEr w8 g s (Value.slice a names.length c) k er)
     have hfe:=hf8.out;obtain ⟨z0,z1,z2,z3⟩:=cq4 hRe;have hl8:=Blk.lt hRe;have hzE:(er==0)=false:=by rw [beq_eq_false_iff_ne];exact h0e
     have hzE2:(er != 0)=true:=by rw [bne,hzE];rfl
     have hR':=Hd hRe;have hf':=Hd hfe;have h0':=Hd h0e;have hk':=Hd hke;clear hRe hfe h0e hke hG1 hA8 hS8;go_wp2;refine wrx (S:=(fun x=>x=w8.drew)) [(0,.q),(1,.q),(2,.q),(3,.q),(4,.q),(5,.q),(6,.q),(7,.q),(8,.q),(9,.q),(10,.q),(11,.q),(12,.q),(13,.q),(14,.q),(15,.p),(16,.p)] (rfl) ?_
     iterate 6 (refine qab rfl rfl fun K hK=>xq ?_;go_simp;refine hK _ _ ?_;clear hK K)
     iterate 10 (refine qar rfl rfl (fun K hK=>?_);go_simp;refine hK _ _ ?_;clear hK K)
     iterate 1 (refine qae rfl rfl fun K hK=>xp ?_;go_simp;refine hK _ _ ?_;clear hK K)
     refine qac ?_;refine qak (fun W=>RrA W g s (Value.slice a names.length c) (s.size-k) er/\Fg g w3 W) ⟨hR'.out.below (brf.drew),hf'.out.call (brf.drew)⟩ ?_;rintro w9 ⟨hRe,hfe⟩;have h0e:=h0'.out;have hke:=hk'.out;clear z0 z1 z2 z3 hl8 hR' hf' h0' hk' hzE hzE2
     -- behind the loop,after an error (hGe:SG=.bad k er): world w9
     have hrp:=Hd (show readP names s.data.toList=.bad k er by unfold readP;rw [hSG0.out,hGe.out];rfl);obtain ⟨z0,z1,z2,z3⟩:=cq4 hRe;have hl9:=Blk.lt hRe;have hzE:(er==0)=false:=by rw [beq_eq_false_iff_ne];exact h0e
     have hzE2:(er != 0)=true:=by rw [bne,hzE];rfl
     have hwd:=Hd (hww.out w9.drew (hfe.call (brf.drew)));replace h0e:=Hd h0e;replace hke:=Hd hke;clear hRe hfe;go_wp2;refine wrx (S:=(fun x=>x=w9.drew)) [(0,.q),(1,.q),(2,.q),(3,.q),(4,.q),(5,.q),(6,.q),(7,.q),(8,.q),(9,.q),(10,.p)] (rfl) ?_
     iterate 10 (refine qab rfl rfl fun K hK=>xq ?_;go_simp;refine hK _ _ ?_;clear hK K)
     iterate 1 (refine qae rfl rfl fun K hK=>xp ?_;go_simp;refine hK _ _ ?_;clear hK K)
     refine qac ?_;go_wp2;refine bodyPost_ret (v:=.tuple #[.slice none 0 0,.int .i64 ((s.size-k:Nat):Int),.int .i64 er]) (by simp [results,Tryz.results33,go_sem]) rfl ?_;refine ⟨none,0,0,_,er,rfl,hwd.out,fun hh=>absurd her hh,fun _=>?_⟩;rw [hrp.out];exact ⟨rfl,rfl,rfl,rfl,h0e.out,hke.out⟩
    | ok u r =>
     obtain ⟨p1,hp1,hr1,hR8⟩:=(hS8.out:StRr w8 g s (Value.slice a names.length c) r)
     have hlr:=htl.out u r rfl;rw [hr1,qaq,qaq] at hlr;have hqu:=hqs.out u r rfl;have hA9:=hA8.out u r rfl;have hG2:SG=if r.length=0 then .ok (po++[sgnT neg u]) r else (sepG r).bnd fun ng' r'=>sumG names f ng' (po++[sgnT neg u]) r':=hG1
     obtain ⟨acc2,hacc2⟩:∃ z,po++[sgnT neg u]=z:=⟨_,rfl⟩
     have hq2:=Hd (show ∀ x∈acc2,qsz x.1<=1000 from by
      rw [<- hacc2];intro x hx;rcases List.mem_append.1 hx with hx | hx
      · exact hqp.out x hx
      ·
       rw [List.mem_singleton] at hx;subst hx;unfold sgnT;dsimp only
       split
       · rw [qfb];exact hqu
       · exact hqu)
     rw [hacc2] at hA9 hG2;rw [hr1] at hG2;have hl6:=Hd (show l6.length=acc2.length from hA9.1);have hl6b:=Hd (show l6.length=lo.length+1 by rw [<- hl6e.out,List.length_append,List.length_singleton]);replace hA9:=Hd hA9;replace hG2:=Hd hG2;replace hlr:=Hd hlr;have hR':=Hd hR8;obtain ⟨z0,z1,z2,z3⟩:=cq4 hR8;have hl8:=Blk.lt hR8;clear hR8 hG1 hA8 hS8 hr1 hqu hacc2;by_cases hend:p1=s.size
     ·
      have hGe:=Hd (show SG=.ok acc2 (tl s p1) from by rw [hG2.out,if_pos (by rw [qaq];omega)]);have hendb:((p1:Int)==(s.size:Int))=true:=by rw [beq_iff_eq];omega
      have hendb2:(p1==s.size)=true:=by rw [beq_iff_eq];exact hend
      replace hend:=Hd hend;go_wp2;refine wrx (S:=(fun x=>x=w8.drew)) [(0,.q),(1,.q),(2,.q),(3,.q),(4,.q),(5,.q),(6,.q),(7,.q),(8,.q),(9,.q),(10,.q),(11,.q),(12,.q),(13,.q),(14,.q),(15,.p),(16,.p)] (rfl) ?_
      iterate 15 (refine qab rfl rfl fun K hK=>xq ?_;go_simp;refine hK _ _ ?_;clear hK K)
      iterate 2 (refine qae rfl rfl fun K hK=>xp ?_;go_simp;refine hK _ _ ?_;clear hK K)
      refine qac ?_;refine qak (fun W=>RrA W g s (Value.slice a names.length c) p1 0/\Fg g w3 W/\OwnT w3.heap.size W ra6 rc6 l6/\AllT (Xr X ra6) W l6 acc2) ⟨hR'.out.below (brf.drew),hf8.out.call (brf.drew),ho8'.out.below (brf.drew),hA9.out.call (brf.drew)⟩ ?_;rintro w9 ⟨hR9,hf9,ho9,hA10⟩;clear z0 z1 z2 z3 hl8 hR' hf8 ho8' hA9;have hrp:=Hd (show readP names s.data.toList=.ok (normP acc2) (tl s p1) by unfold readP;rw [hSG0.out,hGe.out];rfl);have hM:=(qh3 (hSG0.out.trans hGe.out)).2;have hwt:=HWk.out acc2 (tl s p1) (hSG0.out.trans hGe.out);have hfi:=(ql1 hM hwt acc2.length).1;rw [List.take_length] at hfi;have hw9:=Hd (hww.out w9 hf9);have hX9:∀ b,X b->b<w9.heap.size:=fun b hb=>ltl (hX2.out b hb) hf9.size
      have CN:=Hd (qah6 X acc2 ra6 rc6 w9 hX9 (OwnT.pol ho9 hA10 hX2.out) hM hq2.out hwt);rw [hl6.out];obtain ⟨z0,z1,z2,z3⟩:=cq4 hR9;have hl9:=Blk.lt hR9;replace hfi:=Hd hfi;obtain ⟨NP,hNP⟩:∃ z,normP acc2=z:=⟨_,rfl⟩
      rw [hNP] at CN hfi hrp;clear hR9 hf9 ho9 hA10 hM hwt hX9 hNP;go_wp2_with fail;refine CN.out.mono ?_;rintro e w10 ⟨a4,c4,rfl,hP4,hb4⟩;have hw10:=Hd (bth hw9.out hb4);replace hP4:=Hd hP4;clear CN hb4;go_wp2;refine bodyPost_ret (v:=.tuple #[.slice a4 NP.length c4,.int .i64 0,.int .i64 0]) (by simp [results,Tryz.results33,go_sem]) rfl ?_;refine ⟨a4,_,c4,0,0,rfl,hw10.out,fun hh=>absurd her hh,fun _=>?_⟩;rw [hrp.out];exact ⟨rfl,hP4.out.map fun _ r=>r.less hYX.out,rfl,rfl,hfi.out⟩
     ·
      have hG3:=Hd (show SG=(sepG (tl s p1)).bnd fun ng' r'=>sumG names f ng' acc2 r' from by rw [hG2.out,if_neg (by rw [qaq];omega)]);have hendb:((p1:Int)==(s.size:Int))=false:=by rw [beq_eq_false_iff_ne];omega
      have hendb2:(p1==s.size)=false:=by rw [beq_eq_false_iff_ne];exact hend
      replace hend:=Hd hend;go_wp2;refine wrx (S:=(fun x=>x=w8.drew)) [(0,.q),(1,.q),(2,.q),(3,.q),(4,.q),(5,.q),(6,.q),(7,.q),(8,.q),(9,.q),(10,.q),(11,.q),(12,.q),(13,.q),(14,.q),(15,.p),(16,.p)] (rfl) ?_
      iterate 15 (refine qab rfl rfl fun K hK=>xq ?_;go_simp;refine hK _ _ ?_;clear hK K)
      iterate 2 (refine qae rfl rfl fun K hK=>xp ?_;go_simp;refine hK _ _ ?_;clear hK K)
      refine qac ?_;refine qak (fun W=>RrA W g s (Value.slice a names.length c) p1 0/\Fg g w3 W/\OwnT w3.heap.size W ra6 rc6 l6/\AllT (Xr X ra6) W l6 acc2) ⟨hR'.out.below (brf.drew),hf8.out.call (brf.drew),ho8'.out.below (brf.drew),hA9.out.call (brf.drew)⟩ ?_;rintro w9 ⟨hR9,hf9,ho9,hA10⟩;clear z0 z1 z2 z3 hl8 hR' hf8 ho8' hA9;have HC:=Hd (fun W (hW:Fg g w9 W)=>(⟨qgw ho9 hW hgw3.out,hA10.step (hW.agr.mono fun b hb=>.inl (hXg.out b hb)),hf9.trans hW⟩:OwnT w3.heap.size W ra6 rc6 l6/\AllT (Xr X ra6) W l6 acc2/\Fg g w3 W));have C1:=Hd (qg5 (.ok () (tl s p1)) g s (Value.slice a names.length c) 32 32 rfl w9 ⟨p1,hp1,rfl,hR9⟩ (by omega));clear hR9 hf9 ho9 hA10 hendb hendb2;have hsp:=qab2 (tl s p1);have hspl:=fun r (e:spaG (tl s p1) (takG 45 (eatG 32 (tl s p1))).tru=.ok () r)=>qxx e
      obtain ⟨E1,hE1⟩:∃ G,eatG 32 (tl s p1)=G:=⟨_,rfl⟩
      have hE1':musG 32 (.ok () (tl s p1))=E1:=hE1;rw [hE1'] at C1;unfold spaG at hsp hspl;rw [hE1] at hsp hspl;obtain ⟨T2,hT2⟩:∃ G,takG 45 E1=G:=⟨_,rfl⟩
      rw [hT2] at hsp hspl;have C2:=Hd (fun w (h:StGr w g s (Value.slice a names.length c) E1)=>qxl E1 g s (Value.slice a names.length c) 45 45 rfl w h (by omega));rw [hT2] at C2;obtain ⟨bq,hbq⟩:∃ z,T2.tru=z:=⟨_,rfl⟩
      rw [hbq] at hsp hspl C2;have hG4:=Hd (hG3.out.trans (congrArg (fun z:Got Bool=>z.bnd fun ng' r'=>sumG names f ng' acc2 r') hsp));replace hspl:=Hd hspl;clear hE1 hE1' hT2 hbq hsp hG3;go_wp2_with fail;refine C1.out.mono ?_;rintro e w10 ⟨rfl,hS10,hf10⟩;clear C1;have C2':=Hd (C2.out w10 hS10);clear C2 hS10;go_wp2_with fail;refine C2'.out.mono ?_;rintro e w11 ⟨rfl,hS11,hf11'⟩;have hf11:=hf10.trans hf11';clear C2' hf10 hf11'
      cases bq
      ·
       have C3:=Hd (qg5 T2 g s (Value.slice a names.length c) 43 43 rfl w11 hS11 (by omega));clear hS11;obtain ⟨T3,hT3⟩:∃ G,musG 43 T2=G:=⟨_,rfl⟩
       have hG5:=hG4.out;have hsp5:=hspl.out;rw [if_neg (show ¬ (false=true) from fun e=>by cases e),hT3] at hG5;simp only [if_neg (show ¬ (false=true) from fun e=>by cases e),hT3] at hsp5;rw [hT3] at C3;have hG6:=Hd hG5;have hsp6:=Hd hsp5;clear hT3 hG5 hsp5 hG4 hspl;go_wp2_with fail;refine C3.out.mono ?_;rintro e w12 ⟨rfl,hS12,hf12'⟩;have hf12:=hf11.trans hf12';clear C3 hf11 hf12'
       -- the blank behind the sign,and the round's end
       have C4:=Hd (qg5 T3 g s (Value.slice a names.length c) 32 32 rfl w12 hS12 (by omega));clear hS12;obtain ⟨E4,hE4⟩:∃ G,musG 32 T3=G:=⟨_,rfl⟩
       have hG7:=hG6.out;have hsp7:=hsp6.out;rw [hE4] at C4 hG7;simp only [hE4] at hsp7;have hG8:=Hd hG7;have hsp8:=Hd hsp7;clear hE4 hG7 hsp7 hG6 hsp6;go_wp2_with fail;refine C4.out.mono ?_;rintro e w13 ⟨rfl,hS13,hf13'⟩;have hf13:=hf12.trans hf13';clear C4 hf12 hf13';obtain ⟨ho13,hA13,hfe⟩:=HC.out w13 hf13;clear HC hf13
       cases E4 with
       | bad k er =>
        have hGe:=Hd (show SG=.bad k er from hG8.out);obtain ⟨hke,h0e,hRe⟩:=(hS13:StEr w13 g s (Value.slice a names.length c) k er)
        clear ho13 hA13 hG8 hsp8
        -- behind the loop,after an error (hGe:SG=.bad k er): world w13
        have hrp:=Hd (show readP names s.data.toList=.bad k er by unfold readP;rw [hSG0.out,hGe.out];rfl);obtain ⟨z0,z1,z2,z3⟩:=cq4 hRe;have hl9:=Blk.lt hRe;have hzE:(er==0)=false:=by rw [beq_eq_false_iff_ne];exact h0e
        have hzE2:(er != 0)=true:=by rw [bne,hzE];rfl
        have hwd:=Hd (hww.out w13.drew (hfe.call (brf.drew)));replace h0e:=Hd h0e;replace hke:=Hd hke;clear hRe hfe;go_wp2;refine wrx (S:=(fun x=>x=w13.drew)) [(0,.q),(1,.q),(2,.q),(3,.q),(4,.q),(5,.q),(6,.q),(7,.q),(8,.q),(9,.q),(10,.p)] (rfl) ?_
        iterate 10 (refine qab rfl rfl fun K hK=>xq ?_;go_simp;refine hK _ _ ?_;clear hK K)
        iterate 1 (refine qae rfl rfl fun K hK=>xp ?_;go_simp;refine hK _ _ ?_;clear hK K)
        refine qac ?_;go_wp2;refine bodyPost_ret (v:=.tuple #[.slice none 0 0,.int .i64 ((s.size-k:Nat):Int),.int .i64 er]) (by simp [results,Tryz.results33,go_sem]) rfl ?_;refine ⟨none,0,0,_,er,rfl,hwd.out,fun hh=>absurd her hh,fun _=>?_⟩;rw [hrp.out];exact ⟨rfl,rfl,rfl,rfl,h0e.out,hke.out⟩
       | ok uu r4 =>
        obtain ⟨p4,hp4,hr4,hR13⟩:=(hS13:StRr w13 g s (Value.slice a names.length c) r4)
        have hl4:=hsp8.out r4 rfl;rw [hr4,qaq,qaq] at hl4;have hG9:=Hd (show SG=sumG names f false acc2 (tl s p4) from by rw [<- hr4];exact hG8.out);replace hl4:=Hd hl4;obtain ⟨z0,z1,z2,z3⟩:=cq4 hR13;have hl13:=Blk.lt hR13;have hR':=Hd hR13;have hfe':=Hd hfe;have ho':=Hd ho13;have hA':=Hd hA13;clear hR13 hG8 hr4 hsp8 hfe ho13 hA13;go_wp2;go_roundg (s.size-p4+1)
        case rel=>exact ⟨p4,f,false,l6,acc2,ra6,rc6,rfl,rfl,hp4,Nat.lt_succ_self _,by have:=hl4.out;have:=hlr.out;have:=hfu.out;show _<_;omega,by have:=hl4.out;have:=hlr.out;have:=hl6b.out;have:=hlo.out;show _<=_;omega,ho'.out,hA'.out,hR'.out,hG9.out,hfe'.out,hq2.out⟩
        case measure=>have:=hl4.out;have:=hlr.out;have:=hgk.out;omega
      ·
       have hG5:=hG4.out;have hsp5:=hspl.out;rw [if_pos rfl] at hG5;simp only [if_pos rfl] at hsp5;have hG6:=Hd hG5;have hsp6:=Hd hsp5;clear hG5 hsp5 hG4 hspl
       -- the blank behind the sign,and the round's end
       have C4:=Hd (qg5 T2 g s (Value.slice a names.length c) 32 32 rfl w11 hS11 (by omega));clear hS11;obtain ⟨E4,hE4⟩:∃ G,musG 32 T2=G:=⟨_,rfl⟩
       have hG7:=hG6.out;have hsp7:=hsp6.out;rw [hE4] at C4 hG7;simp only [hE4] at hsp7;have hG8:=Hd hG7;have hsp8:=Hd hsp7;clear hE4 hG7 hsp7 hG6 hsp6;go_wp2_with fail;refine C4.out.mono ?_;rintro e w13 ⟨rfl,hS13,hf13'⟩;have hf13:=hf11.trans hf13';clear C4 hf11 hf13';obtain ⟨ho13,hA13,hfe⟩:=HC.out w13 hf13;clear HC hf13
       cases E4 with
       | bad k er =>
        have hGe:=Hd (show SG=.bad k er from hG8.out);obtain ⟨hke,h0e,hRe⟩:=(hS13:StEr w13 g s (Value.slice a names.length c) k er)
        clear ho13 hA13 hG8 hsp8
        -- behind the loop,after an error (hGe:SG=.bad k er): world w13
        have hrp:=Hd (show readP names s.data.toList=.bad k er by unfold readP;rw [hSG0.out,hGe.out];rfl);obtain ⟨z0,z1,z2,z3⟩:=cq4 hRe;have hl9:=Blk.lt hRe;have hzE:(er==0)=false:=by rw [beq_eq_false_iff_ne];exact h0e
        have hzE2:(er != 0)=true:=by rw [bne,hzE];rfl
        have hwd:=Hd (hww.out w13.drew (hfe.call (brf.drew)));replace h0e:=Hd h0e;replace hke:=Hd hke;clear hRe hfe;go_wp2;refine wrx (S:=(fun x=>x=w13.drew)) [(0,.q),(1,.q),(2,.q),(3,.q),(4,.q),(5,.q),(6,.q),(7,.q),(8,.q),(9,.q),(10,.p)] (rfl) ?_
        iterate 10 (refine qab rfl rfl fun K hK=>xq ?_;go_simp;refine hK _ _ ?_;clear hK K)
        iterate 1 (refine qae rfl rfl fun K hK=>xp ?_;go_simp;refine hK _ _ ?_;clear hK K)
        refine qac ?_;go_wp2;refine bodyPost_ret (v:=.tuple #[.slice none 0 0,.int .i64 ((s.size-k:Nat):Int),.int .i64 er]) (by simp [results,Tryz.results33,go_sem]) rfl ?_;refine ⟨none,0,0,_,er,rfl,hwd.out,fun hh=>absurd her hh,fun _=>?_⟩;rw [hrp.out];exact ⟨rfl,rfl,rfl,rfl,h0e.out,hke.out⟩
       | ok uu r4 =>
        obtain ⟨p4,hp4,hr4,hR13⟩:=(hS13:StRr w13 g s (Value.slice a names.length c) r4)
        have hl4:=hsp8.out r4 rfl;rw [hr4,qaq,qaq] at hl4;have hG9:=Hd (show SG=sumG names f true acc2 (tl s p4) from by rw [<- hr4];exact hG8.out);replace hl4:=Hd hl4;obtain ⟨z0,z1,z2,z3⟩:=cq4 hR13;have hl13:=Blk.lt hR13;have hR':=Hd hR13;have hfe':=Hd hfe;have ho':=Hd ho13;have hA':=Hd hA13;clear hR13 hG8 hr4 hsp8 hfe ho13 hA13;go_wp2;go_roundg (s.size-p4+1)
        case rel=>exact ⟨p4,f,true,l6,acc2,ra6,rc6,rfl,rfl,hp4,Nat.lt_succ_self _,by have:=hl4.out;have:=hlr.out;have:=hfu.out;show _<_;omega,by have:=hl4.out;have:=hlr.out;have:=hl6b.out;have:=hlo.out;show _<=_;omega,ho'.out,hA'.out,hR'.out,hG9.out,hfe'.out,hq2.out⟩
        case measure=>have:=hl4.out;have:=hlr.out;have:=hgk.out;omega
 ·
  have hne:(er != 0)=true:=by simpa using he0
  replace her:=Hd her;replace he0:=Hd he0;go_enter Tryz.func33,Tryz.ntmps33;go_wp2_with fail;refine CK.out.mono ?_;rintro e w1 ⟨rfl,hb1⟩;go_wp2;refine bodyPost_ret (v:=.tuple #[.slice none 0 0,.int .i64 0,.int .i64 er]) (by simp [results,Tryz.results33,go_sem]) rfl ?_;exact ⟨none,0,0,0,er,rfl,hb1,(fun _=>⟨rfl,rfl,rfl,her.out.symm⟩),fun e=>absurd (her.out.symm.trans e) he0.out⟩
end Go.Proofs.YtnilkimcdgmgkaaGreatDoor
