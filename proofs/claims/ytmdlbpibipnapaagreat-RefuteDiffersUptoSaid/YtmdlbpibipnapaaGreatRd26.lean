/- Walk: the conditions of a slim figure by the reference (layer 23: Of), with where they lie: in blocks of their own. Made out of XCdB. -/
import Derived.Test.YtmdlbpibipnapaaGreatRd25
import Derived.Test.YtmdlbpibipnapaaGreatRd24
import Derived.Test.YtmdlbpibipnapaaGreatRd2
import Derived.Test.YtmdlbpibipnapaaGreatRd23
import Derived.Test.YtmdlbpibipnapaaGreatRd1
set_option linter.all false
set_option maxRecDepth 100000
set_option maxHeartbeats 4000000
namespace Go.Proofs.YtmdlbpibipnapaaGreat
open Go.RowKit
theorem qxq (x:Frm) (hs:List (VQ × Vec)) (ra va aa na da:Option Addr) (rc vc ac nn nc dn dc:Nat) (neg:Bool) (args:List Int) (D M:Nat) (w:World) (hA:IntsR w aa ac args) (hF:FrR w x hs ra rc va vc) (H:GB D M) (hG:∀ n:Nat,(n:Int)∈args->∀ {z:VQ × Vec},hs[n]? = some z->GV D M 3 z.2) (hr:∀ y∈args,0<=y/\y<(hs.length:Int)) (hlen:args.length=4) :
  Calls Tryz.prog 65 #[.agg #[.int .i64 6,.slice aa args.length ac,.bool neg,.slice na nn nc,.slice da dn dc],.slice ra hs.length rc] w (RetG w):=by
 have lA:=hA.len;have lH:=SlR.len hF.co;obtain ⟨ab,ao,rb,ro,hab,hrb,hal,hrl,PK⟩:=qdn hA hF hG hr oo;obtain ⟨n0,qv0,v0,hy0,hz0,d0,s0a,s0b,hv0,gv0,lN0,mN0⟩:=PK 0 oo;obtain ⟨n1,qv1,v1,hy1,hz1,d1,s1a,s1b,hv1,gv1,lN1,mN1⟩:=PK 1 oo;obtain ⟨n2,qv2,v2,hy2,hz2,d2,s2a,s2b,hv2,gv2,lN2,mN2⟩:=PK 2 oo;obtain ⟨n3,qv3,v3,hy3,hz3,d3,s3a,s3b,hv3,gv3,lN3,mN3⟩:=PK 3 oo;have hX:∀ b,(fun _:Nat=>False) b->b<w.heap.size:=fun b hb=>hb.elim
 have l0:(0:Int)<(args.length:Int):=oo
 have m0:(n0:Int)<(hs.length:Int):=oo
 have l1:(1:Int)<(args.length:Int):=oo
 have m1:(n1:Int)<(hs.length:Int):=oo
 have l2:(2:Int)<(args.length:Int):=oo
 have m2:(n2:Int)<(hs.length:Int):=oo
 have l3:(3:Int)<(args.length:Int):=oo
 have m3:(n3:Int)<(hs.length:Int):=oo
 rw [Nat.add_zero] at d0;clear PK;have z1:Gr D M 2 48 72 (qas v1 v0 v1 v2):=qk0 gv1 gv0 gv1 gv2;have z2:Gr D M 2 48 72 (dotP v1 v0 v1 v2):=dot3 gv1 gv0 gv1 gv2;have z3:Gr D M 2 48 72 (qas v3 v0 v3 v2):=qk0 gv3 gv0 gv3 gv2;have z4:Gr D M 2 48 72 (dotP v3 v0 v3 v2):=dot3 gv3 gv0 gv3 gv2;have C1:=fun W (hW:bw w W)=>qb5 (fun _=>False) v1 v0 v1 v2 qv1 qv0 qv1 qv2 D M W (fun b hb=>ltl (hX b hb) hW.size) H (hv1.call hW) (hv0.call hW) (hv1.call hW) (hv2.call hW) (GV.more gv1 dd) (GV.more gv0 dd) (GV.more gv1 dd) (GV.more gv2 dd)
 have C2:=fun W (hW:bw w W)=>qe4 (fun _=>False) v1 v0 v1 v2 qv1 qv0 qv1 qv2 D M W (fun b hb=>ltl (hX b hb) hW.size) H (hv1.call hW) (hv0.call hW) (hv1.call hW) (hv2.call hW) (GV.more gv1 dd) (GV.more gv0 dd) (GV.more gv1 dd) (GV.more gv2 dd)
 have C3:=fun W (hW:bw w W)=>qb5 (fun _=>False) v3 v0 v3 v2 qv3 qv0 qv3 qv2 D M W (fun b hb=>ltl (hX b hb) hW.size) H (hv3.call hW) (hv0.call hW) (hv3.call hW) (hv2.call hW) (GV.more gv3 dd) (GV.more gv0 dd) (GV.more gv3 dd) (GV.more gv2 dd)
 have C4:=fun W (hW:bw w W)=>qe4 (fun _=>False) v3 v0 v3 v2 qv3 qv0 qv3 qv2 D M W (fun b hb=>ltl (hX b hb) hW.size) H (hv3.call hW) (hv0.call hW) (hv3.call hW) (hv2.call hW) (GV.more gv3 dd) (GV.more gv0 dd) (GV.more gv3 dd) (GV.more gv2 dd)
 have C5:=fun W (hW:bw w W) (a1:Option Addr) (c1:Nat) (h1:PolX (fun _=>False) W a1 c1 (qas v1 v0 v1 v2)) (a2:Option Addr) (c2:Nat) (h2:PolX (fun _=>False) W a2 c2 (dotP v1 v0 v1 v2)) (a3:Option Addr) (c3:Nat) (h3:PolX (fun _=>False) W a3 c3 (qas v3 v0 v3 v2)) (a4:Option Addr) (c4:Nat) (h4:PolX (fun _=>False) W a4 c4 (dotP v3 v0 v3 v2))=>qpa (qas v1 v0 v1 v2) (dotP v1 v0 v1 v2) (qas v3 v0 v3 v2) (dotP v3 v0 v3 v2) a1 a2 a3 a4 c1 c2 c3 c4 D M W H h1 h2 h3 h4 z1 z2 z3 z4
 revert C1 C2 C3 C4 C5;clear z1 z2 z3 z4;generalize qas v1 v0 v1 v2=y1;generalize dotP v1 v0 v1 v2=y2;generalize qas v3 v0 v3 v2=y3;generalize dotP v3 v0 v3 v2=y4;generalize qli y1 y2 y3 y4=y5;intro C1 C2 C3 C4 C5;replace C1:=Hd C1;replace C2:=Hd C2;replace C3:=Hd C3;replace C4:=Hd C4;replace C5:=Hd C5;clear hX hy0 hz0 hv0 gv0 hy1 hz1 hv1 gv1 hy2 hz2 hv2 gv2 hy3 hz3 hv3 gv3;subst hab;subst hrb;have d0':=held d0;have sa0:=held s0a;have sb0:=held s0b;have d1':=held d1;have sa1:=held s1a;have sb1:=held s1b;have d2':=held d2;have sa2:=held s2a;have sb2:=held s2b;have d3':=held d3;have sa3:=held s3a;have sb3:=held s3b;clear d0 s0a s0b d1 s1a s1b d2 s2a s2b d3 s3a s3b;replace hlen:=Hd hlen;clear hA hF H hG hr;go_enter Tryz.func65,Tryz.ntmps65;go_wp2;refine qaa (fun W=>Below w.heap.size w W) (by go_grown) ?_;intro w1 hw1
 have k0:=held (d0' w1 hw1);have ka0:=held (sa0 w1 hw1);have kb0:=held (sb0 w1 hw1);have k1:=held (d1' w1 hw1);have ka1:=held (sa1 w1 hw1);have kb1:=held (sb1 w1 hw1);have k2:=held (d2' w1 hw1);have ka2:=held (sa2 w1 hw1);have kb2:=held (sb2 w1 hw1);have k3:=held (d3' w1 hw1);have ka3:=held (sa3 w1 hw1);have kb3:=held (sb3 w1 hw1);clear d0' sa0 sb0 d1' sa1 sb1 d2' sa2 sb2 d3' sa3 sb3
 go_cut [9,10,11,12] from 176 (fun s9 s10 s11 s12 wc=>∃ g9 g10 g11 g12:Nat,s9=.pointer (some ⟨g9,0,none⟩)/\s10=.pointer (some ⟨g10,0,none⟩)/\s11=.pointer (some ⟨g11,0,none⟩)/\s12=.pointer (some ⟨g12,0,none⟩)/\Hid (Blk wc g9 120 #[.slice qv0.a v0.1.length qv0.c,.slice qv0.b v0.2.length qv0.d])/\Hid (Blk wc g10 120 #[.slice qv1.a v1.1.length qv1.c,.slice qv1.b v1.2.length qv1.d])/\Hid (Blk wc g11 120 #[.slice qv2.a v2.1.length qv2.c,.slice qv2.b v2.2.length qv2.d])/\Hid (Blk wc g12 120 #[.slice qv3.a v3.1.length qv3.c,.slice qv3.b v3.2.length qv3.d])/\Hid (Below w1.heap.size w1 wc))
 case first =>
  have s0:Below w1.heap.size w1 w1.drew:=brf.drew;obtain ⟨u0,hu0⟩:=nm w1.drew
  refine qgy (S:=Below w1.heap.size w1) (.q 0 (.q 1 (.q 2 (.q 3 (.q 4 (.q 5 (.q 6 (.q 7 (.q 8 (.q 9 (.q 10 (.q 11 (.q 12 (.q 13 (.q 14 (.q 15 (.q 16 (.q 17 (.q 18 (.q 19 (.q 20 (.q 21 (.q 22 (.q 23 (.four 24 (.three 25 (.two 26 (.l 27 (.l 28 (.l 29 (.l 30 (.t 31 .nil))))) 27 (.l 26 (.l 28 (.l 29 (.l 30 (.t 31 .nil)))))) 26 (.two 25 (.l 27 (.l 28 (.l 29 (.l 30 (.t 31 .nil))))) 27 (.l 25 (.l 28 (.l 29 (.l 30 (.t 31 .nil)))))) 27 (.two 25 (.l 26 (.l 28 (.l 29 (.l 30 (.t 31 .nil))))) 26 (.l 25 (.l 28 (.l 29 (.l 30 (.t 31 .nil))))))) 25 (.three 24 (.two 26 (.l 27 (.l 28 (.l 29 (.l 30 (.t 31 .nil))))) 27 (.l 26 (.l 28 (.l 29 (.l 30 (.t 31 .nil)))))) 26 (.two 24 (.l 27 (.l 28 (.l 29 (.l 30 (.t 31 .nil))))) 27 (.l 24 (.l 28 (.l 29 (.l 30 (.t 31 .nil)))))) 27 (.two 24 (.l 26 (.l 28 (.l 29 (.l 30 (.t 31 .nil))))) 26 (.l 24 (.l 28 (.l 29 (.l 30 (.t 31 .nil))))))) 26 (.three 24 (.two 25 (.l 27 (.l 28 (.l 29 (.l 30 (.t 31 .nil))))) 27 (.l 25 (.l 28 (.l 29 (.l 30 (.t 31 .nil)))))) 25 (.two 24 (.l 27 (.l 28 (.l 29 (.l 30 (.t 31 .nil))))) 27 (.l 24 (.l 28 (.l 29 (.l 30 (.t 31 .nil)))))) 27 (.two 24 (.l 25 (.l 28 (.l 29 (.l 30 (.t 31 .nil))))) 25 (.l 24 (.l 28 (.l 29 (.l 30 (.t 31 .nil))))))) 27 (.three 24 (.two 25 (.l 26 (.l 28 (.l 29 (.l 30 (.t 31 .nil))))) 26 (.l 25 (.l 28 (.l 29 (.l 30 (.t 31 .nil)))))) 25 (.two 24 (.l 26 (.l 28 (.l 29 (.l 30 (.t 31 .nil))))) 26 (.l 24 (.l 28 (.l 29 (.l 30 (.t 31 .nil)))))) 26 (.two 24 (.l 25 (.l 28 (.l 29 (.l 30 (.t 31 .nil))))) 25 (.l 24 (.l 28 (.l 29 (.l 30 (.t 31 .nil)))))))))))))))))))))))))))))))) [31] (by kernel_rfl) (by kernel_rfl) (by kernel_rfl) (fun d _ _ _ _ h=>by cases d <;> exact h) s0 ?_
  rw [hu0] at s0 ⊢;replace hu0:=Hd hu0
  iterate 24 (refine qur rfl rfl fun K hK=>xq ?_;go_simp;refine hK _ _ ?_;clear hK K)
  clear k0 ka0 kb0 k1 ka1 kb1 k2 ka2 kb2 k3 ka3 kb3;apply qad0 (fun g9 g10 g11 g12 W=>Below w1.heap.size w1 W/\Bxw w1 W g9/\Bxw w1 W g10/\Bxw w1 W g11/\Bxw w1 W g12/\¬ g9=g10/\¬ g9=g11/\¬ g9=g12/\¬ g10=g11/\¬ g10=g12/\¬ g11=g12);intro N9_10_11_12;apply qiq (fun g9 g10 g11 W=>Below w1.heap.size w1 W/\Bxw w1 W g9/\Bxw w1 W g10/\Bxw w1 W g11/\¬ g9=g10/\¬ g9=g11/\¬ g10=g11);intro N9_10_11;apply qiq (fun g9 g10 g12 W=>Below w1.heap.size w1 W/\Bxw w1 W g9/\Bxw w1 W g10/\Bxw w1 W g12/\¬ g9=g10/\¬ g9=g12/\¬ g10=g12);intro N9_10_12;apply qiq (fun g9 g11 g12 W=>Below w1.heap.size w1 W/\Bxw w1 W g9/\Bxw w1 W g11/\Bxw w1 W g12/\¬ g9=g11/\¬ g9=g12/\¬ g11=g12);intro N9_11_12;apply qiq (fun g10 g11 g12 W=>Below w1.heap.size w1 W/\Bxw w1 W g10/\Bxw w1 W g11/\Bxw w1 W g12/\¬ g10=g11/\¬ g10=g12/\¬ g11=g12);intro N10_11_12
  apply qev (fun g9 g10 W=>Below w1.heap.size w1 W/\Bxw w1 W g9/\Bxw w1 W g10/\¬ g9=g10);intro N9_10;apply qev (fun g9 g11 W=>Below w1.heap.size w1 W/\Bxw w1 W g9/\Bxw w1 W g11/\¬ g9=g11);intro N9_11;apply qev (fun g9 g12 W=>Below w1.heap.size w1 W/\Bxw w1 W g9/\Bxw w1 W g12/\¬ g9=g12);intro N9_12;apply qev (fun g10 g11 W=>Below w1.heap.size w1 W/\Bxw w1 W g10/\Bxw w1 W g11/\¬ g10=g11);intro N10_11;apply qev (fun g10 g12 W=>Below w1.heap.size w1 W/\Bxw w1 W g10/\Bxw w1 W g12/\¬ g10=g12);intro N10_12;apply qev (fun g11 g12 W=>Below w1.heap.size w1 W/\Bxw w1 W g11/\Bxw w1 W g12/\¬ g11=g12);intro N11_12;apply qgg (fun g9 W=>Below w1.heap.size w1 W/\Bxw w1 W g9);intro N9;apply qgg (fun g10 W=>Below w1.heap.size w1 W/\Bxw w1 W g10);intro N10;apply qgg (fun g11 W=>Below w1.heap.size w1 W/\Bxw w1 W g11);intro N11;apply qgg (fun g12 W=>Below w1.heap.size w1 W/\Bxw w1 W g12);intro N12
  ·
   skip
   refine qum ?_ ?_ ?_ ?_
   ·
    skip
    refine qav s0 (fun g u hg bT hb sX hl=>?_) rfl rfl rfl rfl;go_simp;exact N9.out g u ⟨sX,⟨bT,hl⟩⟩
   ·
    skip
    refine qav s0 (fun g u hg bT hb sX hl=>?_) rfl rfl rfl rfl;go_simp;exact N10.out g u ⟨sX,⟨bT,hl⟩⟩
   ·
    skip
    refine qav s0 (fun g u hg bT hb sX hl=>?_) rfl rfl rfl rfl;go_simp;exact N11.out g u ⟨sX,⟨bT,hl⟩⟩
   ·
    skip
    refine qav s0 (fun g u hg bT hb sX hl=>?_) rfl rfl rfl rfl;go_simp;exact N12.out g u ⟨sX,⟨bT,hl⟩⟩
  ·
   skip
   rintro g12 uT ⟨sT,b12⟩;replace b12:=Hd b12;refine qez ?_ ?_ ?_
   ·
    skip
    refine qav sT (fun g u hg bT hb sX hl=>?_) rfl rfl rfl rfl;go_simp;exact N9_12.out g g12 u ⟨sX,⟨bT,hl⟩,b12.out.next hb,b12.out.ne' hg⟩
   ·
    skip
    refine qav sT (fun g u hg bT hb sX hl=>?_) rfl rfl rfl rfl;go_simp;exact N10_12.out g g12 u ⟨sX,⟨bT,hl⟩,b12.out.next hb,b12.out.ne' hg⟩
   ·
    skip
    refine qav sT (fun g u hg bT hb sX hl=>?_) rfl rfl rfl rfl;go_simp;exact N11_12.out g g12 u ⟨sX,⟨bT,hl⟩,b12.out.next hb,b12.out.ne' hg⟩
  ·
   skip
   rintro g11 uT ⟨sT,b11⟩;replace b11:=Hd b11;refine qez ?_ ?_ ?_
   ·
    skip
    refine qav sT (fun g u hg bT hb sX hl=>?_) rfl rfl rfl rfl;go_simp;exact N9_11.out g g11 u ⟨sX,⟨bT,hl⟩,b11.out.next hb,b11.out.ne' hg⟩
   ·
    skip
    refine qav sT (fun g u hg bT hb sX hl=>?_) rfl rfl rfl rfl;go_simp;exact N10_11.out g g11 u ⟨sX,⟨bT,hl⟩,b11.out.next hb,b11.out.ne' hg⟩
   ·
    skip
    refine qav sT (fun g u hg bT hb sX hl=>?_) rfl rfl rfl rfl;go_simp;exact N11_12.out g11 g u ⟨sX,b11.out.next hb,⟨bT,hl⟩,b11.out.ne hg⟩
  ·
   skip
   rintro g10 uT ⟨sT,b10⟩;replace b10:=Hd b10;refine qez ?_ ?_ ?_
   ·
    skip
    refine qav sT (fun g u hg bT hb sX hl=>?_) rfl rfl rfl rfl;go_simp;exact N9_10.out g g10 u ⟨sX,⟨bT,hl⟩,b10.out.next hb,b10.out.ne' hg⟩
   ·
    skip
    refine qav sT (fun g u hg bT hb sX hl=>?_) rfl rfl rfl rfl;go_simp;exact N10_11.out g10 g u ⟨sX,b10.out.next hb,⟨bT,hl⟩,b10.out.ne hg⟩
   ·
    skip
    refine qav sT (fun g u hg bT hb sX hl=>?_) rfl rfl rfl rfl;go_simp;exact N10_12.out g10 g u ⟨sX,b10.out.next hb,⟨bT,hl⟩,b10.out.ne hg⟩
  ·
   skip
   rintro g9 uT ⟨sT,b9⟩;replace b9:=Hd b9;refine qez ?_ ?_ ?_
   ·
    skip
    refine qav sT (fun g u hg bT hb sX hl=>?_) rfl rfl rfl rfl;go_simp;exact N9_10.out g9 g u ⟨sX,b9.out.next hb,⟨bT,hl⟩,b9.out.ne hg⟩
   ·
    skip
    refine qav sT (fun g u hg bT hb sX hl=>?_) rfl rfl rfl rfl;go_simp;exact N9_11.out g9 g u ⟨sX,b9.out.next hb,⟨bT,hl⟩,b9.out.ne hg⟩
   ·
    skip
    refine qav sT (fun g u hg bT hb sX hl=>?_) rfl rfl rfl rfl;go_simp;exact N9_12.out g9 g u ⟨sX,b9.out.next hb,⟨bT,hl⟩,b9.out.ne hg⟩
  ·
   skip
   rintro g11 g12 uT ⟨sT,b11,b12,n11_12⟩;replace b11:=Hd b11;replace b12:=Hd b12;refine qdf ?_ ?_
   ·
    skip
    refine qav sT (fun g u hg bT hb sX hl=>?_) rfl rfl rfl rfl;go_simp;exact N9_11_12.out g g11 g12 u ⟨sX,⟨bT,hl⟩,b11.out.next hb,b12.out.next hb,b11.out.ne' hg,b12.out.ne' hg,n11_12⟩
   ·
    skip
    refine qav sT (fun g u hg bT hb sX hl=>?_) rfl rfl rfl rfl;go_simp;exact N10_11_12.out g g11 g12 u ⟨sX,⟨bT,hl⟩,b11.out.next hb,b12.out.next hb,b11.out.ne' hg,b12.out.ne' hg,n11_12⟩
  ·
   skip
   rintro g10 g12 uT ⟨sT,b10,b12,n10_12⟩;replace b10:=Hd b10;replace b12:=Hd b12;refine qdf ?_ ?_
   ·
    skip
    refine qav sT (fun g u hg bT hb sX hl=>?_) rfl rfl rfl rfl;go_simp;exact N9_10_12.out g g10 g12 u ⟨sX,⟨bT,hl⟩,b10.out.next hb,b12.out.next hb,b10.out.ne' hg,b12.out.ne' hg,n10_12⟩
   ·
    skip
    refine qav sT (fun g u hg bT hb sX hl=>?_) rfl rfl rfl rfl;go_simp;exact N10_11_12.out g10 g g12 u ⟨sX,b10.out.next hb,⟨bT,hl⟩,b12.out.next hb,b10.out.ne hg,n10_12,b12.out.ne' hg⟩
  ·
   skip
   rintro g10 g11 uT ⟨sT,b10,b11,n10_11⟩;replace b10:=Hd b10;replace b11:=Hd b11;refine qdf ?_ ?_
   ·
    skip
    refine qav sT (fun g u hg bT hb sX hl=>?_) rfl rfl rfl rfl;go_simp;exact N9_10_11.out g g10 g11 u ⟨sX,⟨bT,hl⟩,b10.out.next hb,b11.out.next hb,b10.out.ne' hg,b11.out.ne' hg,n10_11⟩
   ·
    skip
    refine qav sT (fun g u hg bT hb sX hl=>?_) rfl rfl rfl rfl;go_simp;exact N10_11_12.out g10 g11 g u ⟨sX,b10.out.next hb,b11.out.next hb,⟨bT,hl⟩,n10_11,b10.out.ne hg,b11.out.ne hg⟩
  ·
   skip
   rintro g9 g12 uT ⟨sT,b9,b12,n9_12⟩;replace b9:=Hd b9;replace b12:=Hd b12;refine qdf ?_ ?_
   ·
    skip
    refine qav sT (fun g u hg bT hb sX hl=>?_) rfl rfl rfl rfl;go_simp;exact N9_10_12.out g9 g g12 u ⟨sX,b9.out.next hb,⟨bT,hl⟩,b12.out.next hb,b9.out.ne hg,n9_12,b12.out.ne' hg⟩
   ·
    skip
    refine qav sT (fun g u hg bT hb sX hl=>?_) rfl rfl rfl rfl;go_simp;exact N9_11_12.out g9 g g12 u ⟨sX,b9.out.next hb,⟨bT,hl⟩,b12.out.next hb,b9.out.ne hg,n9_12,b12.out.ne' hg⟩
  ·
   skip
   rintro g9 g11 uT ⟨sT,b9,b11,n9_11⟩;replace b9:=Hd b9;replace b11:=Hd b11;refine qdf ?_ ?_
   ·
    skip
    refine qav sT (fun g u hg bT hb sX hl=>?_) rfl rfl rfl rfl;go_simp;exact N9_10_11.out g9 g g11 u ⟨sX,b9.out.next hb,⟨bT,hl⟩,b11.out.next hb,b9.out.ne hg,n9_11,b11.out.ne' hg⟩
   ·
    skip
    refine qav sT (fun g u hg bT hb sX hl=>?_) rfl rfl rfl rfl;go_simp;exact N9_11_12.out g9 g11 g u ⟨sX,b9.out.next hb,b11.out.next hb,⟨bT,hl⟩,n9_11,b9.out.ne hg,b11.out.ne hg⟩
  ·
   skip
   rintro g9 g10 uT ⟨sT,b9,b10,n9_10⟩;replace b9:=Hd b9;replace b10:=Hd b10;refine qdf ?_ ?_
   ·
    skip
    refine qav sT (fun g u hg bT hb sX hl=>?_) rfl rfl rfl rfl;go_simp;exact N9_10_11.out g9 g10 g u ⟨sX,b9.out.next hb,b10.out.next hb,⟨bT,hl⟩,n9_10,b9.out.ne hg,b10.out.ne hg⟩
   ·
    skip
    refine qav sT (fun g u hg bT hb sX hl=>?_) rfl rfl rfl rfl;go_simp;exact N9_10_12.out g9 g10 g u ⟨sX,b9.out.next hb,b10.out.next hb,⟨bT,hl⟩,n9_10,b9.out.ne hg,b10.out.ne hg⟩
  ·
   skip
   rintro g10 g11 g12 uT ⟨sT,b10,b11,b12,n10_11,n10_12,n11_12⟩;replace b10:=Hd b10;replace b11:=Hd b11;replace b12:=Hd b12;refine qav sT (fun g u hg bT hb sX hl=>?_) rfl rfl rfl rfl;go_simp;exact N9_10_11_12.out g g10 g11 g12 u ⟨sX,⟨bT,hl⟩,b10.out.next hb,b11.out.next hb,b12.out.next hb,b10.out.ne' hg,b11.out.ne' hg,b12.out.ne' hg,n10_11,n10_12,n11_12⟩
  ·
   skip
   rintro g9 g11 g12 uT ⟨sT,b9,b11,b12,n9_11,n9_12,n11_12⟩;replace b9:=Hd b9;replace b11:=Hd b11;replace b12:=Hd b12;refine qav sT (fun g u hg bT hb sX hl=>?_) rfl rfl rfl rfl;go_simp;exact N9_10_11_12.out g9 g g11 g12 u ⟨sX,b9.out.next hb,⟨bT,hl⟩,b11.out.next hb,b12.out.next hb,b9.out.ne hg,n9_11,n9_12,b11.out.ne' hg,b12.out.ne' hg,n11_12⟩
  ·
   skip
   rintro g9 g10 g12 uT ⟨sT,b9,b10,b12,n9_10,n9_12,n10_12⟩;replace b9:=Hd b9;replace b10:=Hd b10;replace b12:=Hd b12;refine qav sT (fun g u hg bT hb sX hl=>?_) rfl rfl rfl rfl;go_simp;exact N9_10_11_12.out g9 g10 g g12 u ⟨sX,b9.out.next hb,b10.out.next hb,⟨bT,hl⟩,b12.out.next hb,n9_10,b9.out.ne hg,n9_12,b10.out.ne hg,n10_12,b12.out.ne' hg⟩
  ·
   skip
   rintro g9 g10 g11 uT ⟨sT,b9,b10,b11,n9_10,n9_11,n10_11⟩;replace b9:=Hd b9;replace b10:=Hd b10;replace b11:=Hd b11;refine qav sT (fun g u hg bT hb sX hl=>?_) rfl rfl rfl rfl;go_simp;exact N9_10_11_12.out g9 g10 g11 g u ⟨sX,b9.out.next hb,b10.out.next hb,b11.out.next hb,⟨bT,hl⟩,n9_10,n9_11,b9.out.ne hg,n10_11,b10.out.ne hg,b11.out.ne hg⟩
  ·
   skip
   rintro g9 g10 g11 g12 uT ⟨sT,b9,b10,b11,b12,n9_10,n9_11,n9_12,n10_11,n10_12,n11_12⟩;replace b9:=Hd b9;replace b10:=Hd b10;replace b11:=Hd b11;replace b12:=Hd b12;obtain ⟨c9a,c9b⟩:=cq2 b9.out.1;obtain ⟨e9a,e9b⟩:=fq2 b9.out.1;obtain ⟨c10a,c10b⟩:=cq2 b10.out.1;obtain ⟨e10a,e10b⟩:=fq2 b10.out.1;obtain ⟨c11a,c11b⟩:=cq2 b11.out.1;obtain ⟨e11a,e11b⟩:=fq2 b11.out.1;obtain ⟨c12a,c12b⟩:=cq2 b12.out.1;obtain ⟨e12a,e12b⟩:=fq2 b12.out.1;have n10_9:¬ g10=g9:=fun h=>n9_10 h.symm
   have n11_9:¬ g11=g9:=fun h=>n9_11 h.symm
   have n12_9:¬ g12=g9:=fun h=>n9_12 h.symm
   have n11_10:¬ g11=g10:=fun h=>n10_11 h.symm
   have n12_10:¬ g12=g10:=fun h=>n10_12 h.symm
   have n12_11:¬ g12=g11:=fun h=>n11_12 h.symm
   refine qhj rfl rfl (fun K hK=>?_);go_simp;refine hK.out _ _ (((sT.setCell b9.out.2 _).setCell b9.out.2 _)) (fun _=>?_);clear hK K;refine qhj rfl rfl (fun K hK=>?_);go_simp;refine hK.out _ _ (((((sT.setCell b9.out.2 _).setCell b9.out.2 _).setCell b10.out.2 _).setCell b10.out.2 _)) (fun _=>?_);clear hK K;refine qhj rfl rfl (fun K hK=>?_);go_simp;refine hK.out _ _ (((((((sT.setCell b9.out.2 _).setCell b9.out.2 _).setCell b10.out.2 _).setCell b10.out.2 _).setCell b11.out.2 _).setCell b11.out.2 _)) (fun _=>?_);clear hK K;refine qvt rfl rfl (fun K hK=>?_);go_simp;refine hK.out _ _ ?_;clear hK K;refine qo1 ?_;clear c9a c9b e9a e9b c10a c10b e10a e10b c11a c11b e11a e11b c12a c12b e12a e12b;go_wp2
   go_meet
   case rel=>exact ⟨g9,g10,g11,g12,rfl,rfl,rfl,rfl,Hd (by have:=b9.out.1;exact bk),Hd (by have:=b10.out.1;exact bk),Hd (by have:=b11.out.1;exact bk),Hd (by have:=b12.out.1;exact bk),Hd ((((((((sT.setCell b9.out.2 _).setCell b9.out.2 _).setCell b10.out.2 _).setCell b10.out.2 _).setCell b11.out.2 _).setCell b11.out.2 _).setCell b12.out.2 _).setCell b12.out.2 _)⟩
 case rest =>
  obtain ⟨g9,g10,g11,g12,rfl,rfl,rfl,rfl,b9,b10,b11,b12,hwc⟩:=hcut;have hwc2:=bth hw1 hwc.out;have x9:=held (b9.out.cell 0);have y9:=held (b9.out.cell 1);have x10:=held (b10.out.cell 0);have y10:=held (b10.out.cell 1);have x11:=held (b11.out.cell 0);have y11:=held (b11.out.cell 1);have x12:=held (b12.out.cell 0);have y12:=held (b12.out.cell 1);clear k0 ka0 kb0 k1 ka1 kb1 k2 ka2 kb2 k3 ka3 kb3;go_wp2;have s0:Below wc.heap.size wc wc.drew:=brf.drew;refine wrx (S:=Below wc.heap.size wc) [(0,.q),(1,.q),(2,.q),(3,.q),(5,.q),(6,.q),(7,.q),(8,.q),(10,.q),(11,.q),(12,.q),(13,.q),(15,.q),(16,.q),(17,.q),(18,.q),(4,.l),(9,.l),(14,.l),(19,.t),(20,.t),(21,.t),(22,.p)] (s0) ?_
  iterate 16 (refine qaf rfl rfl fun K hK=>xq ?_;go_simp;refine hK _ _ ?_;clear hK K)
  refine vl fun K hK=>?_
  go_simp;refine (C1.out wc.drew (bth hwc2 s0)).mono ?_;rintro r wc1 ⟨ac1,cc1,rfl,hPc1,hbc1⟩;dsimp only;refine hK.out _ _ (bth s0 hbc1) (fun _=>?_);clear hK K;have sc1:=bth s0 hbc1;replace hPc1:=Hd hPc1;clear C1 hbc1;refine vl fun K hK=>?_
  go_simp;refine (C2.out wc1 (bth hwc2 sc1)).mono ?_;rintro r wc2 ⟨ac2,cc2,rfl,hPc2,hbc2⟩;dsimp only;refine hK.out _ _ (bth sc1 hbc2) (fun _=>?_);clear hK K;have sc2:=bth sc1 hbc2;replace hPc2:=Hd hPc2;replace hPc1:=Hd (hPc1.out.call hbc2);clear C2 hbc2;refine vl fun K hK=>?_
  go_simp;refine (C3.out wc2 (bth hwc2 sc2)).mono ?_;rintro r wc3 ⟨ac3,cc3,rfl,hPc3,hbc3⟩;dsimp only;refine hK.out _ _ (bth sc2 hbc3) (fun _=>?_);clear hK K;have sc3:=bth sc2 hbc3;replace hPc3:=Hd hPc3;replace hPc1:=Hd (hPc1.out.call hbc3);replace hPc2:=Hd (hPc2.out.call hbc3);clear C3 hbc3;refine vt fun K hK=>?_
  go_simp;refine (C4.out wc3 (bth hwc2 sc3)).mono ?_;rintro r wc4 ⟨ac4,cc4,rfl,hPc4,hbc4⟩;dsimp only;refine hK.out _ _ ?_;clear hK K;have sc4:=bth sc3 hbc4;replace hPc4:=Hd hPc4;replace hPc1:=Hd (hPc1.out.call hbc4);replace hPc2:=Hd (hPc2.out.call hbc4);replace hPc3:=Hd (hPc3.out.call hbc4);clear C4 hbc4;refine vt fun K hK=>?_
  go_simp;refine (C5.out wc4 (bth hwc2 sc4) ac1 cc1 hPc1.out ac2 cc2 hPc2.out ac3 cc3 hPc3.out ac4 cc4 hPc4.out).mono ?_;rintro r wc5 ⟨ac5,cc5,rfl,hPc5,hbc5⟩;dsimp only;refine hK.out _ _ ?_;clear hK K;have sc5:=bth sc4 hbc5;replace hPc5:=Hd hPc5;clear C5 hbc5;refine vt fun K hK=>?_
  go_simp;refine hK.out _ _ ?_;clear hK K
  refine qaj rfl rfl fun K hK=>xp ?_;go_simp;refine hK _ _ ?_;clear hK K
  refine qad ?_;clear x9 y9 x10 y10 x11 y11 x12 y12;have hwF:=bth hwc2 sc5;go_wp2;refine qaa (fun W=>Blk W wc5.heap.size 75 #[.slice ac5 y5.length cc5]/\Below wc5.heap.size wc5 W) ⟨bk,zg⟩ ?_;rintro wF ⟨hF',hbF⟩;refine bodyPost_ret (v:=.slice (some ⟨wc5.heap.size,0,none⟩) 1 1) (by simp [results,Tryz.results65,go_sem]) rfl ?_;exact ⟨bth hwF hbF,some ⟨wc5.heap.size,0,none⟩,1,_,rfl,qfd hF',by simp,fun g hg=>by injection hg with hg;subst hg;exact hwF.size⟩
def qzi (w:World) (e:Ending) (w':World):Prop:=Below w.heap.size w w' /\
 ((∃ er:Int,er≠0/\e=.returned (.tuple #[.slice none 0 0,.int .i64 er]))\/(∃ a c l,e=.returned (.tuple #[.slice a (List.length l) c,.int .i64 0])/\SqR w' a c l/\l.length<=2/\∀ g,a=some g->w.heap.size<=g.block))
theorem qac2 {f:Fct} {n:Nat} (h:qb2 f n=0):(f.args.length:Int)=qba f.kind/\qba f.kind≠0/\(∀ y∈f.args,0<=y/\y<(n:Int))/\(f.kind=9->f.ratio.right=true):=by
 unfold qb2 at h;by_cases h1:qba f.kind=0
 · rw [if_pos h1] at h;simp at h
 rw [if_neg h1] at h;by_cases h2:(f.args.length:Int)=qba f.kind
 ·
  rw [if_neg (by simpa using h2)] at h;by_cases h3:f.args.any (qa1 n)=true
  · rw [if_pos h3] at h;simp at h
  ·
   rw [if_neg h3] at h;refine ⟨h2,h1,fun y hy=>?_,fun h9=>?_⟩
   ·
    have h4:f.args.any (qa1 n)=false:=by simpa using h3
    rw [List.any_eq_false] at h4;have h5:=h4 y hy;unfold qa1 at h5;rw [decide_eq_true_eq] at h5
    omega
   ·
    by_cases h6:f.ratio.right=false
    · rw [if_pos ⟨h9,h6⟩] at h;simp at h
    · simpa using h6
 · rw [if_pos h2] at h;simp at h
theorem qsw (f:Fct) (p:RA) (x:Frm) (hs:List (VQ × Vec)) (ra va:Option Addr) (rc vc:Nat) (D M:Nat) (w:World) (he:qb2 f hs.length=0) (hP:qci w p f.args f.ratio) (hF:FrR w x hs ra rc va vc) (H:GB D M) (hG8:∀ v∈x.coords,GV D M 8 v)
  (hG3:(f.kind=6\/f.kind=7)->∀ a∈f.args,GV D M 3 (argF x.coords [a] 0)) (hr2:f.ratio.num.length<=2/\f.ratio.den.length<=2) :
  Calls Tryz.prog 65 #[f.val p.aa p.ac p.na p.nc p.da p.dc,.slice ra hs.length rc] w (RetG w):=by
 obtain ⟨h1,h2,h3,h4⟩:=qac2 he;have g8:∀ n:Nat,∀ y:Int,y∈f.args->∀ {z:VQ × Vec},hs[n]? = some z->GV D M 8 z.2:=fun n y _ z hz=>hG8 z.2 (by rw [<- hF.eq];exact List.mem_map_of_mem (List.mem_of_getElem? hz))
 have g3:(f.kind=6\/f.kind=7)->∀ n:Nat,(n:Int)∈f.args->∀ {z:VQ × Vec},hs[n]? = some z->GV D M 3 z.2:=fun hk n hn z hz=>by
  have:=hG3 hk _ hn;unfold argF at this;rw [List.getD_cons_zero,Int.toNat_natCast,List.getD_eq_getElem?_getD,<- hF.eq,List.getElem?_map,hz] at this;exact this
 obtain ⟨kind,args,ratio⟩:=f;unfold Fct.val;dsimp only at h1 h2 h3 h4 g8 g3 hP hr2 ⊢;by_cases k1:kind=1
 · subst k1;exact qxp x hs ra va p.aa p.na p.da rc vc p.ac _ p.nc _ p.dc ratio.neg args D M w hP.1 hF H g8 h3 (by have:(args.length:Int)=3:=(by simpa [qba] using h1);omega)
 by_cases k2:kind=2
 · subst k2;exact qzd x hs ra va p.aa p.na p.da rc vc p.ac _ p.nc _ p.dc ratio.neg args D M w hP.1 hF H g8 h3 (by have:(args.length:Int)=4:=(by simpa [qba] using h1);omega)
 by_cases k3:kind=3
 · subst k3;exact qyx x hs ra va p.aa p.na p.da rc vc p.ac _ p.nc _ p.dc ratio.neg args D M w hP.1 hF H g8 h3 (by have:(args.length:Int)=4:=(by simpa [qba] using h1);omega)
 by_cases k4:kind=4
 · subst k4;exact qy0 x hs ra va p.aa p.na p.da rc vc p.ac _ p.nc _ p.dc ratio.neg args D M w hP.1 hF H g8 h3 (by have:(args.length:Int)=4:=(by simpa [qba] using h1);omega)
 by_cases k5:kind=5
 · subst k5;exact qy8 x hs ra va p.aa p.na p.da rc vc p.ac _ p.nc _ p.dc ratio.neg args D M w hP.1 hF H g8 h3 (by have:(args.length:Int)=3:=(by simpa [qba] using h1);omega)
 by_cases k6:kind=6
 · subst k6;exact qxq x hs ra va p.aa p.na p.da rc vc p.ac _ p.nc _ p.dc ratio.neg args D M w hP.1 hF H (g3 (.inl rfl)) h3 (by have:(args.length:Int)=4:=(by simpa [qba] using h1);omega)
 by_cases k7:kind=7
 · subst k7;exact qza x hs ra va p.aa p.na p.da rc vc p.ac _ p.nc _ p.dc ratio.neg args D M w hP.1 hF H (g3 (.inr rfl)) h3 (by have:(args.length:Int)=8:=(by simpa [qba] using h1);omega)
 by_cases k8:kind=8
 · subst k8;exact qyj x hs ra va p.aa p.na p.da rc vc p.ac _ p.nc _ p.dc ratio.neg args D M w hP.1 hF H g8 h3 (by have:(args.length:Int)=2:=(by simpa [qba] using h1);omega)
 have k9:kind=9:=by
  unfold qba at h2;by_cases e:kind=9
  · exact e
  · exact absurd (by rw [if_neg oo,if_neg oo,if_neg oo,if_neg oo]) h2
 have hrt:=h4 k9;have hqk:=RtZ.sk (r:=ratio) (z:=⟨ratio.neg,ratio.num.length,p.na,p.nc,ratio.den.length,p.da,p.dc⟩) (w:=w) ⟨rfl,rfl,rfl,hP.2.1,hP.2.2⟩ (Rt.short_iff.2 ⟨hrt,hr2⟩);exact qyk x hs ra va p.aa p.na p.da rc vc p.ac _ p.nc _ p.dc ratio.neg args D M w hP.1 hF H g8 h3 kind oo ratio.q hqk.1 (qps hrt hr2.1 hr2.2) (Nat.le_trans hqk.2 oo) (by subst k9;have:(args.length:Int)=4:=(by simpa [qba] using h1);omega)
theorem qqd (f:Fct) (p:RA) (x:Frm) (hs:List (VQ × Vec)) (ra va:Option Addr) (rc vc:Nat) (D M:Nat) (w:World) (hP:qci w p f.args f.ratio) (hki:InInt f.kind) (hF:FrR w x hs ra rc va vc) (H:GB D M) (hG8:∀ v∈x.coords,GV D M 8 v)
  (hG3:(f.kind=6\/f.kind=7)->∀ a∈f.args,GV D M 3 (argF x.coords [a] 0)) (hr2:f.ratio.num.length<=2/\f.ratio.den.length<=2) :
  Calls Tryz.prog 34 #[f.val p.aa p.ac p.na p.nc p.da p.dc,.agg #[.slice ra hs.length rc,.slice va x.vars.length vc]] w (qzi w):=by
 have CR:=fun W (hW:bw w W)=>qjn f hs.length p W (qci.ext hP (xbw hW)) ⟨oo,oo⟩ ⟨by have:=SlR.len hF.co;omega,by have:=SlR.len hF.co;omega⟩ hki
 have CP:=fun (he:qb2 f hs.length=0) W (hW:bw w W)=>qsw f p x hs ra va rc vc D M W he (qci.ext hP (xbw hW)) (hF.ext (xbw hW)) H hG8 hG3 hr2
 have lH:=SlR.len hF.co;have lA:=hP.1.len;obtain ⟨er,her⟩:=nm (qb2 f hs.length)
 rw [her] at CR CP;unfold RetG at CP;obtain ⟨kind,args,ratio⟩:=f;unfold Fct.val at *;dsimp only at *;replace CR:=Hd CR;replace CP:=Hd CP;clear hP hF H hG8 hG3 her hr2 hki;go_enter Tryz.func34,Tryz.ntmps34;go_wp2_with fail;refine qae (fun W=>Blk W w.heap.size 91 #[.int .i64 kind,.slice p.aa args.length p.ac,.bool ratio.neg,.slice p.na ratio.num.length p.nc,.slice p.da ratio.den.length p.dc]/\Blk W (w.heap.size+1) 37 #[.slice ra hs.length rc,.slice va x.vars.length vc]/\Below w.heap.size w W) ⟨bk,bk,zg⟩ ?_;rintro w0 ⟨B1,B2,hw0⟩;obtain ⟨g2,hg2⟩:=nm (w.heap.size+1)
 obtain ⟨g1,hg1⟩:=nm w.heap.size
 rw [hg2] at B2 ⊢;have B1':Blk w0 g1 91 #[.int .i64 kind,.slice p.aa args.length p.ac,.bool ratio.neg,.slice p.na ratio.num.length p.nc,.slice p.da ratio.den.length p.dc]:=hg1 ▸ B1;simp only [hg1];replace hg1:=Hd hg1;replace hg2:=Hd hg2;refine (CR.out w0 hw0).mono ?_;rintro e w1 ⟨rfl,hb1⟩;have hw1:=bth hw0 hb1;have BA:=B1'.below' hb1;have BF:=B2.below' hb1;have lB:=BA.lt;have lF:=BF.lt;clear CR B1 B1' B2 hb1;by_cases he:er=0
 ·
  subst he;have CP1:=Hd (CP.out rfl w1 hw1);obtain ⟨x0,x1,x2,x3,x4⟩:=cq5 BA;have f0:=BF.cell 0;clear CP;go_wp2_with fail;refine CP1.out.mono ?_;rintro e w2 ⟨hb2,a2,c2,l,rfl,hR2,hl2,hfr⟩;have hfr2:∀ g,a2=some g->w.heap.size<=g.block:=fun g hg=>Nat.le_trans hw1.size (hfr g hg)
  replace hfr2:=Hd hfr2;have hw2:=Hd (bth hw1 hb2);have hcap:=hR2.1;have hcap2:=hR2.2.1;have hR2':=Hd hR2;clear x0 x1 x2 x3 x4 f0 BA BF lB lF CP1 hb2 hR2 hfr;go_wp2
  go_loopg [8] l.length (fun m q wz=>∃ j:Nat,Hid (j+m=l.length)/\q=.int .i64 j/\Hid (Below w2.heap.size w2 wz))
  case atStart=>exact ⟨0,by show _=_;omega,rfl,Below.refl _ _⟩
  case round =>
   obtain ⟨j,hmj,rfl,hwz⟩:=hrel;have hF:=Hd (bth hw2.out hwz.out);by_cases hlj:j<l.length
   ·
    obtain ⟨t,ht⟩:=qab hlj;obtain ⟨tb,to_,rfl,tc⟩:=(hR2'.out.ext (xbw hwz.out)).2.2 j t ht;unfold SqE at tc;rw [Nat.mul_one] at tc;have hjI:(j:Int)<(l.length:Int):=oo
    replace ht:=Hd ht;by_cases hbig:4000<t.n
    ·
     have hd:decide (4000<t.n)=true:=decide_eq_true hbig;have hdI:(4000:Int)<(t.n:Int):=oo
     replace hbig:=Hd hbig;go_wp2;refine bodyPost_ret (v:=.tuple #[.slice none 0 0,.int .i64 4]) (by simp [results,Tryz.results34,go_sem]) rfl ?_;exact ⟨hF.out,.inl ⟨4,by decide,rfl⟩⟩
    ·
     have hd:decide (4000<t.n)=false:=decide_eq_false hbig;have hdI:¬ (4000:Int)<(t.n:Int):=oo
     replace hbig:=Hd hbig;go_wp2;go_roundg (gk-1)
     case rel=>exact ⟨j+1,by have:=hmj.out;show _=_;omega,by go_num,hwz.out⟩
     case measure=>have:=hmj.out;omega
   ·
    have hR:=Hd (hR2'.out.ext (xbw hwz.out));replace hl2:=Hd hl2;have hjI:¬ (j:Int)<(l.length:Int):=oo
    go_wp2;refine bodyPost_ret (v:=.tuple #[.slice a2 l.length c2,.int .i64 0]) (by simp [results,Tryz.results34,go_sem]) rfl ?_;exact ⟨hF.out,.inr ⟨a2,c2,l,rfl,hR.out,hl2.out,hfr2.out⟩⟩
 ·
  have hne:(er != 0)=true:=by simpa using he
  have x0:=BA.cell 0;have f0:=BF.cell 0;replace he:=Hd he;go_wp2;refine bodyPost_ret (v:=.tuple #[.slice none 0 0,.int .i64 er]) (by simp [results,Tryz.results34,go_sem]) rfl ?_;exact ⟨hw1,.inl ⟨er,he.out,rfl⟩⟩
theorem OwnCd.readsX {B:Nat} {X:Nat->Prop} {w:World} {a:Option Addr} {c:Nat} {l:List CQ} {p:List Cnd} (h:OwnCd B w a c l) (hA:AllC (Xr X a) w l p) (hX:∀ b,X b->b<B):Rd X w fun V=>CdR V a c p:=fun V hV =>
 Own.readsX (X:=X) p hA.1.symm CQ.cs_len h hV (fun g hg hx=>by have:=(h.lt hg).1;have:=hX _ hx;omega) fun b o k x y h1 h2 hc=>by
  obtain ⟨e1,e2,e3,e4⟩:=hA.2 k x y h1 h2;refine ⟨x.a,x.c,by rw [<- e1];simpa using hc 0 _ rfl,by rw [<- e2];exact hc 1 _ rfl,by rw [<- e3];exact hc 2 _ rfl,(e4.less fun b hb=>.inl hb) V hV⟩
def qab0 (steps:List Step) (w:World) (e:Ending) (w':World):Prop:=Below w.heap.size w w' /\
 ((∃ er:Int,er≠0/\e=.returned (.tuple #[.slice none 0 0,.int .i64 er]))\/(∃ a c cs,e=.returned (.tuple #[.slice a (List.length cs) c,.int .i64 0])/\(Rd (fun b=>b<w.heap.size) w' fun V=>CdR V a c cs)/\cs.length<=8/\CdsOk steps cs))
theorem qwm (steps:List Step) (goals:List Fct) (sa:Option Addr) (sc:Nat) (ga:Option Addr) (gc:Nat) (w:World) (h:FigR w sa sc ga gc ⟨steps,goals⟩) (hq:Fig.few ⟨steps,goals⟩) (hs:Fig.slim ⟨steps,goals⟩) :
  Calls Tryz.prog 32 #[.agg #[.slice sa steps.length sc,.slice ga goals.length gc]] w (qab0 steps w):=by
 have he:Fig.err ⟨steps,goals⟩=0:=hs.2.2.1;have C:=fun W (hW:bw w W)=>qiw (fun _=>False) ⟨steps,goals⟩ sa sc ga gc w W h hW hq he (fun b hb=>hb.elim) (qh8 he hs.2.2.2.1)
 have har:=qwd he;have h8:steps.length<=8:=hs.1;unfold Fig.val at C;dsimp only at C har;have HS:=Hd h.1;have lS:=SlR.len h.1;have lG:=SlR.len h.2;dsimp only at lS lG;replace C:=Hd C;replace har:=Hd har;clear h hq hs he;go_enter Tryz.func32,Tryz.ntmps32;go_wp2_with fail;refine qae (fun W=>Blk W w.heap.size 25 #[.slice sa steps.length sc,.slice ga goals.length gc]/\Below w.heap.size w W) ⟨bk,zg⟩ ?_;rintro w0 ⟨BG,hw0⟩;obtain ⟨gG,hgG⟩:=nm w.heap.size
 have BG':Blk w0 gG 25 #[.slice sa steps.length sc,.slice ga goals.length gc]:=hgG ▸ BG;rw [hgG];have CC:=C.out w0 hw0;obtain ⟨res,hres⟩:∃ res,qbc ⟨[],[],0⟩ 0 steps=res:=⟨_,rfl⟩
 rw [hres] at CC;replace hgG:=Hd hgG;clear BG C;refine CC.mono ?_;clear CC;rintro e w1 ⟨hb1,hm1⟩;have hw1:=bth hw0 hb1;have BG1:=BG'.below' hb1
 cases res with
 | none =>
  dsimp only at hm1;subst hm1;have z0:=BG1.cell 0;have zl:=BG1.lt;replace hres:=Hd hres;go_wp2;refine bodyPost_ret (v:=.tuple #[.slice none 0 0,.int .i64 4]) (by simp [results,Tryz.results32,go_sem]) rfl ?_;exact ⟨by have:=hw1.size;have:=hw1;go_grown,.inl ⟨4,by decide,rfl⟩⟩
 | some x =>
  dsimp only at hm1;obtain ⟨hs,ra,va,rc,vc,B0,rfl,heq,hoC,hoV,hall⟩:=hm1;have z0:=BG1.cell 0;have zl:=BG1.lt;replace hres:=Hd hres;clear hoC hoV hall heq;go_wp2;refine qaa (fun W=>Blk W gG 25 #[.slice sa steps.length sc,.slice ga goals.length gc]/\Below w1.heap.size w1 W) ⟨bk,zg⟩ ?_;rintro w2 ⟨BG2,hb2⟩;have hw2:=Hd (bth hw1 hb2);have hS2:=Hd (HS.out.ext (xbw hw2.out));obtain ⟨gF,hgF⟩:=nm w1.heap.size
  rw [hgF];replace hgF:=Hd hgF;clear hb2 z0 zl BG1 BG'
  go_loopg [6,7,8,9] steps.length (fun m out q _ _ wr=>∃ (k:Nat) (a:Option Addr) (c:Nat) (l:List CQ) (cs:List Cnd),Hid (k+m=steps.length)/\out=.slice a l.length c/\q=.int .i64 k/\Hid (OwnCd w2.heap.size wr a c l)/\Hid (AllC (Xr (fun b=>b<w.heap.size) a) wr l cs)/\Hid (cs.length<=k)/\Hid (CdsOk steps cs)/\Hid (Below w2.heap.size w2 wr))
  case atStart=>exact ⟨0,none,0,[],[],by show _=_;omega,rfl,rfl,Own.nil,AllC.nil,nlr _,(fun c hc=>by cases hc),Below.refl _ _⟩
  case round =>
   obtain ⟨k,a,c,l,cs,hm,rfl,rfl,hO,hA,hcl,hok,hwr⟩:=hrel;have BG:=BG2.below' hwr.out;obtain ⟨z0,z1⟩:=cq2 BG;have lBG:=BG.lt;by_cases hlt:k<steps.length
   ·
    obtain ⟨s,hsk⟩:=qab hlt;have CS:=qk9 steps sa ga sc goals.length gc k s wr (hS2.out.ext (xbw hwr.out)) hsk (har.out k s hsk);have hkI:(k:Int)<(steps.length:Int):=oo
    have hXl:∀ b,Xr (fun b=>b<w.heap.size) a b->b<wr.heap.size:=fun b hb=>by
     rcases hb with hb | ⟨g,hg,rfl⟩
     · exact ltl hb (bth hw2.out hwr.out).size
     · exact (hO.out.lt hg).2
    obtain ⟨cp,hcp⟩:=nm (condP s)
    rw [hcp] at CS;replace CS:=Hd CS;replace hsk:=Hd hsk;replace hXl:=Hd hXl;replace hcp:=Hd hcp;go_wp2_with fail;refine CS.out.mono ?_;rintro e w3 ⟨hb3,hm3⟩;have hw3:=Hd (bth hwr.out hb3);have hO3:=Hd (hO.out.below hb3);have hA3:=Hd (hA.out.map fun R k=>k.call hb3);have hll:=Hd hA.out.1
    cases cp with
    | none =>
     dsimp only at hm3;subst hm3;have BG3:=BG.below' hb3;have lB3:=BG3.lt;clear CS hb3 z0 z1 lBG;go_wp2;go_roundg (gk-1)
     case rel=>exact ⟨k+1,a,c,l,cs,by have:=hm.out;show _=_;omega,rfl,by go_num,hO3.out.alloc _,hA3.out.map fun R k=>k.call (brf.alloc (nlr _) _),by have:=hcl.out;show _<=_;omega,hok.out,hw3.out.alloc hw3.out.size _⟩
     case measure=>have:=hm.out;omega
    | some q =>
     obtain ⟨ck,ca⟩:=q;dsimp only at hm3;obtain ⟨ia,ic,rfl,hI⟩:=hm3;have hI3:=Hd (hI _ hXl.out);have hok2:CdsOk steps (cs++[(ck,ca,k)]):=fun y hy=>by
      rcases List.mem_append.1 hy with hy | hy
      · exact hok.out y hy
      · rw [List.mem_singleton] at hy;subst hy;exact ⟨s,hsk.out,hcp.out⟩
     have hln:(l++[(⟨ck,ia,ca.length,ic,k⟩:CQ)]).length=l.length+1:=by simp
     replace hok2:=Hd hok2;clear CS hI hb3 z0 z1 lBG
     go_wp2_with (at_builtin;go_must (refine qaa (fun W=>Blk W (w3.heap.size+1) 88 #[.int .i64 ck,.slice ia ca.length ic,.int .i64 k]/\Below w3.heap.size w3 W) ⟨bk,zg⟩ ?_);rintro w4 ⟨hr,hb4⟩;have hO4:=hO3.out.below hb4;go_must (refine qay (B:=w2.heap.size) rfl (.tmp 32) (.tmp 34) 81 rfl Tryz.underlying81 qaa7 rfl oo oo CQ.cs_len a c rfl hO4 (⟨ck,ia,ca.length,ic,k⟩:CQ) (CQ.cs_one _) (w3.heap.size+1) 1 rfl (fun j u hu=>by have e:=hr.cell j;rw [e];simpa [CQ.cs] using hu) (l++[⟨ck,ia,ca.length,ic,k⟩]) rfl (by have:=hll.out;have:=hcl.out;rw [List.length_append];simp;omega) (by have:=hw3.out.size;have:=hb4.size;omega) ?_);intro a5 c5 w5 ho5 hg5 ha5;have hb5:=qal (bth hw3.out hb4) hO4 hg5;have hA5:=(hA3.out.map fun R k=>k.call hb4).push (x:=⟨ck,ia,ca.length,ic,k⟩) (q:=(ck,ca,k)) rfl rfl rfl (hI3.out.call hb4) (fun R h=>h.app hg5 ha5);replace ho5:=Hd ho5;replace hb5:=Hd hb5;replace hA5:=Hd hA5;clear hr hb4 hg5 ha5 hO4)
     go_roundg (gk-1)
     case rel=>exact ⟨k+1,a5,c5,l++[(⟨ck,ia,ca.length,ic,k⟩:CQ)],cs++[(ck,ca,k)],by have:=hm.out;show _=_;omega,by first | rfl | rw [hln],by go_num,ho5.out,hA5.out,by have:=hcl.out;show _<=_;rw [List.length_append];simp;omega,hok2.out,hb5.out⟩
     case measure=>have:=hm.out;omega
   ·
    have hR:=Hd (OwnCd.readsX hO.out hA.out fun b hb=>ltl hb hw2.out.size);have hF:=Hd (bth hw2.out hwr.out);have hll:=hA.out.1;have hlq:cs.length<=8:=by have:=hcl.out;have:=hm.out;omega
    replace hlq:=Hd hlq;replace hll:=Hd hll;have hkI:¬ (k:Int)<(steps.length:Int):=oo
    go_wp2;refine bodyPost_ret (v:=.tuple #[.slice a l.length c,.int .i64 0]) (by simp [results,Tryz.results32,go_sem]) rfl ?_;exact ⟨hF.out,.inr ⟨a,c,cs,by rw [hll.out],hR.out,hlq.out,hok.out⟩⟩
end Go.Proofs.YtmdlbpibipnapaaGreat
