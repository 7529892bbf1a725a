/- Walks: whether a string is a name, by the reference and by the program. -/
import Derived.Test.YtmdlbpibipnapaaGreatRd1
import Derived.Deep.LoopGhost
import Derived.Laws.RangeString
import Derived.Test.YtmdlbpibipnapaaGreatRows
import Derived.Deep.QuietTactic
import Derived.BigQuiet
set_option linter.all false
set_option maxRecDepth 100000
set_option maxHeartbeats 4000000
namespace Go.Proofs.YtmdlbpibipnapaaGreat
open Go.RowKit
def RetNE (l:List Int) (x:Int) (w:World) (e:Ending) (w':World):Prop:=∃ a c,e=.returned (.tuple #[.slice a l.length c,.int .i64 x])/\(∀ V,New w.heap.size w' V->NatR V a c l)/\Below w.heap.size w w'
theorem qs6 (l m:List Int) (n k:Nat) (a a':Option Addr) (c c':Nat) (w:World) (h:NatR w a c l) (h':NatR w a' c' m) (hn:val l=n) (hk:val m=k) (hl:l.length<=16777216) (hm:m.length<=16777216) (hlt:n<k) :
  Calls Tryz.prog 127 #[.slice a l.length c,.slice a' m.length c'] w (RetNE [] 2 w):=by
 have C:=qfq l m a a' c c' w h h' hl hm;have hc:cmpN (val l) (val m) = -1:=by subst hn;subst hk;unfold cmpN;rw [if_pos hlt]
 rw [hc] at C;replace C:=Hd C;clear h h' hn hk hc hlt;go_enter Tryz.func127,Tryz.ntmps127;go_wp2_with (go_at_call 41;refine C.out.mono ?_;rintro e w' ⟨rfl,rfl⟩);go_ret2;exact ⟨none,0,rfl,fun _ _=>SlR.nil,Below.refl _ _⟩
theorem qi6 (l m:List Int) (n k:Nat) (a a':Option Addr) (c c':Nat) (w:World) (h:NatR w a c l) (h':NatR w a' c' m) (hn:val l=n) (hk:val m=k) (hl:l.length<=16777215) (hm:m.length<=16777216) (hge:k<=n) :
  Calls Tryz.prog 127 #[.slice a l.length c,.slice a' m.length c'] w (RetNE (limbs (n-k)) 0 w):=by
 have C:=qfq l m a a' c c' w h h' oo hm;have hc:0<=cmpN (val l) (val m):=by subst hn;subst hk;exact ql9.2 hge
 have hU:=h.u16;have hU':=h'.u16;have H:=Hd h;have H':=Hd h';have HN:=Hd hn;have HK:=Hd hk;have HU:=Hd hU;have HU':=Hd hU';revert C hc;generalize cmpN (val l) (val m)=q;intro C hc;replace C:=Hd C;have hcf:decide (q<0)=false:=by simp;omega
 clear h h' hn hk hU hU' hc;go_enter Tryz.func127,Tryz.ntmps127;go_wp2_with (go_at_call 41;refine C.out.mono ?_;rintro e w' ⟨rfl,rfl⟩);clear C hcf
 go_loopw [6,7,8,9] (fun s b i _ wr=>∃ (j bo:Nat) (o:List Int) (ao:Option Addr) (co:Nat),j<=l.length/\bo<=1/\i=.int .i64 j/\b=.int .i64 bo/\s=.slice ao o.length co/\OwnN w.heap.size wr ao co o/\U16 o/\Below w.heap.size w wr /\
  Hid (o.length=j)/\Hid (val (l.take j)+65536 ^ j*bo=val (m.take j)+val o)) (fun _ _ i _ _=>l.length-(intOf i).toNat)
 case atStart=>exact ⟨0,0,[],none,0,oo,oo,rfl,rfl,rfl,Own.nil,U16.nil,Below.refl _ _,rfl,by simp [Hid,val]⟩
 case round =>
  obtain ⟨j,bo,o,ao,co,hj,hbo,rfl,rfl,rfl,ho,hUo,hb,hlen,hv⟩:=hrel;have HO:=Hd ho;have HUO:=Hd hUo;clear ho hUo;by_cases hlt:j<l.length
  ·
   have CX:=qdi l j a c wr (H.out.ext (xbw hb));have CY:=qdi m j a' c' wr (H'.out.ext (xbw hb));obtain ⟨hx0,hx1⟩:=qbd HU.out j;obtain ⟨hy0,hy1⟩:=qbd HU'.out j;have hstep:=fun bo2 d=>qok l m o j bo bo2 d hlen.out hv.out
   revert CX CY hx0 hx1 hy0 hy1 hstep;generalize qag l j=x;generalize qag m j=y;intro CX CY hx0 hx1 hy0 hy1 hstep;replace CX:=Hd CX;replace CY:=Hd CY;have HS:=Hd hstep;clear hstep;by_cases hd:x-y-bo<0
   ·
    have HS2:=HS.out 1 (x-y-bo+65536).toNat oo;have ed:((x-y-(bo:Int)+65536).toNat:Int)=x-y-bo+65536:=oo
    rw [ed] at HS2;replace HS2:=Hd HS2;clear ed;go_wp2_with (first
     | (go_at_call 75;(first | ((with_reducible refine CX.out.mono ?_);rintro e w' ⟨rfl,rfl⟩) | ((with_reducible refine CY.out.mono ?_);rintro e w' ⟨rfl,rfl⟩)))
     | (at_builtin;go_must (refine qd0 rfl (.tmp 33) (.tmp 36) rfl ao co rfl (HO.out.alloc _) (x-y-bo+65536) wr.heap.size 1 rfl (by simp) (o++[x-y-bo+65536]) rfl (by have:=hlen.out;simp;omega) (by have:=hb.size;simp;omega) ?_);intro a2 c2 w2 ho2 hg2 hx2))
    go_roundw
    case rel =>
     have hb1:Below w.heap.size w w2:=qal (hb.alloc hb.size _) (HO.out.alloc _) hg2;exact ⟨j+1,1,_,a2,c2,oo,oo,by go_num,rfl,by simp,ho2,HUO.out.app (U16.cons oo U16.nil),hb1,by show _=_;rw [List.length_append,hlen.out];rfl,HS2.out⟩
    case measure=>simp [intOf];omega
   ·
    have HS2:=HS.out 0 (x-y-bo).toNat oo;have ed:((x-y-(bo:Int)).toNat:Int)=x-y-bo:=oo
    rw [ed] at HS2;replace HS2:=Hd HS2;clear ed;go_wp2_with (first
     | (go_at_call 75;(first | ((with_reducible refine CX.out.mono ?_);rintro e w' ⟨rfl,rfl⟩) | ((with_reducible refine CY.out.mono ?_);rintro e w' ⟨rfl,rfl⟩)))
     | (at_builtin;go_must (refine qd0 rfl (.tmp 33) (.tmp 36) rfl ao co rfl (HO.out.alloc _) (x-y-bo) wr.heap.size 1 rfl (by simp) (o++[x-y-bo]) rfl (by have:=hlen.out;simp;omega) (by have:=hb.size;simp;omega) ?_);intro a2 c2 w2 ho2 hg2 hx2))
    go_roundw
    case rel =>
     have hb1:Below w.heap.size w w2:=qal (hb.alloc hb.size _) (HO.out.alloc _) hg2;exact ⟨j+1,0,_,a2,c2,oo,oo,by go_num,rfl,by simp,ho2,HUO.out.app (U16.cons oo U16.nil),hb1,by show _=_;rw [List.length_append,hlen.out];rfl,HS2.out⟩
    case measure=>simp [intOf];omega
  ·
   obtain rfl:j=l.length:=oo
   have hval:val o=n-k:=by
    have:=qrc HU.out HU'.out HUO.out hlen.out hv.out (by rw [HN.out,HK.out];exact hge);rw [this,HN.out,HK.out]
   have CN:=qbk o ao co wr (HO.out.reads1 HUO.out) (by have:=hlen.out;omega);rw [hval] at CN;replace CN:=Hd CN;clear hval;go_wp2_with (go_at_call 73;refine CN.out.mono ?_;rintro e w2 ⟨a2,c2,rfl,hV,hb2⟩);go_ret2;exact ⟨a2,c2,rfl,fun V hV'=>hV V (hV'.base hb.size),bth hb hb2⟩
theorem qfn (l m:List Int) (n1 n2:Nat) (a a':Option Addr) (c c':Nat) (w:World) (h:NatR w a c l) (h':NatR w a' c' m) (hn:val l=n1) (hk:val m=n2) (hl:l.length<=8000000) (hm:m.length<=8000000) :
  Calls Tryz.prog 43 #[.slice a l.length c,.slice a' m.length c'] w (RetN (limbs (n1*n2)) w):=by
 have hU:=h.u16;have hU':=h'.u16;have H:=Hd h;have H':=Hd h';have HN:=Hd hn;have HK:=Hd hk;have HU:=Hd hU;have HU':=Hd hU';have hmk:∀ w,(Instr.makeSlice 28 (.int .i64 ((l.length:Int)+m.length+1)) (.int .i64 ((l.length:Int)+m.length+1))).run Tryz.prog w=.ok (.slice (some ⟨w.heap.size,0,none⟩) (l.length+m.length+1) (l.length+m.length+1)) (w.alloc (.cells (madeCells #[.int .u16 0] (l.length+m.length+1)) 105)):=fun w=>by
  have:=qco .i64 (l.length+m.length+1) oo w;simpa using this
 clear h h' hn hk hU hU';go_enter Tryz.func43,Tryz.ntmps43;go_wp2;have hB0:=BlkN.new w (l.length+m.length+1);have hb0:Below w.heap.size w (w.alloc (.cells (madeCells #[.int .u16 0] (l.length+m.length+1)) 105)):=brf.alloc (nlr _) _;revert hB0 hb0;generalize w.alloc (.cells (madeCells #[.int .u16 0] (l.length+m.length+1)) 105)=w0;intro hB0 hb0;clear hmk
 go_loopw [6,7,8,9] (fun i _ _ _ wr=>∃ (j:Nat) (o:List Int),j<=l.length/\i=.int .i64 j/\BlkN wr w.heap.size o/\U16 o/\Below w.heap.size w wr/\Hid (o.length=l.length+m.length+1)/\Hid (val o=val (l.take j)*val m)) (fun i _ _ _ _=>l.length-(intOf i).toNat)
 case atStart=>exact ⟨0,_,oo,rfl,hB0,qbw _,hb0,by simp [Hid],by show _=_;rw [qfx];simp [val]⟩
 case round =>
  obtain ⟨j,o,hj,rfl,hB,hUo,hb,hlen,hv⟩:=hrel;clear hB0 hb0;by_cases hlt:j<l.length
  ·
   obtain ⟨x,hx⟩:=qab hlt;have hxr:=HU.out.get hx;have HX:=Hd hx;obtain ⟨ba,oa,rfl,hcx⟩:=H.out.cell hx;have HCX:=Hd hcx;have HB:=Hd hB;have HUO:=Hd hUo;clear hx hcx hB hUo;obtain ⟨hx0,hx1⟩:=hxr;go_wp2
   go_loopw [7,8,9] (fun ca k _ w2=>∃ (cy kk:Nat) (o2:List Int),kk<=m.length+1/\cy<=65535/\ca=.int .u64 cy/\k=.int .i64 kk/\BlkN w2 w.heap.size o2/\U16 o2/\Below w.heap.size w w2/\Hid (o2.length=l.length+m.length+1) /\
    Hid (val o2+65536 ^ (j+kk)*cy=val (l.take j)*val m+65536 ^ j*(x.toNat*val (m.take kk)))) (fun _ k _ _=>m.length+2-(intOf k).toNat)
   case atStart=>exact ⟨0,0,o,oo,oo,rfl,rfl,HB.out,HUO.out,hb,hlen.out,by show _=_;rw [hv.out];simp [val]⟩
   case round =>
    clear HB HUO hlen hv hb o;obtain ⟨cy,kk,o,hkk,hcy,rfl,rfl,hB,hUo,hb,hlen,hv⟩:=hrel;have HB:=Hd hB;have HUO:=Hd hUo;clear hB hUo;by_cases hA:kk<m.length\/0<cy
    ·
     have hk2:kk<=m.length:=by
      rcases Nat.lt_or_ge kk m.length with h1 | h1
      · omega
      · exact qaa4 HU.out HU'.out HX.out h1 oo hv.out
     obtain ⟨z,hz⟩:=qab (xs:=o) (k:=j+kk) (by have:=hlen.out;omega);obtain ⟨hz0,hz1⟩:=HUO.out.get hz;have CY:=fun n=>qpb m kk a' c' (wr.drewN n) (H'.out.ext (xbw (below_drewN hb n)))
     obtain ⟨hy0,hy1⟩:=qbd HU'.out kk;have hstep:=fun c2 d y e=>qo3 l m o j kk cy c2 d z x y hz e hv.out
     have hcar:=fun (c2 d:Nat) (y:Int) (hy0:0<=y) (hy1:y<=65535)=>qph (z:=z.toNat) (x:=x.toNat) (y:=y.toNat) (c:=cy) (d:=d) (c2:=c2) oo oo oo hcy
     have cx:=xbw hb _ _ HCX.out;have cz:=HB.out.cell hz;have fz:=HB.out.frozen (j+kk);have hgl:=HB.out.lt;replace hstep:=fun c2 d=>hstep c2 d _ rfl
     revert CY hy0 hy1 hstep;generalize qag m kk=y;intro CY hy0 hy1 hstep;have HZ:=Hd hz;have HS:=Hd hstep;have HC:=Hd hcar;clear hz hstep hcar;have hxy:0<=x*y:=Int.mul_nonneg hx0 hy0;have hxy2:x*y<=4294836225:=by
      have:=Int.mul_le_mul hx1 hy1 hy0 oo
      omega
     have wi1:IntKind.i64.wrap ((j:Int)+kk)=(j:Int)+kk:=IntWalk.i64_in _ oo;have wu1:IntKind.u64.wrap (x*y)=x*y:=IntWalk.u64_in _ oo;have wu2:IntKind.u64.wrap (z+x*y)=z+x*y:=IntWalk.u64_in _ oo;have wu3:IntKind.u64.wrap (z+x*y+cy)=z+x*y+cy:=IntWalk.u64_in _ oo;have wx:IntKind.u64.wrap x=x:=IntWalk.u64_in _ oo;have wz:IntKind.u64.wrap z=z:=IntWalk.u64_in _ oo;have wy:IntKind.u64.wrap y=y:=IntWalk.u64_in _ oo;have hji:(0:Int)<=(j:Int)+kk:=oo
     have hjt:((j:Int)+kk).toNat=j+kk:=oo
     have hsl:(j:Int)+kk<(l.length:Int)+m.length+1:=oo
     replace CY:=Hd CY;by_cases hkl:kk<m.length
     all_goals
      go_wp2
      go_quiet ((go_at_call 75;exact Calls.quiet_of_same (CY.out _)))
      clear wi1 wu1 wu2 wu3 wy wx wz hjt;go_wp2
      go_roundw
      case rel =>
       obtain ⟨s,es⟩:∃ s:Nat,(s:Int)=z+x*y+cy:=⟨(z+x*y+cy).toNat,oo⟩
       have es2:s=z.toNat+x.toNat*y.toNat+cy:=by
        have ex:(x.toNat:Int)=x:=oo
        have ey:(y.toNat:Int)=y:=oo
        have ez:(z.toNat:Int)=z:=oo
        have:((z.toNat+x.toNat*y.toNat+cy:Nat):Int)=z+x*y+cy:=by
         rw [Int.natCast_add,Int.natCast_add,Int.natCast_mul,ex,ey,ez]
        omega
       have em:(z+x*y+(cy:Int)) % 65536=((s % 65536:Nat):Int):=oo
       have ed:(z+x*y+(cy:Int)) / 65536=((s / 65536:Nat):Int):=oo
       have hd:s % 65536+65536*(s / 65536)=z.toNat+x.toNat*y.toNat+cy:=oo
       have hset:BlkN ((wr.drewN nq).setCell ⟨w.heap.size,j+kk,none⟩ (.int .u16 ((z+x*y+(cy:Int)) % 65536))) w.heap.size (o.set (j+kk) ((s % 65536:Nat):Int)):=by
        rw [em];exact BlkN.set_ (show BlkN (wr.drewN nq) w.heap.size o from HB.out) _ _
       exact ⟨s / 65536,kk+1,o.set (j+kk) ((s % 65536:Nat):Int),oo,HC.out _ _ y hy0 hy1 hd,by rw [ed],by go_num,hset,HUO.out.set_ oo,
        (below_drewN hb nq).setCell (p:=⟨w.heap.size,j+kk,none⟩) (nlr _) _,by show _=_;rw [List.length_set,hlen.out],HS.out _ _ hd⟩
      case measure=>simp [intOf];omega
    ·
     obtain rfl:cy=0:=oo
     have hk2:m.length<=kk:=oo
     have hfin:val o=val (l.take (j+1))*val m:=by
      have:=hv.out;rw [qaz hk2,qmc l m j x HX.out] at this;simpa using this
     replace hfin:=Hd hfin;go_wp2
     go_roundw
     case rel=>exact ⟨j+1,o,oo,by go_num,HB.out,HUO.out,hb,hlen.out,hfin.out⟩
     case measure=>simp [intOf];omega
  ·
   obtain rfl:j=l.length:=oo
   have hval:val o=n1*n2:=by
    have:=hv.out;rw [this,qaz (nlr _),HN.out,HK.out]
   have hol:=hlen.out;have CN:=qbk o (some ⟨w.heap.size,0,none⟩) (l.length+m.length+1) wr (hB.readsV (nlr _) (New.refl _ _) hUo oo (by simp [maxLen];omega)) oo;rw [hval,hlen.out] at CN;replace CN:=Hd CN;clear hval hol;go_wp2_with (go_at_call 73;refine CN.out.mono ?_;rintro e w2 ⟨a2,c2,rfl,hV,hb2⟩);go_ret;exact ⟨a2,c2,rfl,fun V hV'=>hV V (hV'.base hb.size),bth hb hb2⟩
theorem qqn (l m:List Int) (n1 n2:Nat) (a a':Option Addr) (c c':Nat) (w:World) (h:NatR w a c l) (h':NatR w a' c' m) (hn:val l=n1) (hk:val m=n2) (hl:l.length<=4000000) (hm:m.length<=4000000)
  (h0:0<n2) (hq:n1 / n2<=65535) :
  Calls Tryz.prog 126 #[.slice a l.length c,.slice a' m.length c'] w fun e w'=>e=.returned (.int .u64 ((n1 / n2:Nat):Int))/\Below w.heap.size w w':=by
 have H:=Hd h;have H':=Hd h';have HN:=Hd hn;have HK:=Hd hk;obtain ⟨q,hqe⟩:=nm (n1 / n2)
 have hdiv:∀ d,d*n2<=n1↔d<=q:=fun d=>by rw [<- hqe];exact (Nat.le_div_iff_mul_le h0).symm
 rw [hqe] at hq ⊢;have HD:=Hd hdiv;clear h h' hn hk hqe hdiv;go_enter Tryz.func126,Tryz.ntmps126;go_wp2
 go_loopw [5,6,7] (fun x y _ wr=>∃ lo hi:Nat,lo<=q/\q<=hi/\hi<=65535/\x=.int .u64 lo/\y=.int .u64 hi/\Below w.heap.size w wr) (fun x y _ _=>(intOf y).toNat-(intOf x).toNat)
 case atStart=>exact ⟨0,65535,oo,oo,oo,rfl,rfl,Below.refl _ _⟩
 case round =>
  obtain ⟨lo,hi,hlo,hhi,hhi2,rfl,rfl,hb⟩:=hrel;by_cases hlt:lo<hi
  ·
   obtain ⟨d,hd⟩:∃ d:Nat,d=(lo+hi+1) / 2:=⟨_,rfl⟩
   have hd1:lo<d:=oo
   have hd2:d<=hi:=oo
   have hde:((lo:Int)+hi+1) / 2=(d:Int):=oo
   have hd3:d<18446744073709551616:=oo
   have HDE:=Hd hde;clear hd hde;have CO:=fun w=>qc4 d w hd3
   replace CO:=Hd CO;go_wp2_with fail;rw [HDE.out];refine (CO.out _).mono ?_;rintro e w1 ⟨a1,c1,rfl,hV1,hb1⟩;have hbw1:=bth hb hb1;have hr1:=hV1 w1 (New.refl _ _);have hlen1:(limbs d).length<=1:=qam oo;have CM:=qfn m (limbs d) n2 d a' a1 c' c1 w1 (H'.out.ext (xbw hbw1)) hr1 HK.out (qac d) oo oo;replace CM:=Hd CM;clear hV1 hr1 hb1 hb CO;go_wp2_with fail;refine CM.out.mono ?_;rintro e w2 ⟨a2,c2,rfl,hV2,hb2⟩;have hbw2:=bth hbw1 hb2;have hr2:=hV2 w2 (New.refl _ _);have hlen2:(limbs (n2*d)).length<=4000001:=by
    have h1:=qa0 n2 d;have h2:=qah H'.out.u16;rw [HK.out] at h2
    omega
   have CC:=qfq (limbs (n2*d)) l a2 a c2 c w2 hr2 (H.out.ext (xbw hbw2)) oo oo;rw [qac,HN.out] at CC;have hcm:cmpN (n2*d) n1<=0↔d<=q:=by rw [qzq,Nat.mul_comm];exact HD.out d
   revert CC hcm;generalize cmpN (n2*d) n1=cv;intro CC hcm;replace CC:=Hd CC;clear hV2 hr2 hb2 hbw1 CM hlen2 hlen1;by_cases hle:d<=q
   ·
    have hcv:decide (cv<=0)=true:=by simpa using hcm.2 hle
    clear hcm;go_wp2_with fail;refine CC.out.mono ?_;rintro e w3 ⟨rfl,rfl⟩;go_wp2
    go_roundw
    case rel=>exact ⟨d,hi,hle,hhi,hhi2,rfl,rfl,hbw2⟩
    case measure=>simp [intOf];omega
   ·
    have hcv:decide (cv<=0)=false:=by simp;have:=fun h=>hle (hcm.1 h);omega
    clear hcm;go_wp2_with fail;refine CC.out.mono ?_;rintro e w3 ⟨rfl,rfl⟩;go_wp2
    go_roundw
    case rel=>exact ⟨lo,d-1,hlo,oo,oo,rfl,qd7 oo,hbw2⟩
    case measure=>simp [intOf];omega
  ·
   obtain rfl:lo=q:=oo
   go_wp2;go_ret;exact ⟨rfl,hb⟩
def RetDM (n1 n2 : Nat) (w : World) (e : Ending) (w' : World) : Prop := ∃ a1 c1 a2 c2, e = .returned (.tuple #[.slice a1 (limbs (n1 / n2)).length c1, .slice a2 (limbs (n1 % n2)).length c2, .int .i64 0]) ∧
   (∀ V,New w.heap.size w' V->NatR V a1 c1 (limbs (n1 / n2)))/\(∀ V,New w.heap.size w' V->NatR V a2 c2 (limbs (n1 % n2)))/\Below w.heap.size w w'
theorem qlx (l m:List Int) (n1 n2:Nat) (a a':Option Addr) (c c':Nat) (w:World) (h:NatR w a c l) (h':NatR w a' c' m) (hn:val l=n1) (hk:val m=n2) (hl:l.length<=2000000) (hm:m.length<=2000000)
  (h0:0<n2) (hs1:(limbs n1).length<=4) (hs2:(limbs n2).length<=4) :
  Calls Tryz.prog 74 #[.slice a l.length c,.slice a' m.length c'] w (RetDM n1 n2 w):=by
 have H:=Hd h;have H':=Hd h';have C1:=qbk l a c w h oo;rw [hn] at C1;replace C1:=Hd C1;have hv1:n1<18446744073709551616:=by have:=qa3 n1;have h2:=Nat.pow_le_pow_right (show 0<65536 by omega) hs1;omega
 have hv2:n2<18446744073709551616:=by have:=qa3 n2;have h2:=Nat.pow_le_pow_right (show 0<65536 by omega) hs2;omega
 have hne:((limbs n2).length:Int)≠0:=by have:=qat.2 h0;omega
 have hbz:(((limbs n2).length:Int)==0)=false:=by simpa using hne
 have hd1:decide (((limbs n1).length:Int)<=4)=true:=by simp;omega
 have hd2:decide (((limbs n2).length:Int)<=4)=true:=by simp;omega
 have HK:=Hd hk;clear h h' hn hne hs1 hs2 hk;go_enter Tryz.func74,Tryz.ntmps74;go_wp2_with fail;refine C1.out.mono ?_;rintro e w1 ⟨a1,c1,rfl,hV1,hb1⟩;have C2:=qbk m a' c' w1 (H'.out.ext (xbw hb1)) oo;rw [HK.out] at C2;replace C2:=Hd C2;clear C1;have HV1:=Hd hV1;clear hV1;go_wp2_with fail;refine C2.out.mono ?_;rintro e w2 ⟨a2,c2,rfl,hV2,hb2⟩;have hb:=bth hb1 hb2;have hr1:=HV1.out w2 ((New.refl _ w2).below hb2);have hr2:=hV2 w2 (New.refl _ _);have S1:=fun W (hW:Below w2.heap.size w2 W)=>qjo (limbs n1) a1 c1 W (hr1.ext (xbw hW)) (by rw [qac];exact hv1)
 have S2:=fun W (hW:Below w2.heap.size w2 W)=>qjo (limbs n2) a2 c2 W (hr2.ext (xbw hW)) (by rw [qac];exact hv2)
 rw [qac] at S1 S2;replace S1:=Hd S1;replace S2:=Hd S2;have hz2:((n2:Int)==0)=false:=by simp;omega
 clear hV2 hb1 hb2 C2 HV1 hr1 hr2;have hq1:n1 / n2<18446744073709551616:=Nat.lt_of_le_of_lt (Nat.div_le_self _ _) hv1;have hq2:n1 % n2<18446744073709551616:=Nat.lt_of_le_of_lt (Nat.mod_le _ _) hv1;have hm1:IntKind.u64.wrap ((n1:Int) / n2)=((n1 / n2:Nat):Int):=by
  have e:((n1:Int) / n2)=((n1 / n2:Nat):Int):=by simp
  rw [e];exact IntWalk.u64_in _ ⟨Int.natCast_nonneg _,oo⟩
 have hm2:((n1:Int) % n2)=((n1 % n2:Nat):Int):=by simp
 have HM1:=Hd hm1;have HM2:=Hd hm2;have CO1:=fun w=>qc4 (n1 / n2) w hq1
 have CO2:=fun w=>qc4 (n1 % n2) w hq2
 replace CO1:=Hd CO1;replace CO2:=Hd CO2;have hn2:(1:Int)<=n2:=oo
 clear hm1 hm2 hq1 hq2 hv1 hv2;go_wp2_with fail;refine (S1.out _ brf).mono ?_;rintro e w3 ⟨rfl,rfl⟩;go_wp2_with fail;refine (S2.out _ brf).mono ?_;rintro e w3 ⟨rfl,rfl⟩;go_wp2_with fail;rw [HM1.out];refine (CO1.out _).mono ?_;rintro e w3 ⟨a3,c3,rfl,hV3,hb3⟩;have HV3:=Hd hV3;clear hV3;go_wp2_with fail;refine (S1.out _ hb3).mono ?_;rintro e w4 ⟨rfl,rfl⟩;go_wp2_with fail;refine (S2.out _ hb3).mono ?_;rintro e w4 ⟨rfl,rfl⟩;go_wp2_with fail;rw [HM2.out];refine (CO2.out _).mono ?_;rintro e w4 ⟨a4,c4,rfl,hV4,hb4⟩;have HV4:=Hd hV4;clear hV4;go_wp2;go_ret3;exact ⟨a3,c3,a4,c4,rfl,fun V hV=>HV3.out V ((hV.below hb4).base hb.size),fun V hV=>HV4.out V (hV.base (Nat.le_trans hb.size hb3.size)),bth (bth hb hb3) hb4⟩
theorem qor (w:World) (x:Int) {B:Nat} (hB:B<=w.heap.size):OwnN B (w.alloc (.cells #[.int .u16 x] 105)) (some ⟨w.heap.size,0,none⟩) 1 [x] :=
 BlkN.own (l:=[x]) (Blk.new w _ _) hB (by simp [maxLen])
theorem qye {n1 n2 q r:Nat} (h:n1=q*n2+r) (hr:r<n2):q=n1 / n2/\r=n1 % n2:=by
 subst h
 constructor
 · rw [Nat.mul_comm,Nat.mul_add_div oo,Nat.div_eq_of_lt hr,Nat.add_zero]
 · rw [Nat.mul_comm,Nat.mul_add_mod,Nat.mod_eq_of_lt hr]
theorem qpo (l m:List Int) (n1 n2:Nat) (a a':Option Addr) (c c':Nat) (w:World) (h:NatR w a c l) (h':NatR w a' c' m) (hn:val l=n1) (hk:val m=n2) (hl:l.length<=2000000) (hm:m.length<=2000000)
  (h0:0<n2) (hs:¬ ((limbs n1).length<=4/\(limbs n2).length<=4)) :
  Calls Tryz.prog 74 #[.slice a l.length c,.slice a' m.length c'] w (RetDM n1 n2 w):=by
 have H:=Hd h;have H':=Hd h';have C1:=qbk l a c w h oo;rw [hn] at C1;replace C1:=Hd C1;have hne:((limbs n2).length:Int)≠0:=by have:=qat.2 h0;omega
 have hbz:(((limbs n2).length:Int)==0)=false:=by simpa using hne
 have hL1:(limbs n1).length<=2000000:=by have:=qah h.u16;rw [hn] at this;omega
 have hL2:(limbs n2).length<=2000000:=by have:=qah h'.u16;rw [hk] at this;omega
 have HK:=Hd hk;clear h h' hn hne hk;have hcase:decide (((limbs n1).length:Int)<=4)=true/\decide (((limbs n2).length:Int)<=4)=false\/decide (((limbs n1).length:Int)<=4)=false:=by
  simp;omega
 clear hs;go_enter Tryz.func74,Tryz.ntmps74;go_wp2_with fail;refine C1.out.mono ?_;rintro e w1 ⟨a1,c1,rfl,hV1,hb1⟩;have C2:=qbk m a' c' w1 (H'.out.ext (xbw hb1)) oo;rw [HK.out] at C2;replace C2:=Hd C2;clear C1;have HV1:=Hd hV1;clear hV1;go_wp2_with fail;refine C2.out.mono ?_;rintro e w2 ⟨a2,c2,rfl,hV2,hb2⟩;have hb:=bth hb1 hb2;have HA:=Hd (HV1.out w2 ((New.refl _ w2).below hb2));have HM:=Hd (hV2 w2 (New.refl _ _));clear hV2 hb1 hb2 C2 HV1 H H' HK;have hnb:∃ b1 b2:Bool,decide (((limbs n1).length:Int)<=4)=b1/\decide (((limbs n2).length:Int)<=4)=b2/\(b1&&b2)=false:=⟨_,_,rfl,rfl,by rcases hcase with ⟨h1,h2⟩ | h1 <;> simp [h1] <;> simp_all⟩
 rcases hcase with ⟨hc1,hc2⟩ | hc1
 all_goals
  go_wp2;clear hnb
  go_loopw [7,8,9,10] (fun sq sr i _ wr=>∃ (k:Nat) (ql:List Int) (rv:Nat) (aq:Option Addr) (cq:Nat) (ar:Option Addr) (cr:Nat),k<=(limbs n1).length/\i=.int .i64 ((k:Int)-1)/\sq=.slice aq ql.length cq/\sr=.slice ar (limbs rv).length cr /\
   Hid (∀ V,New w.heap.size wr V->NatR V aq cq ql)/\Hid (∀ V,New w.heap.size wr V->NatR V ar cr (limbs rv))/\rv<n2/\Below w.heap.size w wr/\Below w2.heap.size w2 wr/\Hid (val ((limbs n1).drop k)=val ql*n2+rv)/\Hid (ql.length+k=(limbs n1).length)) (fun _ _ i _ _=>(intOf i+1).toNat)
  case atStart=>exact ⟨(limbs n1).length,[],0,none,0,none,0,nlr _,rfl,rfl,by rw [qao];rfl,fun _ _=>SlR.nil,fun _ _=>by rw [qao];exact SlR.nil,h0,hb,Below.refl _ _,by show _=_;rw [qaw (nlr _)];simp [val],by show _=_;simp⟩
  case round =>
   clear hb;obtain ⟨k,ql,rv,aq,cq,ar,cr,hk,rfl,rfl,rfl,HQ,HR,hrv,hb,hb2,hv,hlq⟩:=hrel;by_cases hk0:k=0
   ·
    subst hk0;have hfin:val ql=n1 / n2/\rv=n1 % n2:=by
     have:=hv.out;simp only [List.drop_zero,qac] at this;exact qye this hrv
    obtain ⟨hf1,hf2⟩:=hfin;have CN:=qbk ql aq cq wr (HQ.out wr (New.refl _ _)) (by have:=hlq.out;omega);rw [hf1] at CN;replace CN:=Hd CN;have HF2:=Hd hf2;clear hf1 hf2;go_wp2_with fail;refine CN.out.mono ?_;rintro e w3 ⟨a3,c3,rfl,hV3,hb3⟩;have HV3:=Hd hV3;clear hV3 CN;go_wp2;go_ret3;have e2:=HF2.out;have hR:=HR.out;subst e2;exact ⟨a3,c3,ar,cr,rfl,fun V hV=>HV3.out V (hV.base hb.size),fun V hV=>hR V (hV.below hb3),bth hb hb3⟩
   ·
    have hgt:decide ((0:Int)<=(k:Int)-1)=true:=by simp;omega
    have hge:(0:Int)<=(k:Int)-1:=oo
    obtain ⟨x,hx⟩:=qab (xs:=limbs n1) (k:=k-1) oo;obtain ⟨ba,oa,rfl,hcx⟩:=(HA.out.ext (xbw hb2)).cell hx;obtain ⟨hx0,hx1⟩:=(qa9 n1).get hx;obtain ⟨N,hN⟩:∃ N,N=x.toNat+65536*rv:=⟨_,rfl⟩
    have hqd:N / n2<=65535:=by rw [hN];exact qmu oo hrv
    have hqm:N=N / n2*n2+N % n2:=by rw [Nat.mul_comm];exact (Nat.div_add_mod N n2).symm
    have hrm:N % n2<n2:=Nat.mod_lt _ h0;have hvd:=qos (limbs n1) ql (k-1) n2 rv (N / n2) (N % n2) x hx (by rw [show k-1+1=k by omega];exact hv.out) (by rw [<- hN];exact hqm);have hle:n2*(N / n2)<=N:=Nat.mul_div_le N n2;have hsub:N-n2*(N / n2)=N % n2:=by have:=Nat.div_add_mod N n2;omega
    have hNl:(limbs N).length<=2000001:=by
     refine Nat.le_trans (qam (k:=(limbs n2).length+1) ?_) oo;have:=qa3 n2;rw [Nat.pow_succ]
     omega
    obtain ⟨d,hd⟩:=nm (N / n2)
    obtain ⟨r2,hr2⟩:=nm (N % n2)
    rw [hd] at hqd hqm hvd hle hsub;rw [hr2] at hqm hrm hvd hsub;have HD:=Hd hd;clear hd hr2;have hrl:(limbs rv).length<=2000000:=Nat.le_trans (qap (Nat.le_of_lt hrv)) hL2;have HVD:=Hd hvd;have HSUB:=Hd hsub;have HN:=Hd hN;have HQM:=Hd hqm;have HLE:=Hd hle;have HL:=Hd hNl;have HRL:=Hd hrl;clear hx hN hvd hsub hqm hle hNl hrl;go_wp2_with (at_builtin;go_must (refine qec (B:=wr.heap.size) rfl (.tmp 49) (.tmp 50) rfl (some ⟨wr.heap.size,0,none⟩) 1 (l:=[x]) rfl (qor wr x (nlr _)) ar cr (m:=limbs rv) rfl (HR.out _ ((New.refl _ _).unalloc)) (x :: limbs rv) rfl (by have:=HRL.out;simp;omega) (by simp) ?_);intro a3 c3 w3 hown3 hg3 hbb3);have hb3:Below wr.heap.size wr w3:=((Below.refl _ wr).alloc (nlr _) _).trans hbb3;have hu3:U16 (x :: limbs rv):=U16.cons ⟨hx0,hx1⟩ (qa9 rv);have CN:=qbk (x :: limbs rv) a3 c3 w3 (hown3.reads1 hu3) (by have:=HRL.out;simp;omega)
    have ev:val (x :: limbs rv)=N:=by rw [HN.out,val,qac]
    rw [ev] at CN;replace CN:=Hd CN;clear hown3 hg3 hbb3 hu3 ev hcx;refine CN.out.mono ?_;rintro e w4 ⟨a4,c4,rfl,hV4,hb4⟩;have HV4:=Hd hV4;replace hb4:=bth hb3 hb4;clear hV4 CN hb3;have CD:=qqn (limbs N) (limbs n2) N n2 a4 a2 c4 c2 w4 (HV4.out w4 (New.refl _ _)) (HM.out.ext (xbw (bth hb2 hb4))) (qac N) (qac n2) (by have:=HL.out;omega) oo h0 (by rw [HD.out];exact hqd);rw [HD.out] at CD;replace CD:=Hd CD;go_wp2_with fail;refine CD.out.mono ?_;rintro e w5 ⟨rfl,hb5⟩;have hb45:=hb5;replace hb5:=bth hb4 hb5;clear CD;have hdd:(d:Int)<=65535:=oo
    go_wp2_with (at_builtin;go_must (refine qec (B:=w5.heap.size) rfl (.tmp 58) (.tmp 59) rfl (some ⟨w5.heap.size,0,none⟩) 1 (l:=[(d:Int)]) rfl (qor w5 d (nlr _)) aq cq (m:=ql) rfl (HQ.out _ ((New.refl _ _).unalloc.below hb5)) ((d:Int) :: ql) rfl (by have:=hlq.out;simp;omega) (by simp) ?_);intro a6 c6 w6 hown6 hg6 hbb6);have hb56:Below w5.heap.size w5 w6:=((Below.refl _ w5).alloc (nlr _) _).trans hbb6;have hb6:=bth hb5 hb56;have hu6:U16 ((d:Int) :: ql):=U16.cons oo (HQ.out wr (New.refl _ _)).u16;have HO6:=Hd hown6;clear hown6 hg6 hbb6;have CO:=qc4 d w6 oo;replace CO:=Hd CO;refine CO.out.mono ?_;rintro e w7 ⟨a7,c7,rfl,hV7,hb67⟩;have hb7:=bth hb6 hb67;have CM:=qfn (limbs n2) (limbs d) n2 d a2 a7 c2 c7 w7 (HM.out.ext (xbw (bth hb2 hb7))) (hV7 w7 (New.refl _ _)) (qac _) (qac _) oo (by have:=qam (n:=d) (k:=1) oo;omega);replace CM:=Hd CM;clear hV7 CO
    go_wp2_with fail;refine CM.out.mono ?_;rintro e w8 ⟨a8,c8,rfl,hV8,hb78⟩;have hb8:=bth hb7 hb78;have hp8:(limbs (n2*d)).length<=4000001:=by
     have h1:=qa0 n2 d;have h2:=qam (n:=d) (k:=1) oo
     omega
    have CS:=qi6 (limbs N) (limbs (n2*d)) N (n2*d) a4 a8 c4 c8 w8 (HV4.out w8 ((New.refl _ w8).below (bth hb45 (bth hb56 (bth hb67 hb78))))) (hV8 w8 (New.refl _ _)) (qac _) (qac _) (by have:=HL.out;omega) oo HLE.out;rw [HSUB.out] at CS;replace CS:=Hd CS;clear hV8 CM hp8;go_wp2_with fail;refine CS.out.mono ?_;rintro e w9 ⟨a9,c9,rfl,hV9,hb89⟩;have hb9:=bth hb8 hb89;have HV9:=Hd hV9;clear hV9 CS;go_wp2
    go_roundw
    case rel=>exact ⟨k-1,(d:Int) :: ql,r2,a6,c6,a9,c9,oo,by first | (congr 1;omega) | rfl,by simp,rfl,
     fun V hV=>HO6.out.readsV ((hV.below (bth hb67 (bth hb78 hb89))).base (Nat.le_trans hb.size hb5.size)) hu6,fun V hV=>HV9.out V (hV.base (Nat.le_trans hb.size hb8.size)),hrm,bth hb hb9,bth hb2 hb9,HVD.out,by have:=hlq.out;show _=_;simp;omega⟩
    case measure=>simp [intOf];omega
theorem qge (l m:List Int) (n1 n2:Nat) (a a':Option Addr) (c c':Nat) (w:World) (h:NatR w a c l) (h':NatR w a' c' m) (hn:val l=n1) (hk:val m=n2) (hl:l.length<=2000000) (hm:m.length<=2000000)
  (h0:0<n2) :
  Calls Tryz.prog 74 #[.slice a l.length c,.slice a' m.length c'] w (RetDM n1 n2 w):=by
 by_cases hs:(limbs n1).length<=4/\(limbs n2).length<=4
 · exact qlx l m n1 n2 a a' c c' w h h' hn hk hl hm h0 hs.1 hs.2
 · exact qpo l m n1 n2 a a' c c' w h h' hn hk hl hm h0 hs
theorem qm3 (l m:List Int) (n1 n2:Nat) (a a':Option Addr) (c c':Nat) (w:World) (h:NatR w a c l) (h':NatR w a' c' m) (hn:val l=n1) (hk:val m=n2) (hl:l.length<=2000000) (hm:m.length<=2000000) :
  Calls Tryz.prog 71 #[.slice a l.length c,.slice a' m.length c'] w (RetN (limbs (Nat.gcd n1 n2)) w):=by
 have H:=Hd h;have H':=Hd h';have C1:=qbk l a c w h oo;rw [hn] at C1;replace C1:=Hd C1;have hL1:(limbs n1).length<=2000000:=by have:=qah h.u16;rw [hn] at this;omega
 have hL2:(limbs n2).length<=2000000:=by have:=qah h'.u16;rw [hk] at this;omega
 have HK:=Hd hk;clear h h' hn hk;go_enter Tryz.func71,Tryz.ntmps71;go_wp2_with fail;refine C1.out.mono ?_;rintro e w1 ⟨a1,c1,rfl,hV1,hb1⟩;have C2:=qbk m a' c' w1 (H'.out.ext (xbw hb1)) oo;rw [HK.out] at C2;replace C2:=Hd C2;have HV1:=Hd hV1;clear hV1 C1;go_wp2_with fail;refine C2.out.mono ?_;rintro e w2 ⟨a2,c2,rfl,hV2,hb2⟩;have hb:=bth hb1 hb2;have HV2:=Hd hV2;clear hV2 C2 H H' HK;go_wp2
 go_loopg [0,1,5,6,7] n2 (fun g sx sy _ _ _ wr=>∃ (x:Nat) (ax:Option Addr) (cx:Nat) (ay:Option Addr) (cy:Nat),sx=.slice ax (limbs x).length cx/\sy=.slice ay (limbs g).length cy/\(∀ V,New w.heap.size wr V->NatR V ax cx (limbs x)) /\
  (∀ V,New w.heap.size wr V->NatR V ay cy (limbs g))/\(limbs x).length<=2000000/\(limbs g).length<=2000000/\Below w.heap.size w wr/\Nat.gcd x g=Nat.gcd n1 n2)
 case atStart=>exact ⟨n1,a1,c1,a2,c2,rfl,rfl,fun V hV=>HV1.out V (hV.below hb2),fun V hV=>HV2.out V (hV.base hb1.size),hL1,hL2,hb,rfl⟩
 case round =>
  obtain ⟨x,ax,cx,ay,cy,rfl,rfl,hx,hy,hlx,hly,hb',hg⟩:=hrel;have HX:=Hd hx;have HY:=Hd hy;have HG:=Hd hg;clear hx hy hg hb1 hb2 hb;by_cases h0:gk=0
  ·
   subst h0;have hgz:decide (0<(limbs 0).length)=false:=by rw [qao];rfl
   have hX:=HX.out;have hgc:limbs (Nat.gcd n1 n2)=limbs x:=by rw [<- HG.out,Nat.gcd_zero_right]
   have HGC:=Hd hgc;clear hgc;replace hX:=Hd hX;go_wp2;go_ret;rw [HGC.out];exact ⟨ax,cx,rfl,hX.out,hb'⟩
  ·
   have hgz:decide (0<(limbs gk).length)=true:=by have:=qat (n:=gk);simp;omega
   have CD:=qge (limbs x) (limbs gk) x gk ax ay cx cy wr (HX.out wr (New.refl _ _)) (HY.out wr (New.refl _ _)) (qac _) (qac _) hlx hly oo;replace CD:=Hd CD;have hr:x % gk<gk:=Nat.mod_lt _ oo;have hgr:Nat.gcd gk (x % gk)=Nat.gcd n1 n2:=by rw [<- HG.out,Nat.gcd_comm x gk,Nat.gcd_rec gk x,Nat.gcd_comm]
   have HGR:=Hd hgr;have hlr:(limbs (x % gk)).length<=2000000:=Nat.le_trans (qap (Nat.le_of_lt hr)) hly;clear hgr;go_wp2_with fail;refine CD.out.mono ?_;rintro e w3 ⟨a3,c3,a4,c4,rfl,hV3,hV4,hb3⟩;have HV4:=Hd hV4;clear hV3 hV4 CD;go_wp2;go_roundg (x % gk)
   case rel=>exact ⟨gk,ay,cy,a4,c4,rfl,rfl,fun V hV=>HY.out V (hV.below hb3),fun V hV=>HV4.out V (hV.base hb'.size),hly,hlr,bth hb' hb3,HGR.out⟩
   case measure=>exact hr
structure Rt where
 neg:Bool
 num:List Int
 den:List Int
def Rt.val (r:Rt) (na:Option Addr) (nc:Nat) (da:Option Addr) (dc:Nat):Value:=.agg #[.bool r.neg,.slice na r.num.length nc,.slice da r.den.length dc]
structure Step where
 kind:Int
 point:ByteArray
 args:List Int
 ratio:Rt
structure Fct where
 kind:Int
 args:List Int
 ratio:Rt
structure Fig where
 steps:List Step
 goals:List Fct
def Fct.val (f:Fct) (aa:Option Addr) (ac:Nat) (na:Option Addr) (nc:Nat) (da:Option Addr) (dc:Nat):Value:=.agg #[.int .i64 f.kind,.slice aa f.args.length ac,.bool f.ratio.neg,.slice na f.ratio.num.length nc,.slice da f.ratio.den.length dc]
def Step.val (s:Step) (aa:Option Addr) (ac:Nat) (na:Option Addr) (nc:Nat) (da:Option Addr) (dc:Nat):Value:=.agg #[.int .i64 s.kind,.string s.point,.slice aa s.args.length ac,.bool s.ratio.neg,.slice na s.ratio.num.length nc,.slice da s.ratio.den.length dc]
structure RA where
 aa:Option Addr
 ac:Nat
 na:Option Addr
 nc:Nat
 da:Option Addr
 dc:Nat
def qci (w:World) (p:RA) (args:List Int) (r:Rt):Prop:=IntsR w p.aa p.ac args/\NatR w p.na p.nc r.num/\NatR w p.da p.dc r.den
theorem qci.ext {w w':World} {p:RA} {args:List Int} {r:Rt} (h:qci w p args r) (e:Ext w w'):qci w' p args r:=⟨h.1.ext e,h.2.1.ext e,h.2.2.ext e⟩
def StepC (w:World) (b o:Nat) (p:RA) (s:Step):Prop :=
 w.cell? ⟨b,o,none⟩=some (.int .i64 s.kind)/\w.cell? ⟨b,o+1,none⟩=some (.string s.point)/\w.cell? ⟨b,o+2,none⟩=some (.slice p.aa s.args.length p.ac) /\
 w.cell? ⟨b,o+3,none⟩=some (.bool s.ratio.neg)/\w.cell? ⟨b,o+4,none⟩=some (.slice p.na s.ratio.num.length p.nc)/\w.cell? ⟨b,o+5,none⟩=some (.slice p.da s.ratio.den.length p.dc)
def FctC (w:World) (b o:Nat) (p:RA) (s:Fct):Prop :=
 w.cell? ⟨b,o,none⟩=some (.int .i64 s.kind)/\w.cell? ⟨b,o+1,none⟩=some (.slice p.aa s.args.length p.ac) /\
 w.cell? ⟨b,o+2,none⟩=some (.bool s.ratio.neg)/\w.cell? ⟨b,o+3,none⟩=some (.slice p.na s.ratio.num.length p.nc)/\w.cell? ⟨b,o+4,none⟩=some (.slice p.da s.ratio.den.length p.dc)
theorem StepC.ext {w w':World} {b o:Nat} {p:RA} {s:Step} (h:StepC w b o p s) (e:Ext w w'):StepC w' b o p s :=
 ⟨e _ _ h.1,e _ _ h.2.1,e _ _ h.2.2.1,e _ _ h.2.2.2.1,e _ _ h.2.2.2.2.1,e _ _ h.2.2.2.2.2⟩
theorem FctC.ext {w w':World} {b o:Nat} {p:RA} {s:Fct} (h:FctC w b o p s) (e:Ext w w'):FctC w' b o p s :=
 ⟨e _ _ h.1,e _ _ h.2.1,e _ _ h.2.2.1,e _ _ h.2.2.2.1,e _ _ h.2.2.2.2⟩
def StepE (w:World) (b o:Nat) (s:Step):Prop:=∃ p,StepC w b o p s/\qci w p s.args s.ratio/\InInt s.kind/\s.point.size<=9223372036854775807
def FctE (w:World) (b o:Nat) (s:Fct):Prop:=∃ p,FctC w b o p s/\qci w p s.args s.ratio/\InInt s.kind
def qbi (w:World) (a:Option Addr) (c:Nat) (l:List Step):Prop:=SlR 6 StepE w a c l
def FctsR (w:World) (a:Option Addr) (c:Nat) (l:List Fct):Prop:=SlR 5 FctE w a c l
theorem qbi.ext {w w':World} {a:Option Addr} {c:Nat} {l:List Step} (h:qbi w a c l) (e:Ext w w'):qbi w' a c l :=
 SlR.mono h fun _ _ _ _ ⟨p,h1,h2,h3⟩=>⟨p,h1.ext e,h2.ext e,h3⟩
theorem FctsR.ext {w w':World} {a:Option Addr} {c:Nat} {l:List Fct} (h:FctsR w a c l) (e:Ext w w'):FctsR w' a c l :=
 SlR.mono h fun _ _ _ _ ⟨p,h1,h2,h3⟩=>⟨p,h1.ext e,h2.ext e,h3⟩
def Fig.val (f:Fig) (sa:Option Addr) (sc:Nat) (ga:Option Addr) (gc:Nat):Value:=.agg #[.slice sa f.steps.length sc,.slice ga f.goals.length gc]
def FigR (w:World) (sa:Option Addr) (sc:Nat) (ga:Option Addr) (gc:Nat) (f:Fig):Prop:=qbi w sa sc f.steps/\FctsR w ga gc f.goals
def Rt.few (r:Rt):Prop:=r.num.length<=2000000/\r.den.length<=2000000
def Fig.few (f:Fig):Prop:=(∀ s∈f.steps,s.ratio.few)/\(∀ g∈f.goals,g.ratio.few)
def qcv (neg:Bool) (num:List Int):Bool:=qch num && !(neg&&decide (num.length=0))
def Rt.right (r:Rt):Bool:=qcv r.neg r.num&&qch r.den&&decide (Nat.gcd (Go.Proofs.YtmdlbpibipnapaaGreat.val r.num) (Go.Proofs.YtmdlbpibipnapaaGreat.val r.den)=1)&&decide (0<r.den.length)
theorem qp9 (neg:Bool) (num:List Int) (a:Option Addr) (c:Nat) (w:World) (h:NatR w a c num) :
  Calls Tryz.prog 68 #[.agg #[.bool neg,.slice a num.length c]] w fun r w'=>r=.returned (.bool (qcv neg num))/\Below w.heap.size w w':=by
 have CV:=fun W (hW:bw w W)=>qjq num a c W (h.ext (xbw hW))
 obtain ⟨b1,hb1⟩:=nm (qch num)
 rw [hb1] at CV;replace CV:=Hd CV;unfold qcv;rw [hb1];clear hb1 h;by_cases h0:num.length=0
 ·
  have e0:((num.length:Int)==0)=true:=by simp [h0]
  have H0:=Hd h0;clear h0
  cases b1 <;> cases neg
  all_goals
   go_enter Tryz.func68,Tryz.ntmps68;go_wp2_with (go_at_call 69;refine (CV.out _ (brf.alloc (nlr _) _)).mono ?_;rintro e w' ⟨rfl,rfl⟩);go_ret;refine ⟨qbn ?_,brf.alloc (nlr _) _⟩;simp [H0.out]
 ·
  have e0:((num.length:Int)==0)=false:=by simp;exact fun e=>h0 (by simp [e])
  have H0:=Hd h0;clear h0
  cases b1 <;> cases neg
  all_goals
   go_enter Tryz.func68,Tryz.ntmps68;go_wp2_with (go_at_call 69;refine (CV.out _ (brf.alloc (nlr _) _)).mono ?_;rintro e w' ⟨rfl,rfl⟩);go_ret;refine ⟨qbn ?_,brf.alloc (nlr _) _⟩;simp [H0.out]
theorem qhc (r:Rt) (na:Option Addr) (nc:Nat) (da:Option Addr) (dc:Nat) (w:World) (h:NatR w na nc r.num) (h':NatR w da dc r.den) (hl:r.num.length<=2000000) (hm:r.den.length<=2000000) :
  Calls Tryz.prog 38 #[r.val na nc da dc] w fun e w'=>e=.returned (.bool r.right)/\Below w.heap.size w w':=by
 obtain ⟨neg,num,den⟩:=r;have CR:=fun W (hW:bw w W)=>qp9 neg num na nc W (h.ext (xbw hW))
 have CV:=fun W (hW:bw w W)=>qjq den da dc W (h'.ext (xbw hW))
 have CG:=fun W (hW:bw w W)=>qm3 num den (val num) (val den) na da nc dc W (h.ext (xbw hW)) (h'.ext (xbw hW)) rfl rfl hl hm
 have CS:=fun (xs ys:List Int) (a a':Option Addr) (c c':Nat) W=>qso xs ys a a' c c' W
 have CO:=fun W=>qc4 1 W oo
 obtain ⟨b1,hb1⟩:=nm (qcv neg num)
 obtain ⟨b2,hb2⟩:=nm (qch den)
 obtain ⟨b3,hb3⟩:=nm (decide (Nat.gcd (val num) (val den)=1))
 obtain ⟨b4,hb4⟩:=nm (decide (0<den.length))
 have hb4':decide ((0:Int)<(den.length:Int))=b4:=by rw [<- hb4];simp
 have hs:decide (limbs (Nat.gcd (val num) (val den))=limbs 1)=b3:=by rw [<- hb3];simp [qwz]
 rw [hb1] at CR;rw [hb2] at CV;have hres:Rt.right ⟨neg,num,den⟩=(b1&&b2&&b3&&b4):=by simp only [Rt.right,hb1,hb2,hb3,hb4]
 rw [hres];unfold Rt.val;dsimp only;dsimp only at hl hm;generalize Nat.gcd (val num) (val den)=g at CG hs;replace CR:=Hd CR;replace CV:=Hd CV;replace CG:=Hd CG;replace CS:=Hd CS;replace CO:=Hd CO;have HS:=Hd hs;have H4:=Hd hb4;clear hb1 hb2 hb3 hs hres h h' hb4
 cases b1
 ·
  clear hb4' H4 HS;go_enter Tryz.func38,Tryz.ntmps38;go_wp2_with fail;refine (CR.out _ (brf.alloc (nlr _) _)).mono ?_;rintro e w1 ⟨rfl,hb⟩;have hw:=((Below.refl _ w).alloc (nlr _) _).trans (hb.mono (by simp));go_wp2;go_ret;exact ⟨rfl,hw⟩
 ·
  cases b2
  ·
   clear hb4' H4 HS;go_enter Tryz.func38,Tryz.ntmps38;have hz:Blk (w.alloc (.cells #[.bool neg,.slice na num.length nc,.slice da den.length dc] 32)) w.heap.size 32 #[.bool neg,.slice na num.length nc,.slice da den.length dc]:=Blk.new w _ _;have hw0:Below w.heap.size w (w.alloc (.cells #[.bool neg,.slice na num.length nc,.slice da den.length dc] 32)):=brf.alloc (nlr _) _;go_wp2_with fail;revert hz hw0;generalize w.alloc (.cells #[.bool neg,.slice na num.length nc,.slice da den.length dc] 32)=w0;intro hz hw0;refine (CR.out _ hw0).mono ?_;rintro e w1 ⟨rfl,hb⟩;have hw1:=hw0.trans (hb.mono hw0.size);replace hz:=hz.below' hb;obtain ⟨z0,z1,z2⟩:=cq3 hz;clear hb hz hw0;go_wp2_with fail;refine (CV.out _ hw1).mono ?_;rintro e w2 ⟨rfl,rfl⟩;go_wp2;go_ret;exact ⟨rfl,hw1⟩
  ·
   have hz:Blk (w.alloc (.cells #[.bool neg,.slice na num.length nc,.slice da den.length dc] 32)) w.heap.size 32 #[.bool neg,.slice na num.length nc,.slice da den.length dc]:=Blk.new w _ _;have hw0:Below w.heap.size w (w.alloc (.cells #[.bool neg,.slice na num.length nc,.slice da den.length dc] 32)):=brf.alloc (nlr _) _
   cases b3 <;> cases b4
   all_goals
    go_enter Tryz.func38,Tryz.ntmps38;go_wp2_with fail;revert hz hw0;generalize w.alloc (.cells #[.bool neg,.slice na num.length nc,.slice da den.length dc] 32)=w0;intro hz hw0;refine (CR.out _ hw0).mono ?_;rintro e w1 ⟨rfl,hb⟩;have hw1:=hw0.trans (hb.mono hw0.size);replace hz:=hz.below' hb;obtain ⟨z0,z1,z2⟩:=cq3 hz;clear hb hw0;go_wp2_with fail;refine (CV.out _ hw1).mono ?_;rintro e w2 ⟨rfl,rfl⟩;go_wp2_with fail;refine (CG.out _ hw1).mono ?_;rintro e w2 ⟨a2,c2,rfl,hV2,hb2⟩;have hw2:=hw1.trans (hb2.mono hw1.size);replace hz:=hz.below' hb2;replace z0:=hz.cell 0;replace z1:=hz.cell 1;replace z2:=hz.cell 2;have HV2:=Hd hV2;clear hV2;go_wp2_with fail;refine (CO.out _).mono ?_;rintro e w3 ⟨a3,c3,rfl,hV3,hb3⟩;have hw3:=hw2.trans (hb3.mono hw2.size);replace hz:=hz.below' hb3;replace z0:=hz.cell 0;replace z1:=hz.cell 1;replace z2:=hz.cell 2
    have CS2:=CS.out (limbs g) (limbs 1) a2 a3 c2 c3 w3 (HV2.out w3 ((New.refl _ _).below hb3)) (hV3 w3 (New.refl _ _));rw [HS.out] at CS2;replace CS2:=Hd CS2;clear hV3;go_wp2_with fail;refine CS2.out.mono ?_;rintro e w4 ⟨rfl,hb4⟩;have hw4:=hw3.trans (hb4.mono hw3.size);replace hz:=hz.below' hb4;replace z0:=hz.cell 0;replace z1:=hz.cell 1;replace z2:=hz.cell 2;clear hb4 hb3 hb2 CS2;go_wp2;go_ret;exact ⟨qbn (by first | rfl | (rw [H4.out];rfl)),hw4⟩
def Itr (w:World) (g:Nat) (s:ByteArray) (pos:Nat):Prop:=w.heap[g]? = some (.stringIter s pos)
def qcx (w:World) (g:Nat) (s:ByteArray) (pos:Nat):World:={ w with heap:=w.heap.setIfInBounds g (.stringIter s pos) }
theorem qp2 {P:Program} (w:World) (g:Nat) (s:ByteArray) (pos:Nat) (ty:TypeId) (hi:Itr w g s pos) (h:pos<s.size) (ha:(s[pos]'h).toNat<128) :
  (Instr.next (.pointer (some ⟨g,0,none⟩)) true ty).run P w=.ok (.tuple #[.bool true,.int .i64 pos,.int .i32 (s[pos]'h).toNat]) (qcx w g s (pos+1)):=by
 unfold Itr at hi;simp only [Instr.next,getObj,setObj,Sem.run_bind,Sem.run,hi,Result.andThen,h,if_true,decode_ascii s pos h ha];simp [goInt,qcx]
theorem qnt {P:Program} (w:World) (g:Nat) (s:ByteArray) (pos:Nat) (ty:TypeId) (hi:Itr w g s pos) (h:¬ pos<s.size) :
  (Instr.next (.pointer (some ⟨g,0,none⟩)) true ty).run P w=.ok (.tuple #[.bool false]) w:=by
 unfold Itr at hi;simp [Instr.next,getObj,Sem.run,hi,h]
theorem Itr.lt {w:World} {g:Nat} {s:ByteArray} {pos:Nat} (h:Itr w g s pos):g<w.heap.size:=(Array.getElem?_eq_some_iff.1 h).1
theorem Itr.set {w:World} {g:Nat} {s:ByteArray} {pos:Nat} (h:Itr w g s pos) (pos':Nat):Itr (qcx w g s pos') g s pos':=by
 unfold Itr qcx;simp [h.lt]
theorem qp1 (w:World) (g:Nat) (s:ByteArray) (pos:Nat):(qcx w g s pos).heap.size=w.heap.size:=by simp [qcx]
theorem qr8 (w:World) (g:Nat) (s:ByteArray) (pos:Nat) (k:Nat) (hk:k≠g):(qcx w g s pos).heap[k]? = w.heap[k]?:=by
 simp [qcx,Ne.symm hk]
theorem qpe {B:Nat} {a w:World} (h:Below B a w) {g:Nat} (hg:B<=g) (s:ByteArray) (pos:Nat):Below B a (qcx w g s pos) :=
 h.trans ⟨rfl,rfl,rfl,by rw [qp1];exact nlr _,fun k hk=>qr8 _ _ _ _ _ oo⟩
def letB (c:Int):Bool:=decide (65<=c/\c<=90\/97<=c/\c<=122)
def digB (c:Int):Bool:=decide (48<=c/\c<=57)
def qbh:List ByteArray:=[⟨#[97,110,103,108,101]⟩,
 ⟨#[97,112,101,120]⟩,
 ⟨#[98,105,115,101,99,116,111,114]⟩,
 ⟨#[99,101,110,116,101,114]⟩,
 ⟨#[99,105,114,99,108,101]⟩,
 ⟨#[99,105,114,99,117,109]⟩,
 ⟨#[99,111,108,108,105,110,101,97,114]⟩,
 ⟨#[99,111,109,109,111,110]⟩,
 ⟨#[99,111,110,99,121,99,108,105,99]⟩,
 ⟨#[99,111,110,103,114,117,101,110,116]⟩,
 ⟨#[99,114,111,115,115]⟩,
 ⟨#[99,117,116]⟩,
 ⟨#[100,105,118,105,100,101]⟩,
 ⟨#[102,111,111,116]⟩,
 ⟨#[108,105,110,101]⟩,
 ⟨#[109,101,101,116]⟩,
 ⟨#[109,105,100,112,111,105,110,116]⟩,
 ⟨#[109,105,114,114,111,114]⟩,
 ⟨#[111,110]⟩,
 ⟨#[111,116,104,101,114]⟩,
 ⟨#[112,97,114,97,108,108,101,108]⟩,
 ⟨#[112,101,114,112,101,110,100,105,99,117,108,97,114]⟩,
 ⟨#[112,111,105,110,116,115]⟩,
 ⟨#[112,114,111,118,101]⟩,
 ⟨#[114,97,116,105,111]⟩,
 ⟨#[114,101,102,108,101,99,116]⟩,
 ⟨#[115,97,109,101]⟩,
 ⟨#[115,104,105,102,116]⟩,
 ⟨#[116,117,114,110]⟩]
def wordB (c:UInt8):Bool:=letB c.toNat||digB c.toNat
def headB (s:ByteArray):Bool:=match s.data.toList with
 | []=>false
 | c :: _=>letB c.toNat
def keyB (s:ByteArray):Bool:=qbh.any fun k=>decide (s=k)
def qbz (s:ByteArray):Bool:=decide (s.size<=20)&&headB s&&s.data.toList.all wordB && !keyB s
theorem qex:qbh.length=29:=rfl
theorem qlm {s:ByteArray} (h:0<s.size):headB s=letB ((s[0]'h).toNat:Nat):=by
 unfold headB;have h':0<s.data.toList.length:=by simpa using h
 have e:s.data.toList=s.data.toList[0] :: s.data.toList.drop 1:=by
  have:=List.drop_eq_getElem_cons (l:=s.data.toList) (i:=0) h';simpa using this
 rw [e]
 rfl
theorem qg1 {s:ByteArray}:s.size=0↔s=⟨#[]⟩:=by
 constructor
 ·
  intro h
  cases s with
  | mk d=>congr 1;exact Array.eq_empty_of_size_eq_zero h
 · intro h;subst h;rfl
theorem qkc {s:ByteArray} {k:Nat} (h:k<s.size):s.data.toList[k]? = some (s[k]'h):=by simp [h];rfl
theorem qih:qbz ⟨#[]⟩=false:=by decide
theorem qof {P:Program} (w:World) (g:Nat) (s:ByteArray) (pos:Nat) (hi:Itr w g s pos) (h:pos<s.size) :
  ∃ (r:Int) (n:Nat),(∀ ty:TypeId,(Instr.next (.pointer (some ⟨g,0,none⟩)) true ty).run P w=.ok (.tuple #[.bool true,.int .i64 pos,.int .i32 r]) (qcx w g s (pos+n)))/\((s[pos]'h).toNat<128->n=1):=by
 by_cases ha:(s[pos]'h).toNat<128
 · exact ⟨_,1,fun ty=>qp2 w g s pos ty hi h ha,fun _=>rfl⟩
 ·
  unfold Itr at hi;refine ⟨((Utf8.decode s pos).1:Nat),(Utf8.decode s pos).2,fun ty=>?_,fun h=>absurd h ha⟩;simp only [Instr.next,getObj,setObj,Sem.run_bind,Sem.run,hi,Result.andThen,h,if_true];simp [goInt,qcx]
def Rt.none (r:Rt):Bool:=!r.neg&&decide (r.num.length=0)&&decide (r.den.length=0)
def qba (k:Int):Int:=if k=1\/k=5 then 3 else if k=2\/k=3\/k=4\/k=6\/k=9 then 4 else if k=7 then 8 else if k=8 then 2 else 0
def qar (k:Int):Int:=if k=1 then 0 else if k=2\/k=5\/k=6\/k=14 then 2 else if k=3\/k=4\/k=7\/k=8\/k=10\/k=11 then 3 else if k=9\/k=12\/k=13 then 4 else -1
def qa1 (n a:Int):Bool:=decide (a<0\/n<=a)
def qb2 (f:Fct) (n:Int):Int :=
 if qba f.kind=0 then 8
 else if (f.args.length:Int)≠qba f.kind then 1
 else if f.args.any (qa1 n)=true then 2
 else if f.kind=9/\f.ratio.right=false then 1
 else if f.kind≠9/\f.ratio.none=false then 1
 else 0
def qbl (l:List Step) (s:Step) (i:Nat):Int :=
 if qar s.kind<0 then 8
 else if (s.args.length:Int)≠qar s.kind then 1
 else if s.args.any (qa1 i)=true then 2
 else if s.kind=2/\s.ratio.right=false then 1
 else if s.kind≠2/\s.ratio.none=false then 1
 else if s.point=⟨#[]⟩ then 0
 else if qbz s.point=false then 6
 else if (l.take i).any (fun t=>decide (t.point=s.point))=true then 7
 else 0
def qbf (l:List Step):List Step->Nat->Int
 | [],_=>0
 | s :: r,i=>if qbl l s i≠0 then qbl l s i else qbf l r (i+1)
def qcm (n:Int):List Fct->Int
 | []=>0
 | f :: r=>if qb2 f n≠0 then qb2 f n else qcm n r
def Fig.err (f:Fig):Int:=if 40<f.steps.length\/8<f.goals.length then 4 else if qbf f.steps f.steps 0≠0 then qbf f.steps f.steps 0 else qcm f.steps.length f.goals
theorem qan {a b:Int} (h:¬ a=b):(a==b)=false:=by simpa using h
theorem qp5 (k:Int) (w:World):Calls Tryz.prog 90 #[.int .i64 k] w fun e w'=>e=.returned (.int .i64 (qba k))/\w=w':=by
 by_cases hk:1<=k/\k<=9
 ·
  have hc:k=1\/k=2\/k=3\/k=4\/k=5\/k=6\/k=7\/k=8\/k=9:=oo
  clear hk;rcases hc with rfl | rfl | rfl | rfl | rfl | rfl | rfl | rfl | rfl
  all_goals
   go_enter Tryz.func90,Tryz.ntmps90;go_wp2;go_ret;exact ⟨qcq dd,rfl⟩
 ·
  have h1:=qan (a:=k) (b:=1) oo;have h2:=qan (a:=k) (b:=2) oo;have h3:=qan (a:=k) (b:=3) oo;have h4:=qan (a:=k) (b:=4) oo;have h5:=qan (a:=k) (b:=5) oo;have h6:=qan (a:=k) (b:=6) oo;have h7:=qan (a:=k) (b:=7) oo;have h8:=qan (a:=k) (b:=8) oo;have h9:=qan (a:=k) (b:=9) oo;have hr:qba k=0:=by unfold qba;rw [if_neg oo,if_neg oo,if_neg oo,if_neg oo]
  rw [hr];clear hr hk;go_enter Tryz.func90,Tryz.ntmps90;go_wp2;go_ret;exact ⟨rfl,rfl⟩
theorem qqs (k:Int) (w:World):Calls Tryz.prog 87 #[.int .i64 k] w fun e w'=>e=.returned (.int .i64 (qar k))/\w=w':=by
 by_cases hk:1<=k/\k<=14
 ·
  have hc:k=1\/k=2\/k=3\/k=4\/k=5\/k=6\/k=7\/k=8\/k=9\/k=10\/k=11\/k=12\/k=13\/k=14:=oo
  clear hk;rcases hc with rfl | rfl | rfl | rfl | rfl | rfl | rfl | rfl | rfl | rfl | rfl | rfl | rfl | rfl
  all_goals
   go_enter Tryz.func87,Tryz.ntmps87;go_wp2;go_ret;exact ⟨qcq dd,rfl⟩
 ·
  have h1:=qan (a:=k) (b:=1) oo;have h2:=qan (a:=k) (b:=2) oo;have h3:=qan (a:=k) (b:=3) oo;have h4:=qan (a:=k) (b:=4) oo;have h5:=qan (a:=k) (b:=5) oo;have h6:=qan (a:=k) (b:=6) oo;have h7:=qan (a:=k) (b:=7) oo;have h8:=qan (a:=k) (b:=8) oo;have h9:=qan (a:=k) (b:=9) oo;have h10:=qan (a:=k) (b:=10) oo;have h11:=qan (a:=k) (b:=11) oo;have h12:=qan (a:=k) (b:=12) oo;have h13:=qan (a:=k) (b:=13) oo;have h14:=qan (a:=k) (b:=14) oo;have hr:qar k = -1:=by unfold qar;rw [if_neg oo,if_neg oo,if_neg oo,if_neg oo]
  rw [hr];clear hr hk;go_enter Tryz.func87,Tryz.ntmps87;go_wp2;go_ret;exact ⟨rfl,rfl⟩
theorem qkq (k:Int):0<=qba k/\qba k<=8:=by unfold qba;split <;> (try split) <;> (try split) <;> (try split) <;> omega
theorem qlo (k:Int):-1<=qar k/\qar k<=4:=by unfold qar;split <;> (try split) <;> (try split) <;> (try split) <;> omega
theorem qs3 (r:Rt) (na:Option Addr) (nc:Nat) (da:Option Addr) (dc:Nat) (w:World) (hl:r.num.length<=2000000) (hm:r.den.length<=2000000) :
  Calls Tryz.prog 91 #[r.val na nc da dc] w fun e w'=>e=.returned (.bool r.none)/\Below w.heap.size w w':=by
 obtain ⟨neg,num,den⟩:=r;unfold Rt.val Rt.none;dsimp only at hl hm ⊢;by_cases h1:num.length=0 <;> by_cases h2:den.length=0
 all_goals
  have e1:((num.length:Int)==0)=decide (num.length=0):=by rw [Bool.eq_iff_iff];simp
  have e2:((den.length:Int)==0)=decide (den.length=0):=by rw [Bool.eq_iff_iff];simp
  have d1:decide (num.length=0)=decide (num.length=0):=rfl;simp only [h1,h2,decide_true,decide_false] at e1 e2;have HH:(decide (num.length=0),decide (den.length=0))=(decide (num.length=0),decide (den.length=0)):=rfl;simp only [h1,h2,decide_true,decide_false] at HH ⊢;clear HH d1
  cases neg
  all_goals
   have H1:=Hd h1;have H2:=Hd h2;clear h1 h2;go_enter Tryz.func91,Tryz.ntmps91;go_wp2;go_ret;exact ⟨rfl,brf.alloc (nlr _) _⟩
theorem qtq (r:Rt) (na:Option Addr) (nc:Nat) (da:Option Addr) (dc:Nat) (w:World) (hl:r.num.length<=2000000) (hm:r.den.length<=2000000) :
  Calls Tryz.prog 88 #[r.val na nc da dc] w fun e w'=>e=.returned (.bool r.none)/\Below w.heap.size w w':=by
 obtain ⟨neg,num,den⟩:=r;unfold Rt.val Rt.none;dsimp only at hl hm ⊢;by_cases h1:num.length=0 <;> by_cases h2:den.length=0
 all_goals
  have e1:((num.length:Int)==0)=decide (num.length=0):=by rw [Bool.eq_iff_iff];simp
  have e2:((den.length:Int)==0)=decide (den.length=0):=by rw [Bool.eq_iff_iff];simp
  have d1:decide (num.length=0)=decide (num.length=0):=rfl;simp only [h1,h2,decide_true,decide_false] at e1 e2;have HH:(decide (num.length=0),decide (den.length=0))=(decide (num.length=0),decide (den.length=0)):=rfl;simp only [h1,h2,decide_true,decide_false] at HH ⊢;clear HH d1
  cases neg
  all_goals
   have H1:=Hd h1;have H2:=Hd h2;clear h1 h2;go_enter Tryz.func88,Tryz.ntmps88;go_wp2;go_ret;exact ⟨rfl,brf.alloc (nlr _) _⟩
theorem qh9 {α:Type} {p:α->Bool} {l:List α} {k:Nat} {x:α} (h:l[k]? = some x):(l.take (k+1)).any p=((l.take k).any p||p x):=by
 rw [qbb h,List.any_append];simp
theorem ql7 {α:Type} {p:α->Bool} {l:List α} {k:Nat} {x:α} (h:l[k]? = some x) (e:p x=true):l.any p=true:=by
 rw [List.any_eq_true];exact ⟨x,List.mem_of_getElem? h,e⟩
theorem zz1 {P:Prop} (h:P:=by
 rintro e w2 ⟨rfl,hb2⟩;have hb3:=bth hb1 hb2;go_wp2;go_ret;exact ⟨rfl,hb3⟩
 ):P:=h
theorem qjn (f:Fct) (n:Int) (p:RA) (w:World) (h:qci w p f.args f.ratio) (hq:f.ratio.few) (hn:InInt n) (hk:InInt f.kind) :
  Calls Tryz.prog 57 #[f.val p.aa p.ac p.na p.nc p.da p.dc,.int .i64 n] w fun e w'=>e=.returned (.int .i64 (qb2 f n))/\Below w.heap.size w w':=by
 obtain ⟨kind,args,r⟩:=f;obtain ⟨aa,ac,na,nc,da,dc⟩:=p;obtain ⟨hI,hN,hD⟩:=h;dsimp only at hI hN hD hq hk;obtain ⟨res,hres⟩:∃ x,qb2 ⟨kind,args,r⟩ n=x:=⟨_,rfl⟩
 rw [hres];unfold qb2 at hres;dsimp only at hres;have CA:=qp5 kind;have hA:=qkq kind;have CR:=fun W (hW:bw w W)=>qhc r na nc da dc W (hN.ext (xbw hW)) (hD.ext (xbw hW)) hq.1 hq.2
 have CN:=fun W=>qs3 r na nc da dc W hq.1 hq.2
 have hlen:=hI.len;have hIn:∀ a∈args,InInt a:=fun a ha=>by
  obtain ⟨k,hk⟩:=List.mem_iff_getElem?.1 ha;obtain ⟨b,off,_,hc,hw⟩:=hI.2.2 k a hk;exact qdy hw
 have HI:=Hd hI;have HIn:=Hd hIn;revert CA hA hres CR CN;generalize qba kind=ar;generalize r.right=br;generalize r.none=bn;intro hres CA hA CR CN;replace CA:=Hd CA;replace CR:=Hd CR;replace CN:=Hd CN;have HRES:=Hd hres;obtain ⟨hn1,hn2⟩:=hn;obtain ⟨hk1,hk2⟩:=hk;obtain ⟨neg,num,den⟩:=r;unfold Rt.val at CR CN;unfold Fct.val;dsimp only at CR CN ⊢;clear hres hI hN hD hIn hq;have hz:=Blk.new w 91 #[.int .i64 kind,.slice aa args.length ac,.bool neg,.slice na num.length nc,.slice da den.length dc];have hb0:Below w.heap.size w (w.alloc (.cells #[.int .i64 kind,.slice aa args.length ac,.bool neg,.slice na num.length nc,.slice da den.length dc] 91)):=brf.alloc (nlr _) _;by_cases h0:ar=0
 ·
  have he:(ar==0)=true:=by simpa using h0
  have hr:res=8:=by rw [<- HRES.out,if_pos h0]
  subst hr;clear h0 hz;go_enter Tryz.func57,Tryz.ntmps57;go_wp2_with (go_at_call 90;refine (CA.out _).mono ?_;rintro e w' ⟨rfl,rfl⟩);go_ret;exact ⟨rfl,hb0⟩
 ·
  have he:(ar==0)=false:=by simpa using h0
  have H0:=Hd h0;clear h0;by_cases h1:(args.length:Int)=ar
  ·
   have he1:((args.length:Int) != ar)=false:=by simpa using h1
   have H1:=Hd h1;clear h1;go_enter Tryz.func57,Tryz.ntmps57;go_wp2_with fail;revert hz hb0;generalize w.alloc (.cells #[.int .i64 kind,.slice aa args.length ac,.bool neg,.slice na num.length nc,.slice da den.length dc] 91)=w0;intro hz hb0;obtain ⟨z0,z1,z2,z3,z4⟩:=cq5 hz;refine (CA.out _).mono ?_;rintro e w' ⟨rfl,rfl⟩;go_wp2
   go_quiet ((go_at_call 90;exact Calls.quiet_of_same ((CA.out _).mono fun _ _ h=>⟨h.1,h.2.symm⟩)))
   have hz1:Blk (w0.drewN nq) w.heap.size 91 #[.int .i64 kind,.slice aa args.length ac,.bool neg,.slice na num.length nc,.slice da den.length dc]:=hz;have hb1:=below_drewN hb0 nq;clear z0 z1 z2 z3 z4 hz hb0 CA;revert hz1 hb1;generalize w0.drewN nq=w1;intro hz1 hb1;obtain ⟨z0,z1,z2,z3,z4⟩:=cq5 hz1;go_wp2
   go_loop [6,21] (fun _ i=>∃ k:Nat,k<=args.length/\i=.int .i64 k/\Hid ((args.take k).any (qa1 n)=false)) (fun _ i=>args.length-(intOf i).toNat)
   case atStart=>exact ⟨0,oo,rfl,rfl⟩
   case round =>
    obtain ⟨k,hk,rfl,hno⟩:=hrel;by_cases hlt:k<args.length
    ·
     obtain ⟨x,hx⟩:=qab hlt;obtain ⟨b,off,rfl,hc⟩:=(HI.out.ext (xbw hb1)).2.2 k x hx;have hc1:w1.cell? ⟨b,off+k,none⟩=some (.int .i64 x):=by simpa using hc.1
     obtain ⟨hx1,hx2⟩:=HIn.out x (List.mem_of_getElem? hx);have HX:=Hd hx;clear hc hx;by_cases hbad:x<0\/n<=x
     ·
      have hr:res=2:=by
       have hany:args.any (qa1 n)=true:=ql7 HX.out (by unfold qa1;exact decide_eq_true hbad);rw [<- HRES.out,if_neg H0.out,if_neg (by simpa using H1.out),if_pos hany]
      subst hr;by_cases hx0:x<0
      ·
       clear hbad;go_wp2;go_ret;exact ⟨rfl,hb1⟩
      ·
       have hge:n<=x:=oo
       clear hbad;go_wp2;go_ret;exact ⟨rfl,hb1⟩
     ·
      have hx0:0<=x:=oo
      have hxn:x<n:=oo
      have hbf:qa1 n x=false:=by unfold qa1;exact decide_eq_false hbad
      have HBF:=Hd hbf;clear hbad hbf;go_wp2
      go_round
      case rel=>exact ⟨k+1,oo,by go_num,by show _=_;rw [qh9 HX.out,hno.out,HBF.out];rfl⟩
      case measure=>simp [intOf];omega
    ·
     have hany:args.any (qa1 n)=false:=by
      have:=hno.out
      rwa [qgs hlt] at this
     have hres2:(if kind=9/\br=false then (1:Int) else if kind≠9/\bn=false then 1 else 0)=res:=by
      have:=HRES.out;rw [if_neg H0.out,if_neg (by simpa using H1.out),if_neg (by rw [hany];simp)] at this;exact this
     have HR2:=Hd hres2;clear hres2 hany;by_cases hk9:kind=9
     ·
      have hke:(kind==9)=true:=by simpa using hk9
      have hkn:(kind != 9)=false:=by simpa using hk9
      have HK9:=Hd hk9;clear hk9
      cases br
      ·
       have hr:res=1:=by rw [<- HR2.out,if_pos ⟨HK9.out,rfl⟩]
       subst hr;go_wp2_with fail;refine (CR.out _ hb1).mono ?_;exact zz1
      ·
       have hr:res=0:=by rw [<- HR2.out,if_neg (by simp),if_neg (by simp [HK9.out])]
       subst hr;go_wp2_with fail;refine (CR.out _ hb1).mono ?_;rintro e w2 ⟨rfl,hb2⟩;have hb3:=bth hb1 hb2;have hz2:=hz1.below' hb2;have y0:=hz2.cell 0;clear hb2 hz2;go_wp2;go_ret;exact ⟨rfl,hb3⟩
     ·
      have hke:(kind==9)=false:=by simpa using hk9
      have hkn:(kind != 9)=true:=by simpa using hk9
      have HK9:=Hd hk9;clear hk9
      cases bn
      ·
       have hr:res=1:=by rw [<- HR2.out,if_neg (fun h=>HK9.out h.1),if_pos ⟨HK9.out,rfl⟩]
       subst hr;go_wp2_with fail;refine (CN.out _).mono ?_;exact zz1
      ·
       have hr:res=0:=by rw [<- HR2.out,if_neg (fun h=>HK9.out h.1),if_neg (by simp)]
       subst hr;go_wp2_with fail;refine (CN.out _).mono ?_;exact zz1
  ·
   have he1:((args.length:Int) != ar)=true:=by simpa using h1
   have hr:res=1:=by rw [<- HRES.out,if_neg H0.out,if_pos h1]
   subst hr;clear h1;go_enter Tryz.func57,Tryz.ntmps57;go_wp2_with fail;revert hz hb0;generalize w.alloc (.cells #[.int .i64 kind,.slice aa args.length ac,.bool neg,.slice na num.length nc,.slice da den.length dc] 91)=w0;intro hz hb0;obtain ⟨z0,z1,z2,z3,z4⟩:=cq5 hz;refine (CA.out _).mono ?_;rintro e w' ⟨rfl,rfl⟩;go_wp2
   go_quiet ((go_at_call 90;exact Calls.quiet_of_same ((CA.out _).mono fun _ _ h=>⟨h.1,h.2.symm⟩)))
   go_wp2;go_ret;exact ⟨rfl,below_drewN hb0 _⟩
def intC (x:Int):List Value:=[.int .i64 x]
theorem qe6 (s:Int):(intC s).length=1:=rfl
theorem qol (s:Int):∀ u∈intC s,u.oneCell'=true:=by simp [intC,Value.oneCell']
theorem qne {w:World} {b:Nat} {s:Int} (h:w.cell? ⟨b,0,none⟩=some (.int .i64 s)):∀ j u,(intC s)[j]? = some u->w.cell? ⟨b,j,none⟩=some u:=by
 intro j u hu
 match j,hu with
 | 0,hu=>simp [intC] at hu;subst hu;exact h
abbrev OwnI (B:Nat) (w:World) (a:Option Addr) (c:Nat) (l:List Int):Prop:=Own intC 1 3 B w a c l
theorem infoI:(Tryz.prog.info? 3).map (fun i=>(i.zero,i.size,i.bytes))=some (some (.int .i64 0),1,8):=by kernel_rfl
section
variable {B : Nat} {w : World} {a : Option Addr} {c : Nat}
end
theorem qic {B:Nat} {w:World} {l:List Int} {ops:Array Oper} {rest:List Oper} {o:Oper} {act:Act} {Q:Exit->Act->World->Prop} (hgd:o.guard=none) (s y:Operand)
  (ho:o.op=.call { callee:=.builtin .append,args:=#[s,y],argTypes:=#[86,86] })
  (a:Option Addr) (c:Nat) (hs:act.eval s=.slice a l.length c) (hown:OwnI B w a c l)
  (x:Int) (b c1:Nat) (hy:act.eval y=.slice (some ⟨b,0,none⟩) 1 c1) (hcell:w.cell? ⟨b,0,none⟩=some (.int .i64 x))
  (l2:List Int) (hl2:l2=l++[x]) (hlen:l2.length<=16777216) (hB:B<=w.heap.size)
  (h:∀ a' c' w',OwnI B w' a' c' l2->w.grownBy w' (Value.ownBlock (.slice a l.length c))->((∃ g,a'=some ⟨g,0,none⟩/\(a=some ⟨g,0,none⟩\/g=w.heap.size))) ->
   wpList Tryz.prog ops Q rest (act.put o.dst (.slice a' l2.length c')) w'):wpList Tryz.prog ops Q (o :: rest) act w :=
 qay hgd s y 86 ho Tryz.underlying86 infoI rfl oo oo qe6 a c hs hown x (qol x) b c1 hy (qne hcell) l2 hl2 hlen hB h
theorem qja (c:Int) (w:World) (h0:0<=c) (h1:c<=255) :
  Calls Tryz.prog 133 #[.int .u8 c] w fun e w'=>e=.returned (.bool (letB c))/\w=w':=by
 obtain ⟨b,hb⟩:=nm (letB c)
 have hb2:=hb;unfold letB at hb2;rw [hb];have HB:=Hd hb2;clear hb hb2;by_cases h2:65<=c <;> by_cases h3:c<=90 <;> by_cases h4:97<=c <;> by_cases h5:c<=122 <;> first | (exfalso;omega) | skip
 all_goals
  go_enter Tryz.func133,Tryz.ntmps133;go_wp2;go_ret;refine ⟨qbn ?_,rfl⟩;rw [<- HB.out]
  first | (symm;apply decide_eq_true;omega) | (symm;apply decide_eq_false;omega)
theorem qqr (c:Int) (w:World) (h0:0<=c) (h1:c<=255) :
  Calls Tryz.prog 134 #[.int .u8 c] w fun e w'=>e=.returned (.bool (digB c))/\w=w':=by
 obtain ⟨b,hb⟩:=nm (digB c)
 have hb2:=hb;unfold digB at hb2;rw [hb];have HB:=Hd hb2;clear hb hb2;by_cases h2:48<=c <;> by_cases h3:c<=57 <;> first | (exfalso;omega) | skip
 all_goals
  go_enter Tryz.func134,Tryz.ntmps134;go_wp2;go_ret;refine ⟨qbn ?_,rfl⟩;rw [<- HB.out]
  first | (symm;apply decide_eq_true;omega) | (symm;apply decide_eq_false;omega)
theorem ql5 (w:World):Calls Tryz.prog 135 #[] w fun e w'=>e=.returned (.slice (some ⟨w.heap.size,0,none⟩) 29 29)/\w.alloc (.cells (qbh.map Value.string).toArray 9)=w':=by
 go_enter Tryz.func135,Tryz.ntmps135;go_wp2;go_ret;exact ⟨rfl,rfl⟩
theorem qpg (w:World):Calls Tryz.prog 176 #[] w fun e w'=>e=.returned (.slice (some ⟨w.heap.size,0,none⟩) 29 29)/\w.alloc (.cells (qbh.map Value.string).toArray 9)=w':=by
 go_enter Tryz.func176,Tryz.ntmps176;go_wp2;go_ret;exact ⟨rfl,rfl⟩
end Go.Proofs.YtmdlbpibipnapaaGreat
