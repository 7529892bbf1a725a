/- What a call has made, or what came in, keeps its reading while the caller writes cells of its own. No function of the program in sight. -/
import Derived.Test.YtkjnkpkagcboeaaGreatDoorCa3
import Derived.Deep.LoopGhost
import Derived.Deep.CutRange
import Derived.Test.YtkjnkpkagcboeaaGreatDoorProg
import Derived.Ground.NamesProg
import Derived.Shelf.Lays
import Derived.Shelf.Small.Bits
import Derived.Test.YtkjnkpkagcboeaaGreatDoorCa2
import Derived.Test.YtkjnkpkagcboeaaGreatDoorCa1
set_option linter.all false
set_option maxRecDepth 100000
set_option maxHeartbeats 4000000
namespace Go.Proofs.YtkjnkpkagcboeaaGreatDoor
open Go.RowKit
theorem digit01_any (l m:List Int) (n1 n2:Nat) (a a':Option Addr) (c c':Nat) (w:World) (h:NatR w a c l) (h':NatR w a' c' m) (hn:val l = n1) (hk:val m = n2) (hl:l.length <= 4000000) (hm:m.length <= 4000000)
  (h0:0 < n2) (hq:n1 / n2 <= 65535) :
  Calls Tryz.prog 155 #[.slice a l.length c,.slice a' m.length c'] w fun e w'=>e = .returned (.int .u64 ((n1 / n2:Nat):Int)) /\ Below w.heap.size w w':=by
 have H:=Hd h;have H':=Hd h';have HN:=Hd hn;have HK:=Hd hk;obtain ⟨q,hqe⟩:∃ q,n1 / n2 = q:=⟨_,rfl⟩
 have hdiv:∀ d,d * n2 <= n1 ↔ d <= q:=fun d=>by rw [<- hqe]; exact (Nat.le_div_iff_mul_le h0).symm
 rw [hqe] at hq ⊢;have HD:=Hd hdiv;clear h h' hn hk hqe hdiv;go_enter Tryz.func155,Tryz.ntmps155;go_wp2
 go_loopw [5,6,7] (fun x y _ wr=>∃ lo hi:Nat,lo <= q /\ q <= hi /\ hi <= 65535 /\ x = .int .u64 lo /\ y = .int .u64 hi /\ Below w.heap.size w wr) (fun x y _ _=>(intOf y).toNat - (intOf x).toNat)
 case atStart=>exact ⟨0,65535,by omega,by omega,by omega,rfl,rfl,Below.refl _ _⟩
 case round =>
  obtain ⟨lo,hi,hlo,hhi,hhi2,rfl,rfl,hb⟩:=hrel;by_cases hlt:lo < hi
  ·
   obtain ⟨d,hd⟩:∃ d:Nat,d = (lo + hi + 1) / 2:=⟨_,rfl⟩
   have hd1:lo < d:=by omega
   have hd2:d <= hi:=by omega
   have hde:((lo:Int) + hi + 1) / 2 = (d:Int):=by omega
   have hd3:d < 18446744073709551616:=by omega
   have HDE:=Hd hde;clear hd hde;have CO:=fun w=>of01_any d w hd3
   replace CO:=Hd CO;go_wp2_with fail;rw [HDE.out];refine (CO.out _).mono ?_;rintro e w1 ⟨a1,c1,rfl,hV1,hb1⟩;have hbw1:=bth hb hb1;have hr1:=hV1 w1 (New.refl _ _);have hlen1:(limbs d).length <= 1:=limbs_len_le (by omega);have CM:=mul01_any m (limbs d) n2 d a' a1 c' c1 w1 (H'.out.ext (xbw hbw1)) hr1 HK.out (val_limbs d) (by omega) (by omega);replace CM:=Hd CM;clear hV1 hr1 hb1 hb CO;go_wp2_with fail;refine CM.out.mono ?_;rintro e w2 ⟨a2,c2,rfl,hV2,hb2⟩;have hbw2:=bth hbw1 hb2;have hr2:=hV2 w2 (New.refl _ _);have hlen2:(limbs (n2 * d)).length <= 4000001:=by
    have h1:=limbs_len_mul n2 d;have h2:=limbs_len_val H'.out.u16;rw [HK.out] at h2
    omega
   have CC:=cmp01_any (limbs (n2 * d)) l a2 a c2 c w2 hr2 (H.out.ext (xbw hbw2)) (by omega) (by omega);rw [val_limbs,HN.out] at CC;have hcm:cmpN (n2 * d) n1 <= 0 ↔ d <= q:=by rw [cmpN_le,Nat.mul_comm]; exact HD.out d
   revert CC hcm;generalize cmpN (n2 * d) n1 = cv;intro CC hcm;replace CC:=Hd CC;clear hV2 hr2 hb2 hbw1 CM hlen2 hlen1;by_cases hle:d <= q
   ·
    have hcv:decide (cv <= 0) = true:=by simpa using hcm.2 hle
    clear hcm;go_wp2_with fail;refine CC.out.mono ?_;rintro e w3 ⟨rfl,rfl⟩;go_wp2
    go_roundw
    case rel=>exact ⟨d,hi,hle,hhi,hhi2,rfl,rfl,hbw2⟩
    case measure=>simp [intOf]; omega
   ·
    have hcv:decide (cv <= 0) = false:=by simp; have:=fun h=>hle (hcm.1 h); omega
    clear hcm;go_wp2_with fail;refine CC.out.mono ?_;rintro e w3 ⟨rfl,rfl⟩;go_wp2
    go_roundw
    case rel=>exact ⟨lo,d - 1,hlo,by omega,by omega,rfl,val_int (by omega),hbw2⟩
    case measure=>simp [intOf]; omega
  ·
   obtain rfl:lo = q:=by omega
   go_wp2;go_ret;exact ⟨rfl,hb⟩
def RetDM (n1 n2 : Nat) (w : World) (e : Ending) (w' : World) : Prop := ∃ a1 c1 a2 c2, e = .returned (.tuple #[.slice a1 (limbs (n1 / n2)).length c1, .slice a2 (limbs (n1 % n2)).length c2, .int .i64 0]) ∧
   (∀ V,New w.heap.size w' V -> NatR V a1 c1 (limbs (n1 / n2))) /\ (∀ V,New w.heap.size w' V -> NatR V a2 c2 (limbs (n1 % n2))) /\ Below w.heap.size w w'
theorem divMod01_small (l m:List Int) (n1 n2:Nat) (a a':Option Addr) (c c':Nat) (w:World) (h:NatR w a c l) (h':NatR w a' c' m) (hn:val l = n1) (hk:val m = n2) (hl:l.length <= 2000000) (hm:m.length <= 2000000)
  (h0:0 < n2) (hs1:(limbs n1).length <= 4) (hs2:(limbs n2).length <= 4) :
  Calls Tryz.prog 117 #[.slice a l.length c,.slice a' m.length c'] w (RetDM n1 n2 w):=by
 have H:=Hd h;have H':=Hd h';have C1:=norm01_any l a c w h (by omega);rw [hn] at C1;replace C1:=Hd C1;have hv1:n1 < 18446744073709551616:=by have:=lt_pow_limbs n1; have h2:=Nat.pow_le_pow_right (show 0 < 65536 by omega) hs1; omega
 have hv2:n2 < 18446744073709551616:=by have:=lt_pow_limbs n2; have h2:=Nat.pow_le_pow_right (show 0 < 65536 by omega) hs2; omega
 have hne:((limbs n2).length:Int) ≠ 0:=by have:=limbs_len_pos.2 h0; omega
 have hbz:(((limbs n2).length:Int) == 0) = false:=by simpa using hne
 have hd1:decide (((limbs n1).length:Int) <= 4) = true:=by simp; omega
 have hd2:decide (((limbs n2).length:Int) <= 4) = true:=by simp; omega
 have HK:=Hd hk;clear h h' hn hne hs1 hs2 hk;go_enter Tryz.func117,Tryz.ntmps117;go_wp2_with fail;refine C1.out.mono ?_;rintro e w1 ⟨a1,c1,rfl,hV1,hb1⟩;have C2:=norm01_any m a' c' w1 (H'.out.ext (xbw hb1)) (by omega);rw [HK.out] at C2;replace C2:=Hd C2;clear C1;have HV1:=Hd hV1;clear hV1;go_wp2_with fail;refine C2.out.mono ?_;rintro e w2 ⟨a2,c2,rfl,hV2,hb2⟩;have hb:=bth hb1 hb2;have hr1:=HV1.out w2 ((New.refl _ w2).below hb2);have hr2:=hV2 w2 (New.refl _ _);have S1:=fun W (hW:Below w2.heap.size w2 W)=>short01_any (limbs n1) a1 c1 W (hr1.ext (xbw hW)) (by rw [val_limbs]; exact hv1)
 have S2:=fun W (hW:Below w2.heap.size w2 W)=>short01_any (limbs n2) a2 c2 W (hr2.ext (xbw hW)) (by rw [val_limbs]; exact hv2)
 rw [val_limbs] at S1 S2;replace S1:=Hd S1;replace S2:=Hd S2;have hz2:((n2:Int) == 0) = false:=by simp; omega
 clear hV2 hb1 hb2 C2 HV1 hr1 hr2;have hq1:n1 / n2 < 18446744073709551616:=Nat.lt_of_le_of_lt (Nat.div_le_self _ _) hv1;have hq2:n1 % n2 < 18446744073709551616:=Nat.lt_of_le_of_lt (Nat.mod_le _ _) hv1;have hm1:IntKind.u64.wrap ((n1:Int) / n2) = ((n1 / n2:Nat):Int):=by
  have e:((n1:Int) / n2) = ((n1 / n2:Nat):Int):=by simp
  rw [e];exact IntWalk.u64_in _ ⟨Int.natCast_nonneg _,by omega⟩
 have hm2:((n1:Int) % n2) = ((n1 % n2:Nat):Int):=by simp
 have HM1:=Hd hm1;have HM2:=Hd hm2;have CO1:=fun w=>of01_any (n1 / n2) w hq1
 have CO2:=fun w=>of01_any (n1 % n2) w hq2
 replace CO1:=Hd CO1;replace CO2:=Hd CO2;have hn2:(1:Int) <= n2:=by omega
 clear hm1 hm2 hq1 hq2 hv1 hv2;go_wp2_with fail;refine (S1.out _ brf).mono ?_;rintro e w3 ⟨rfl,rfl⟩;go_wp2_with fail;refine (S2.out _ brf).mono ?_;rintro e w3 ⟨rfl,rfl⟩;go_wp2_with fail;rw [HM1.out];refine (CO1.out _).mono ?_;rintro e w3 ⟨a3,c3,rfl,hV3,hb3⟩;have HV3:=Hd hV3;clear hV3;go_wp2_with fail;refine (S1.out _ hb3).mono ?_;rintro e w4 ⟨rfl,rfl⟩;go_wp2_with fail;refine (S2.out _ hb3).mono ?_;rintro e w4 ⟨rfl,rfl⟩;go_wp2_with fail;rw [HM2.out];refine (CO2.out _).mono ?_;rintro e w4 ⟨a4,c4,rfl,hV4,hb4⟩;have HV4:=Hd hV4;clear hV4;go_wp2;go_ret3;exact ⟨a3,c3,a4,c4,rfl,fun V hV=>HV3.out V ((hV.below hb4).base hb.size),fun V hV=>HV4.out V (hV.base (Nat.le_trans hb.size hb3.size)),bth (bth hb hb3) hb4⟩
theorem ownN_one (w:World) (x:Int) {B:Nat} (hB:B <= w.heap.size):OwnN B (w.alloc (.cells #[.int .u16 x] 47)) (some ⟨w.heap.size,0,none⟩) 1 [x] :=
 BlkN.own (l:=[x]) (Blk.new w _ _) hB (by simp [maxLen])
theorem div_last {n1 n2 q r:Nat} (h:n1 = q * n2 + r) (hr:r < n2):q = n1 / n2 /\ r = n1 % n2:=by
 subst h
 constructor
 · rw [Nat.mul_comm,Nat.mul_add_div (by omega),Nat.div_eq_of_lt hr,Nat.add_zero]
 · rw [Nat.mul_comm,Nat.mul_add_mod,Nat.mod_eq_of_lt hr]
theorem divMod01_big (l m:List Int) (n1 n2:Nat) (a a':Option Addr) (c c':Nat) (w:World) (h:NatR w a c l) (h':NatR w a' c' m) (hn:val l = n1) (hk:val m = n2) (hl:l.length <= 2000000) (hm:m.length <= 2000000)
  (h0:0 < n2) (hs:¬ ((limbs n1).length <= 4 /\ (limbs n2).length <= 4)) :
  Calls Tryz.prog 117 #[.slice a l.length c,.slice a' m.length c'] w (RetDM n1 n2 w):=by
 have H:=Hd h;have H':=Hd h';have C1:=norm01_any l a c w h (by omega);rw [hn] at C1;replace C1:=Hd C1;have hne:((limbs n2).length:Int) ≠ 0:=by have:=limbs_len_pos.2 h0; omega
 have hbz:(((limbs n2).length:Int) == 0) = false:=by simpa using hne
 have hL1:(limbs n1).length <= 2000000:=by have:=limbs_len_val h.u16; rw [hn] at this; omega
 have hL2:(limbs n2).length <= 2000000:=by have:=limbs_len_val h'.u16; rw [hk] at this; omega
 have HK:=Hd hk;clear h h' hn hne hk;have hcase:decide (((limbs n1).length:Int) <= 4) = true /\ decide (((limbs n2).length:Int) <= 4) = false \/ decide (((limbs n1).length:Int) <= 4) = false:=by
  simp; omega
 clear hs;go_enter Tryz.func117,Tryz.ntmps117;go_wp2_with fail;refine C1.out.mono ?_;rintro e w1 ⟨a1,c1,rfl,hV1,hb1⟩;have C2:=norm01_any m a' c' w1 (H'.out.ext (xbw hb1)) (by omega);rw [HK.out] at C2;replace C2:=Hd C2;clear C1;have HV1:=Hd hV1;clear hV1;go_wp2_with fail;refine C2.out.mono ?_;rintro e w2 ⟨a2,c2,rfl,hV2,hb2⟩;have hb:=bth hb1 hb2;have HA:=Hd (HV1.out w2 ((New.refl _ w2).below hb2));have HM:=Hd (hV2 w2 (New.refl _ _));clear hV2 hb1 hb2 C2 HV1 H H' HK;have hnb:∃ b1 b2:Bool,decide (((limbs n1).length:Int) <= 4) = b1 /\ decide (((limbs n2).length:Int) <= 4) = b2 /\ (b1 && b2) = false:=⟨_,_,rfl,rfl,by rcases hcase with ⟨h1,h2⟩ | h1 <;> simp [h1] <;> simp_all⟩
 rcases hcase with ⟨hc1,hc2⟩ | hc1
 all_goals
  go_wp2;clear hnb
  go_loopw [7,8,9,10] (fun sq sr i _ wr=>∃ (k:Nat) (ql:List Int) (rv:Nat) (aq:Option Addr) (cq:Nat) (ar:Option Addr) (cr:Nat),k <= (limbs n1).length /\ i = .int .i64 ((k:Int) - 1) /\ sq = .slice aq ql.length cq /\ sr = .slice ar (limbs rv).length cr /\
   Hid (∀ V,New w.heap.size wr V -> NatR V aq cq ql) /\ Hid (∀ V,New w.heap.size wr V -> NatR V ar cr (limbs rv)) /\ rv < n2 /\ Below w.heap.size w wr /\ Below w2.heap.size w2 wr /\ Hid (val ((limbs n1).drop k) = val ql * n2 + rv) /\ Hid (ql.length + k = (limbs n1).length)) (fun _ _ i _ _=>(intOf i + 1).toNat)
  case atStart=>exact ⟨(limbs n1).length,[],0,none,0,none,0,nlr _,rfl,rfl,by rw [limbs_zero]; rfl,fun _ _=>SlR.nil,fun _ _=>by rw [limbs_zero]; exact SlR.nil,h0,hb,Below.refl _ _,by show _ = _; rw [val_drop_all (nlr _)]; simp [val],by show _ = _; simp⟩
  case round =>
   clear hb;obtain ⟨k,ql,rv,aq,cq,ar,cr,hk,rfl,rfl,rfl,HQ,HR,hrv,hb,hb2,hv,hlq⟩:=hrel;by_cases hk0:k = 0
   ·
    subst hk0;have hfin:val ql = n1 / n2 /\ rv = n1 % n2:=by
     have:=hv.out;simp only [List.drop_zero,val_limbs] at this;exact div_last this hrv
    obtain ⟨hf1,hf2⟩:=hfin;have CN:=norm01_any ql aq cq wr (HQ.out wr (New.refl _ _)) (by have:=hlq.out; omega);rw [hf1] at CN;replace CN:=Hd CN;have HF2:=Hd hf2;clear hf1 hf2;go_wp2_with fail;refine CN.out.mono ?_;rintro e w3 ⟨a3,c3,rfl,hV3,hb3⟩;have HV3:=Hd hV3;clear hV3 CN;go_wp2;go_ret3;have e2:=HF2.out;have hR:=HR.out;subst e2;exact ⟨a3,c3,ar,cr,rfl,fun V hV=>HV3.out V (hV.base hb.size),fun V hV=>hR V (hV.below hb3),bth hb hb3⟩
   ·
    have hgt:decide ((0:Int) <= (k:Int) - 1) = true:=by simp; omega
    have hge:(0:Int) <= (k:Int) - 1:=by omega
    obtain ⟨x,hx⟩:=get_of_lt (xs:=limbs n1) (k:=k - 1) (by omega);obtain ⟨ba,oa,rfl,hcx⟩:=(HA.out.ext (xbw hb2)).cell hx;obtain ⟨hx0,hx1⟩:=(limbs_u16 n1).get hx;obtain ⟨N,hN⟩:∃ N,N = x.toNat + 65536 * rv:=⟨_,rfl⟩
    have hqd:N / n2 <= 65535:=by rw [hN]; exact div_digit (by omega) hrv
    have hqm:N = N / n2 * n2 + N % n2:=by rw [Nat.mul_comm]; exact (Nat.div_add_mod N n2).symm
    have hrm:N % n2 < n2:=Nat.mod_lt _ h0;have hvd:=div_step (limbs n1) ql (k - 1) n2 rv (N / n2) (N % n2) x hx (by rw [show k - 1 + 1 = k by omega]; exact hv.out) (by rw [<- hN]; exact hqm);have hle:n2 * (N / n2) <= N:=Nat.mul_div_le N n2;have hsub:N - n2 * (N / n2) = N % n2:=by have:=Nat.div_add_mod N n2; omega
    have hNl:(limbs N).length <= 2000001:=by
     refine Nat.le_trans (limbs_len_le (k:=(limbs n2).length + 1) ?_) (by omega);have:=lt_pow_limbs n2;rw [Nat.pow_succ]
     omega
    obtain ⟨d,hd⟩:∃ d,N / n2 = d:=⟨_,rfl⟩
    obtain ⟨r2,hr2⟩:∃ r2,N % n2 = r2:=⟨_,rfl⟩
    rw [hd] at hqd hqm hvd hle hsub;rw [hr2] at hqm hrm hvd hsub;have HD:=Hd hd;clear hd hr2;have hrl:(limbs rv).length <= 2000000:=Nat.le_trans (limbs_len_mono (Nat.le_of_lt hrv)) hL2;have HVD:=Hd hvd;have HSUB:=Hd hsub;have HN:=Hd hN;have HQM:=Hd hqm;have HLE:=Hd hle;have HL:=Hd hNl;have HRL:=Hd hrl;clear hx hN hvd hsub hqm hle hNl hrl;go_wp2_with (at_builtin; go_must (refine append_nats (B:=wr.heap.size) rfl (.tmp 49) (.tmp 50) rfl (some ⟨wr.heap.size,0,none⟩) 1 (l:=[x]) rfl (ownN_one wr x (nlr _)) ar cr (m:=limbs rv) rfl (HR.out _ ((New.refl _ _).unalloc)) (x :: limbs rv) rfl (by have:=HRL.out; simp; omega) (by simp) ?_); intro a3 c3 w3 hown3 hg3 hbb3);have hb3:Below wr.heap.size wr w3:=((Below.refl _ wr).alloc (nlr _) _).trans hbb3;have hu3:U16 (x :: limbs rv):=U16.cons ⟨hx0,hx1⟩ (limbs_u16 rv)
    have CN:=norm01_any (x :: limbs rv) a3 c3 w3 (hown3.reads1 hu3) (by have:=HRL.out; simp; omega);have ev:val (x :: limbs rv) = N:=by rw [HN.out,val,val_limbs]
    rw [ev] at CN;replace CN:=Hd CN;clear hown3 hg3 hbb3 hu3 ev hcx;refine CN.out.mono ?_;rintro e w4 ⟨a4,c4,rfl,hV4,hb4⟩;have HV4:=Hd hV4;replace hb4:=bth hb3 hb4;clear hV4 CN hb3;have CD:=digit01_any (limbs N) (limbs n2) N n2 a4 a2 c4 c2 w4 (HV4.out w4 (New.refl _ _)) (HM.out.ext (xbw (bth hb2 hb4))) (val_limbs N) (val_limbs n2) (by have:=HL.out; omega) (by omega) h0 (by rw [HD.out]; exact hqd);rw [HD.out] at CD;replace CD:=Hd CD;go_wp2_with fail;refine CD.out.mono ?_;rintro e w5 ⟨rfl,hb5⟩;have hb45:=hb5;replace hb5:=bth hb4 hb5;clear CD;have hdd:(d:Int) <= 65535:=by omega
    go_wp2_with (at_builtin; go_must (refine append_nats (B:=w5.heap.size) rfl (.tmp 58) (.tmp 59) rfl (some ⟨w5.heap.size,0,none⟩) 1 (l:=[(d:Int)]) rfl (ownN_one w5 d (nlr _)) aq cq (m:=ql) rfl (HQ.out _ ((New.refl _ _).unalloc.below hb5)) ((d:Int) :: ql) rfl (by have:=hlq.out; simp; omega) (by simp) ?_); intro a6 c6 w6 hown6 hg6 hbb6);have hb56:Below w5.heap.size w5 w6:=((Below.refl _ w5).alloc (nlr _) _).trans hbb6;have hb6:=bth hb5 hb56;have hu6:U16 ((d:Int) :: ql):=U16.cons (by omega) (HQ.out wr (New.refl _ _)).u16;have HO6:=Hd hown6;clear hown6 hg6 hbb6;have CO:=of01_any d w6 (by omega);replace CO:=Hd CO;refine CO.out.mono ?_;rintro e w7 ⟨a7,c7,rfl,hV7,hb67⟩;have hb7:=bth hb6 hb67
    have CM:=mul01_any (limbs n2) (limbs d) n2 d a2 a7 c2 c7 w7 (HM.out.ext (xbw (bth hb2 hb7))) (hV7 w7 (New.refl _ _)) (val_limbs _) (val_limbs _) (by omega) (by have:=limbs_len_le (n:=d) (k:=1) (by omega); omega);replace CM:=Hd CM;clear hV7 CO;go_wp2_with fail;refine CM.out.mono ?_;rintro e w8 ⟨a8,c8,rfl,hV8,hb78⟩;have hb8:=bth hb7 hb78;have hp8:(limbs (n2 * d)).length <= 4000001:=by
     have h1:=limbs_len_mul n2 d;have h2:=limbs_len_le (n:=d) (k:=1) (by omega)
     omega
    have CS:=sub01_any (limbs N) (limbs (n2 * d)) N (n2 * d) a4 a8 c4 c8 w8 (HV4.out w8 ((New.refl _ w8).below (bth hb45 (bth hb56 (bth hb67 hb78))))) (hV8 w8 (New.refl _ _)) (val_limbs _) (val_limbs _) (by have:=HL.out; omega) (by omega) HLE.out;rw [HSUB.out] at CS;replace CS:=Hd CS;clear hV8 CM hp8;go_wp2_with fail;refine CS.out.mono ?_;rintro e w9 ⟨a9,c9,rfl,hV9,hb89⟩;have hb9:=bth hb8 hb89;have HV9:=Hd hV9;clear hV9 CS;go_wp2
    go_roundw
    case rel=>exact ⟨k - 1,(d:Int) :: ql,r2,a6,c6,a9,c9,by omega,by first | (congr 1; omega) | rfl,by simp,rfl,
     fun V hV=>HO6.out.readsV ((hV.below (bth hb67 (bth hb78 hb89))).base (Nat.le_trans hb.size hb5.size)) hu6,fun V hV=>HV9.out V (hV.base (Nat.le_trans hb.size hb8.size)),hrm,bth hb hb9,bth hb2 hb9,HVD.out,by have:=hlq.out; show _ = _; simp; omega⟩
    case measure=>simp [intOf]; omega
theorem divMod01_any (l m:List Int) (n1 n2:Nat) (a a':Option Addr) (c c':Nat) (w:World) (h:NatR w a c l) (h':NatR w a' c' m) (hn:val l = n1) (hk:val m = n2) (hl:l.length <= 2000000) (hm:m.length <= 2000000)
  (h0:0 < n2) :
  Calls Tryz.prog 117 #[.slice a l.length c,.slice a' m.length c'] w (RetDM n1 n2 w):=by
 by_cases hs:(limbs n1).length <= 4 /\ (limbs n2).length <= 4
 · exact divMod01_small l m n1 n2 a a' c c' w h h' hn hk hl hm h0 hs.1 hs.2
 · exact divMod01_big l m n1 n2 a a' c c' w h h' hn hk hl hm h0 hs
theorem gcd01_any (l m:List Int) (n1 n2:Nat) (a a':Option Addr) (c c':Nat) (w:World) (h:NatR w a c l) (h':NatR w a' c' m) (hn:val l = n1) (hk:val m = n2) (hl:l.length <= 2000000) (hm:m.length <= 2000000) :
  Calls Tryz.prog 82 #[.slice a l.length c,.slice a' m.length c'] w (RetN (limbs (Nat.gcd n1 n2)) w):=by
 have H:=Hd h;have H':=Hd h';have C1:=norm01_any l a c w h (by omega);rw [hn] at C1;replace C1:=Hd C1;have hL1:(limbs n1).length <= 2000000:=by have:=limbs_len_val h.u16; rw [hn] at this; omega
 have hL2:(limbs n2).length <= 2000000:=by have:=limbs_len_val h'.u16; rw [hk] at this; omega
 have HK:=Hd hk;clear h h' hn hk;go_enter Tryz.func82,Tryz.ntmps82;go_wp2_with fail;refine C1.out.mono ?_;rintro e w1 ⟨a1,c1,rfl,hV1,hb1⟩;have C2:=norm01_any m a' c' w1 (H'.out.ext (xbw hb1)) (by omega);rw [HK.out] at C2;replace C2:=Hd C2;have HV1:=Hd hV1;clear hV1 C1;go_wp2_with fail;refine C2.out.mono ?_;rintro e w2 ⟨a2,c2,rfl,hV2,hb2⟩;have hb:=bth hb1 hb2;have HV2:=Hd hV2;clear hV2 C2 H H' HK;go_wp2
 go_loopg [0,1,5,6,7] n2 (fun g sx sy _ _ _ wr=>∃ (x:Nat) (ax:Option Addr) (cx:Nat) (ay:Option Addr) (cy:Nat),sx = .slice ax (limbs x).length cx /\ sy = .slice ay (limbs g).length cy /\ (∀ V,New w.heap.size wr V -> NatR V ax cx (limbs x)) /\
  (∀ V,New w.heap.size wr V -> NatR V ay cy (limbs g)) /\ (limbs x).length <= 2000000 /\ (limbs g).length <= 2000000 /\ Below w.heap.size w wr /\ Nat.gcd x g = Nat.gcd n1 n2)
 case atStart=>exact ⟨n1,a1,c1,a2,c2,rfl,rfl,fun V hV=>HV1.out V (hV.below hb2),fun V hV=>HV2.out V (hV.base hb1.size),hL1,hL2,hb,rfl⟩
 case round =>
  obtain ⟨x,ax,cx,ay,cy,rfl,rfl,hx,hy,hlx,hly,hb',hg⟩:=hrel;have HX:=Hd hx;have HY:=Hd hy;have HG:=Hd hg;clear hx hy hg hb1 hb2 hb;by_cases h0:gk = 0
  ·
   subst h0;have hgz:decide (0 < (limbs 0).length) = false:=by rw [limbs_zero]; rfl
   have hX:=HX.out;have hgc:limbs (Nat.gcd n1 n2) = limbs x:=by rw [<- HG.out,Nat.gcd_zero_right]
   have HGC:=Hd hgc;clear hgc;replace hX:=Hd hX;go_wp2;go_ret;rw [HGC.out];exact ⟨ax,cx,rfl,hX.out,hb'⟩
  ·
   have hgz:decide (0 < (limbs gk).length) = true:=by have:=limbs_len_pos (n:=gk); simp; omega
   have CD:=divMod01_any (limbs x) (limbs gk) x gk ax ay cx cy wr (HX.out wr (New.refl _ _)) (HY.out wr (New.refl _ _)) (val_limbs _) (val_limbs _) hlx hly (by omega);replace CD:=Hd CD;have hr:x % gk < gk:=Nat.mod_lt _ (by omega);have hgr:Nat.gcd gk (x % gk) = Nat.gcd n1 n2:=by rw [<- HG.out,Nat.gcd_comm x gk,Nat.gcd_rec gk x,Nat.gcd_comm]
   have HGR:=Hd hgr;have hlr:(limbs (x % gk)).length <= 2000000:=Nat.le_trans (limbs_len_mono (Nat.le_of_lt hr)) hly;clear hgr;go_wp2_with fail;refine CD.out.mono ?_;rintro e w3 ⟨a3,c3,a4,c4,rfl,hV3,hV4,hb3⟩;have HV4:=Hd hV4;clear hV3 hV4 CD;go_wp2;go_roundg (x % gk)
   case rel=>exact ⟨gk,ay,cy,a4,c4,rfl,rfl,fun V hV=>HY.out V (hV.below hb3),fun V hV=>HV4.out V (hV.base hb'.size),hly,hlr,bth hb' hb3,HGR.out⟩
   case measure=>exact hr
def RetZ (neg:Bool) (n:Nat) (w:World) (e:Ending) (w':World):Prop:=∃ a c,e = .returned (.agg #[.bool neg,.slice a (limbs n).length c]) /\ (∀ V,New w.heap.size w' V -> NatR V a c (limbs n)) /\ Below w.heap.size w w'
theorem dec_pos (n:Nat):decide (0 < (limbs n).length) = decide (0 < n):=by
 have:=limbs_len_pos (n:=n);rw [decide_eq_decide]
 omega
section
variable {w V : World} {g B B' : Nat} {t : TypeId} {x y z u v r : Value}
theorem back2 (h:New B ((w.setCell ⟨g,0,none⟩ x).setCell ⟨g,1,none⟩ y) V) (hB:B <= B') (hg:g < B'):New B' w V:=((h.base hB).unset hg).unset hg
theorem back3 (h:New B (((w.setCell ⟨g,0,none⟩ x).setCell ⟨g,1,none⟩ y).setCell ⟨g,2,none⟩ z) V) (hB:B <= B') (hg:g < B'):New B' w V:=(((h.base hB).unset hg).unset hg).unset hg
theorem blk2 (h:Blk w g t #[u,v]):Blk ((w.setCell ⟨g,0,none⟩ x).setCell ⟨g,1,none⟩ y) g t #[x,y]:=by have:=(h.set_ 0 x).set_ 1 y; simpa using this
theorem blk3 (h:Blk w g t #[u,v,r]):Blk (((w.setCell ⟨g,0,none⟩ x).setCell ⟨g,1,none⟩ y).setCell ⟨g,2,none⟩ z) g t #[x,y,z]:=by have:=((h.set_ 0 x).set_ 1 y).set_ 2 z; simpa using this
theorem below2 {w0:World} (h:Below B w0 w) (hg:B <= g):Below B w0 ((w.setCell ⟨g,0,none⟩ x).setCell ⟨g,1,none⟩ y):=(h.setCell (p:=⟨g,0,none⟩) hg x).setCell (p:=⟨g,1,none⟩) hg y
theorem below3 {w0:World} (h:Below B w0 w) (hg:B <= g):Below B w0 (((w.setCell ⟨g,0,none⟩ x).setCell ⟨g,1,none⟩ y).setCell ⟨g,2,none⟩ z):=((h.setCell (p:=⟨g,0,none⟩) hg x).setCell (p:=⟨g,1,none⟩) hg y).setCell (p:=⟨g,2,none⟩) hg z
end
theorem zof_any (neg:Bool) (l:List Int) (n:Nat) (a:Option Addr) (c:Nat) (w:World) (h:NatR w a c l) (hn:val l = n) (hl:l.length <= 16777216) :
  Calls Tryz.prog 188 #[.bool neg,.slice a l.length c] w (RetZ (neg && decide (0 < n)) n w):=by
 have CN:=fun W (hW:Below w.heap.size w W)=>norm_any l a c W (h.ext (xbw hW)) hl
 rw [hn] at CN;replace CN:=Hd CN;have hd:=dec_pos n;obtain ⟨b,hb⟩:∃ b,decide (0 < n) = b:=⟨_,rfl⟩
 rw [hb] at hd ⊢;have hz:Blk (w.alloc (.cells #[.bool false,.slice none 0 0] 52)) w.heap.size 52 #[.bool false,.slice none 0 0]:=Blk.new w _ _;have hb0:Below w.heap.size w (w.alloc (.cells #[.bool false,.slice none 0 0] 52)):=brf.alloc (nlr _) _;clear h hb
 cases neg
 ·
  rw [Bool.false_and];go_enter Tryz.func188,Tryz.ntmps188;go_wp2_with fail;have hgl:=hz.lt;revert hz hb0 hgl;generalize w.alloc (.cells #[.bool false,.slice none 0 0] 52) = w0;intro hz hb0 hgl;refine (CN.out _ hb0).mono ?_;rintro e w1 ⟨a1,c1,rfl,hV,hb1⟩;have hw1:=bth hb0 hb1;have HV:=Hd hV;have hz1:=hz.below' hb1;have z0:=hz1.cell 0; have z1:=hz1.cell 1; have f0:=hz1.frozen 0; have f1:=hz1.frozen 1;have hs0:=hb0.size;clear hV hb0 hz;go_wp2;have hF:=blk2 (x:=.bool false) (y:=.slice a1 (limbs n).length c1) hz1;have e0:=hF.cell 0; have e1:=hF.cell 1;refine bodyPost_ret (v:=.agg #[.bool false,.slice a1 (limbs n).length c1]) (by simp [results,Tryz.results188,go_sem,e0,e1]) rfl ?_;exact ⟨a1,c1,rfl,fun V hV=>HV.out V (back2 hV hs0 hgl),below2 hw1 (nlr _)⟩
 ·
  rw [Bool.true_and];go_enter Tryz.func188,Tryz.ntmps188;go_wp2_with fail;have hgl:=hz.lt;revert hz hb0 hgl;generalize w.alloc (.cells #[.bool false,.slice none 0 0] 52) = w0;intro hz hb0 hgl;refine (CN.out _ hb0).mono ?_;rintro e w1 ⟨a1,c1,rfl,hV,hb1⟩;have hw1:=bth hb0 hb1;have HV:=Hd hV;have hz1:=hz.below' hb1;have z0:=hz1.cell 0; have z1:=hz1.cell 1; have f0:=hz1.frozen 0; have f1:=hz1.frozen 1;have hs0:=hb0.size;clear hV hb0 hz;go_wp2;have hF:=blk2 (x:=.bool b) (y:=.slice a1 (limbs n).length c1) hz1;have e0:=hF.cell 0; have e1:=hF.cell 1;refine bodyPost_ret (v:=.agg #[.bool b,.slice a1 (limbs n).length c1]) (by simp [results,Tryz.results188,go_sem,e0,e1]) rfl ?_;exact ⟨a1,c1,rfl,fun V hV=>HV.out V (back2 hV hs0 hgl),below2 hw1 (nlr _)⟩
theorem zofR_any (neg:Bool) (l:List Int) (n:Nat) (a:Option Addr) (c:Nat) (w:World) (h:NatR w a c l) (hn:val l = n) (hl:l.length <= 16777216) :
  Calls Tryz.prog 153 #[.bool neg,.slice a l.length c] w (RetZ (neg && decide (0 < n)) n w):=by
 have CN:=fun W (hW:Below w.heap.size w W)=>norm01_any l a c W (h.ext (xbw hW)) hl
 rw [hn] at CN;replace CN:=Hd CN;have hd:=dec_pos n;obtain ⟨b,hb⟩:∃ b,decide (0 < n) = b:=⟨_,rfl⟩
 rw [hb] at hd ⊢;have hz:Blk (w.alloc (.cells #[.bool false,.slice none 0 0] 52)) w.heap.size 52 #[.bool false,.slice none 0 0]:=Blk.new w _ _;have hb0:Below w.heap.size w (w.alloc (.cells #[.bool false,.slice none 0 0] 52)):=brf.alloc (nlr _) _;clear h hb
 cases neg
 ·
  rw [Bool.false_and];go_enter Tryz.func153,Tryz.ntmps153;go_wp2_with fail;have hgl:=hz.lt;revert hz hb0 hgl;generalize w.alloc (.cells #[.bool false,.slice none 0 0] 52) = w0;intro hz hb0 hgl;refine (CN.out _ hb0).mono ?_;rintro e w1 ⟨a1,c1,rfl,hV,hb1⟩;have hw1:=bth hb0 hb1;have HV:=Hd hV;have hz1:=hz.below' hb1;have z0:=hz1.cell 0; have z1:=hz1.cell 1; have f0:=hz1.frozen 0; have f1:=hz1.frozen 1;have hs0:=hb0.size;clear hV hb0 hz;go_wp2;have hF:=blk2 (x:=.bool false) (y:=.slice a1 (limbs n).length c1) hz1;have e0:=hF.cell 0; have e1:=hF.cell 1;refine bodyPost_ret (v:=.agg #[.bool false,.slice a1 (limbs n).length c1]) (by simp [results,Tryz.results153,go_sem,e0,e1]) rfl ?_;exact ⟨a1,c1,rfl,fun V hV=>HV.out V (back2 hV hs0 hgl),below2 hw1 (nlr _)⟩
 ·
  rw [Bool.true_and];go_enter Tryz.func153,Tryz.ntmps153;go_wp2_with fail;have hgl:=hz.lt;revert hz hb0 hgl;generalize w.alloc (.cells #[.bool false,.slice none 0 0] 52) = w0;intro hz hb0 hgl;refine (CN.out _ hb0).mono ?_;rintro e w1 ⟨a1,c1,rfl,hV,hb1⟩;have hw1:=bth hb0 hb1;have HV:=Hd hV;have hz1:=hz.below' hb1;have z0:=hz1.cell 0; have z1:=hz1.cell 1; have f0:=hz1.frozen 0; have f1:=hz1.frozen 1;have hs0:=hb0.size;clear hV hb0 hz;go_wp2;have hF:=blk2 (x:=.bool b) (y:=.slice a1 (limbs n).length c1) hz1;have e0:=hF.cell 0; have e1:=hF.cell 1;refine bodyPost_ret (v:=.agg #[.bool b,.slice a1 (limbs n).length c1]) (by simp [results,Tryz.results153,go_sem,e0,e1]) rfl ?_;exact ⟨a1,c1,rfl,fun V hV=>HV.out V (back2 hV hs0 hgl),below2 hw1 (nlr _)⟩
theorem made_any (neg:Bool) (n:Nat) (a:Option Addr) (c:Nat) (w:World) :
  Calls Tryz.prog 148 #[.bool neg,.slice a (limbs n).length c] w fun e w'=>e = .returned (.agg #[.bool (neg && decide (0 < n)),.slice a (limbs n).length c]) /\ Below w.heap.size w w':=by
 have hd:=dec_pos n;obtain ⟨b,hb⟩:∃ b,decide (0 < n) = b:=⟨_,rfl⟩
 rw [hb] at hd ⊢;clear hb
 cases neg
 ·
  rw [Bool.false_and];go_enter Tryz.func148,Tryz.ntmps148;go_wp2;have hF:=Blk.new w 52 #[.bool false,.slice a (limbs n).length c];have e0:=hF.cell 0; have e1:=hF.cell 1;refine bodyPost_ret (v:=.agg #[.bool false,.slice a (limbs n).length c]) (by simp [results,Tryz.results148,go_sem]) rfl ?_;exact ⟨rfl,brf.alloc (nlr _) _⟩
 ·
  rw [Bool.true_and];go_enter Tryz.func148,Tryz.ntmps148;go_wp2;have hF:=Blk.new w 52 #[.bool b,.slice a (limbs n).length c];have e0:=hF.cell 0; have e1:=hF.cell 1;refine bodyPost_ret (v:=.agg #[.bool b,.slice a (limbs n).length c]) (by simp [results,Tryz.results148,go_sem]) rfl ?_;exact ⟨rfl,brf.alloc (nlr _) _⟩
theorem znorm_any (neg:Bool) (l:List Int) (n:Nat) (a:Option Addr) (c:Nat) (w:World) (h:NatR w a c l) (hn:val l = n) (hl:l.length <= 16777216) :
  Calls Tryz.prog 149 #[.agg #[.bool neg,.slice a l.length c]] w (RetZ (neg && decide (0 < n)) n w):=by
 have CN:=fun W (hW:Below w.heap.size w W)=>zof_any neg l n a c W (h.ext (xbw hW)) hn hl
 replace CN:=Hd CN;have hz:Blk ((w.alloc (.cells #[.bool neg,.slice a l.length c] 52)).alloc (.cells #[.bool false,.slice none 0 0] 52)) (w.heap.size + 1) 52 #[.bool false,.slice none 0 0]:=blk_at1 w _ _ _;have hb0:Below w.heap.size w ((w.alloc (.cells #[.bool neg,.slice a l.length c] 52)).alloc (.cells #[.bool false,.slice none 0 0] 52)):=(brf.alloc (nlr _) _).alloc (by simp) _;have hgB:w.heap.size <= w.heap.size + 1:=by omega
 have hgl:=hz.lt;clear h hn;go_enter Tryz.func149,Tryz.ntmps149;go_wp2_with fail;revert hz hb0 hgl hgB;generalize (w.alloc (.cells #[.bool neg,.slice a l.length c] 52)).alloc (.cells #[.bool false,.slice none 0 0] 52) = w0;generalize w.heap.size + 1 = g;intro hz hb0 hgB hgl;refine (CN.out _ hb0).mono ?_;rintro e w1 ⟨a1,c1,rfl,hV,hb1⟩;have hw1:=bth hb0 hb1;have HV:=Hd hV;have hz1:=hz.below' hb1;have z0:=hz1.cell 0; have z1:=hz1.cell 1; have f0:=hz1.frozen 0; have f1:=hz1.frozen 1;have hs0:=hb0.size;clear hV hb0 hz;go_wp2;have hF:=blk2 (x:=.bool (neg && decide (0 < n))) (y:=.slice a1 (limbs n).length c1) hz1;have e0:=hF.cell 0; have e1:=hF.cell 1;refine bodyPost_ret (v:=.agg #[.bool (neg && decide (0 < n)),.slice a1 (limbs n).length c1]) (by simp [results,Tryz.results149,go_sem,e0,e1]) rfl ?_;exact ⟨a1,c1,rfl,fun V hV=>HV.out V (back2 hV hs0 hgl),below2 hw1 hgB⟩
theorem znormR_any (neg:Bool) (l:List Int) (n:Nat) (a:Option Addr) (c:Nat) (w:World) (h:NatR w a c l) (hn:val l = n) (hl:l.length <= 16777216) :
  Calls Tryz.prog 111 #[.agg #[.bool neg,.slice a l.length c]] w (RetZ (neg && decide (0 < n)) n w):=by
 have CN:=fun W (hW:Below w.heap.size w W)=>zofR_any neg l n a c W (h.ext (xbw hW)) hn hl
 replace CN:=Hd CN;have hz:Blk ((w.alloc (.cells #[.bool neg,.slice a l.length c] 52)).alloc (.cells #[.bool false,.slice none 0 0] 52)) (w.heap.size + 1) 52 #[.bool false,.slice none 0 0]:=blk_at1 w _ _ _;have hb0:Below w.heap.size w ((w.alloc (.cells #[.bool neg,.slice a l.length c] 52)).alloc (.cells #[.bool false,.slice none 0 0] 52)):=(brf.alloc (nlr _) _).alloc (by simp) _;have hgB:w.heap.size <= w.heap.size + 1:=by omega
 have hgl:=hz.lt;clear h hn;go_enter Tryz.func111,Tryz.ntmps111;go_wp2_with fail;revert hz hb0 hgl hgB;generalize (w.alloc (.cells #[.bool neg,.slice a l.length c] 52)).alloc (.cells #[.bool false,.slice none 0 0] 52) = w0;generalize w.heap.size + 1 = g;intro hz hb0 hgB hgl;refine (CN.out _ hb0).mono ?_;rintro e w1 ⟨a1,c1,rfl,hV,hb1⟩;have hw1:=bth hb0 hb1;have HV:=Hd hV;have hz1:=hz.below' hb1;have z0:=hz1.cell 0; have z1:=hz1.cell 1; have f0:=hz1.frozen 0; have f1:=hz1.frozen 1;have hs0:=hb0.size;clear hV hb0 hz;go_wp2;have hF:=blk2 (x:=.bool (neg && decide (0 < n))) (y:=.slice a1 (limbs n).length c1) hz1;have e0:=hF.cell 0; have e1:=hF.cell 1;refine bodyPost_ret (v:=.agg #[.bool (neg && decide (0 < n)),.slice a1 (limbs n).length c1]) (by simp [results,Tryz.results111,go_sem,e0,e1]) rfl ?_;exact ⟨a1,c1,rfl,fun V hV=>HV.out V (back2 hV hs0 hgl),below2 hw1 hgB⟩
end Go.Proofs.YtkjnkpkagcboeaaGreatDoor
namespace Go.Proofs
open Go.Shelf
def Tryz.lays127_ren : Go.Shelf.Ren := ⟨fun | 127 => 146 | n => n, fun | 49 => 47 | 3 => 3 | 4 => 4 | 46 => 181 | 5 => 5 | 9 => 9 | n => n, fun | n => n⟩
theorem Tryz.lays127 : Go.Proofs.Lays.n127 Tryz.prog Tryz.lays127_ren := {
  mixed := by kernel_rfl
  f127 := Tryz.func146.trans (congrArg some (by kernel_rfl))
  t3 := Tryz.underlying3
  a3 := Tryz.isAgg3
  z3 := Tryz.sizeOf3
  v3 := Tryz.zeroValue3
  t4 := Tryz.underlying4
  a4 := Tryz.isAgg4
  z4 := Tryz.sizeOf4
  v4 := Tryz.zeroValue4
  t5 := Tryz.underlying5
  a5 := Tryz.isAgg5
  z5 := Tryz.sizeOf5
  v5 := Tryz.zeroValue5
  t9 := Tryz.underlying9
  a9 := Tryz.isAgg9
  z9 := Tryz.sizeOf9
  v9 := Tryz.zeroValue9
  t46 := Tryz.underlying181
  a46 := Tryz.isAgg181
  z46 := Tryz.sizeOf181
  v46 := Tryz.zeroValue181
  t49 := Tryz.underlying47
  a49 := Tryz.isAgg47
  z49 := Tryz.sizeOf47
  v49 := Tryz.zeroValue47 }
end Go.Proofs
namespace Go.Proofs.YtkjnkpkagcboeaaGreatDoor
theorem len16_any (x:Nat) (w:World) (h1:x <= 65535) :
  Calls Tryz.prog 146 #[.int .u16 x] w fun e w'=>e = .returned (.int .i64 (Lib.bitLen x:Int)) /\ w' = w:=by
 have:=Any.bits_Len16 Tryz.lays127 (x:Int) w (by omega) (by omega);rw [Int.toNat_natCast] at this;exact this
end Go.Proofs.YtkjnkpkagcboeaaGreatDoor
namespace Go.Proofs.YtkjnkpkagcboeaaGreatDoor
open Go.RowKit
theorem bits_of {n k x:Nat} (hl:(limbs n).length = k + 1) (hx:limbAt (limbs n) k = x) (hx0:x ≠ 0) (hx1:x <= 65535):1 <= Lib.bitLen x /\ Lib.bitLen x <= 16 /\ 2 ^ (16 * k + Lib.bitLen x - 1) <= n /\ n < 2 ^ (16 * k + Lib.bitLen x):=by
 obtain ⟨h2,h3,h4⟩:=Lib.bitLenAux_bounds 64 x (by omega) hx0
 change 1 <= Lib.bitLen x at h2
 change 2 ^ (Lib.bitLen x - 1) <= x at h3
 change x < 2 ^ Lib.bitLen x at h4
 obtain ⟨q1,q2,_,_⟩:=norm_shift hx0 hx1;obtain ⟨lo,hlo,e⟩:=val_split_at (limbs_u16 n) k;rw [val_limbs,val_drop_at,hx,val_drop_all (by omega),Int.toNat_natCast] at e;simp only [Nat.mul_zero,Nat.add_zero] at e;have hp:(65536:Nat) ^ k = 2 ^ (16 * k):=by rw [Nat.pow_mul]
 rw [hp] at e hlo;generalize Lib.bitLen x = b at *;refine ⟨q1,q2,?_,?_⟩
 ·
  rw [show 16 * k + b - 1 = 16 * k + (b - 1) by omega,Nat.pow_add];have:=Nat.mul_le_mul_left (2 ^ (16 * k)) h3
  omega
 ·
  rw [Nat.pow_add];have:=Nat.mul_le_mul_left (2 ^ (16 * k)) (show x + 1 <= 2 ^ b by omega);rw [Nat.mul_add,Nat.mul_one] at this
  omega
theorem bits_any (l:List Int) (n:Nat) (a:Option Addr) (c:Nat) (w:World) (h:NatR w a c l) (hn:val l = n) (hl:l.length <= 16777216) :
  Calls Tryz.prog 103 #[.slice a l.length c] w fun e w'=>∃ b:Nat,e = .returned (.int .i64 b) /\ Hid ((n = 0 -> b = 0) /\ (0 < n -> 1 <= b /\ 2 ^ (b - 1) <= n /\ n < 2 ^ b) /\ b <= 16 * (limbs n).length) /\ w = w':=by
 have CT:=trim_any l a c w h;have hT:=h.trim;have hll:=limbs_len_val h.u16;rw [hn] at CT hT hll;by_cases h0:n = 0
 ·
  subst h0;rw [limbs_zero] at CT;replace CT:=Hd CT;clear h hn hT hll;go_enter Tryz.func103,Tryz.ntmps103;go_wp2_with fail;refine CT.out.mono ?_;rintro e w1 ⟨rfl,rfl⟩;go_wp2;go_ret;exact ⟨0,rfl,Hd ⟨fun _=>rfl,fun h=>by omega,by omega⟩,rfl⟩
 ·
  have hp:=limbs_len_pos.2 (show 0 < n by omega);obtain ⟨k,hk⟩:∃ k,(limbs n).length = k + 1:=⟨(limbs n).length - 1,by omega⟩
  obtain ⟨xi,hxi⟩:=get_of_lt (xs:=limbs n) (k:=k) (by omega);obtain ⟨b,off,rfl,hc⟩:=hT.cell hxi;have hxb:=(limbs_u16 n).get hxi;have hx0:xi ≠ 0:=limbs_last (n:=n) (by rw [List.getLast?_eq_getElem?,hk]; exact hxi);obtain ⟨x,rfl⟩:∃ x:Nat,xi = (x:Int):=⟨xi.toNat,by omega⟩
  have hb:=bits_of hk (limbAt_some hxi) (by omega) (by omega);have CL:=fun w=>len16_any x w (by omega)
  have hkl:k <= 16777216:=by omega
  have HK:=Hd hk;rw [hk] at CT;revert hb CL;generalize Lib.bitLen x = bl;intro hb CL;have hbl:(bl:Int) <= 16:=by omega
  have hbl0:(0:Int) <= (bl:Int):=by omega
  have HB:=Hd hb;replace CT:=Hd CT;replace CL:=Hd CL;have hkI:(k:Int) <= 16777216:=by omega
  have hne:((k:Int) + 1 == 0) = false:=by rw [beq_eq_false_iff_ne]; omega
  have hx2:(x:Int) <= 65535:=by omega
  clear h hn hT hll hp hk hxi hxb hx0 hb hkl;go_enter Tryz.func103,Tryz.ntmps103;go_wp2_with fail;refine CT.out.mono ?_;rintro e w1 ⟨rfl,rfl⟩;go_wp2_with fail;refine (CL.out _).mono ?_;rintro e w1 ⟨rfl,rfl⟩;go_wp2;go_ret;refine ⟨16 * k + bl,?_,Hd ⟨fun e=>absurd e h0,fun _=>⟨by have:=HB.out; omega,HB.out.2.2.1,HB.out.2.2.2⟩,by have:=HB.out; have:=HK.out; omega⟩,rfl⟩;exact ret_int (by simp <;> omega)
def sgnZ (neg:Bool) (n:Nat):Int:=if n = 0 then 0 else if neg = true then -1 else 1
theorem zsign_any (neg:Bool) (l:List Int) (n:Nat) (a:Option Addr) (c:Nat) (w:World) (h:NatR w a c l) (hn:val l = n) (hl:l.length <= 16777216) :
  Calls Tryz.prog 56 #[.agg #[.bool neg,.slice a l.length c]] w fun e w'=>e = .returned (.int .i64 (sgnZ neg n)) /\ Below w.heap.size w w':=by
 have CB:=fun W (hW:Below w.heap.size w W)=>bits_any l n a c W (h.ext (xbw hW)) hn hl
 replace CB:=Hd CB;have hz:Blk (w.alloc (.cells #[.bool neg,.slice a l.length c] 52)) w.heap.size 52 #[.bool neg,.slice a l.length c]:=Blk.new w _ _;have hb0:Below w.heap.size w (w.alloc (.cells #[.bool neg,.slice a l.length c] 52)):=brf.alloc (nlr _) _;obtain ⟨R,hR⟩:∃ q,sgnZ neg n = q:=⟨_,rfl⟩
 rw [hR];have HR:=Hd hR;clear h hn hR;go_enter Tryz.func56,Tryz.ntmps56;go_wp2_with fail;revert hz hb0;generalize w.alloc (.cells #[.bool neg,.slice a l.length c] 52) = w0;intro hz hb0;refine (CB.out _ hb0).mono ?_;rintro e w1 ⟨b,rfl,hb,rfl⟩;have z0:=hz.cell 0; have z1:=hz.cell 1;by_cases h0:n = 0
 ·
  have e0:=hb.out.1 h0;subst e0;have hs:R = 0:=by rw [<- HR.out]; unfold sgnZ; rw [if_pos h0]
  subst hs;clear h0;go_wp2;go_ret;exact ⟨rfl,hb0⟩
 ·
  have e0:((b:Int) == 0) = false:=by rw [beq_eq_false_iff_ne]; have:=hb.out.2.1 (by omega); omega
  have hs:R = if neg = true then -1 else 1:=by rw [<- HR.out]; unfold sgnZ; rw [if_neg h0]
  clear h0
  cases neg
  ·
   obtain rfl:R = 1:=by simpa using hs
   clear hs;go_wp2;go_ret;exact ⟨rfl,hb0⟩
  ·
   obtain rfl:R = -1:=by simpa using hs
   clear hs;go_wp2;go_ret;exact ⟨rfl,hb0⟩
theorem zsignR_any (neg:Bool) (l:List Int) (n:Nat) (a:Option Addr) (c:Nat) (w:World) (h:NatR w a c l) (hn:val l = n) (hl:l.length <= 16777216) :
  Calls Tryz.prog 61 #[.agg #[.bool neg,.slice a l.length c]] w fun e w'=>e = .returned (.int .i64 (sgnZ neg n)) /\ Below w.heap.size w w':=by
 have CN:=fun W (hW:Below w.heap.size w W)=>znormR_any neg l n a c W (h.ext (xbw hW)) hn hl
 replace CN:=Hd CN;have hz:Blk (w.alloc (.cells #[.bool neg,.slice a l.length c] 52)) w.heap.size 52 #[.bool neg,.slice a l.length c]:=Blk.new w _ _;have hb0:Below w.heap.size w (w.alloc (.cells #[.bool neg,.slice a l.length c] 52)):=brf.alloc (nlr _) _;have hp:=limbs_len_pos (n:=n);obtain ⟨R,hR⟩:∃ q,sgnZ neg n = q:=⟨_,rfl⟩
 rw [hR];have HR:=Hd hR;clear h hn hR;go_enter Tryz.func61,Tryz.ntmps61;go_wp2_with fail;revert hz hb0;generalize w.alloc (.cells #[.bool neg,.slice a l.length c] 52) = w0;intro hz hb0;refine (CN.out _ hb0).mono ?_;rintro e w1 ⟨a1,c1,rfl,_,hb1⟩;obtain ⟨T,hT⟩:∃ T,(limbs n).length = T:=⟨_,rfl⟩
 rw [hT] at hp ⊢;clear hT;have hw1:=bth hb0 hb1;have hz1:=hz.below' hb1;have z0:=hz1.cell 0; have z1:=hz1.cell 1; have f0:=hz1.frozen 0; have f1:=hz1.frozen 1;have hF:=blk2 (x:=.bool (neg && decide (0 < n))) (y:=.slice a1 T c1) hz1;have hwF:=below2 (x:=.bool (neg && decide (0 < n))) (y:=.slice a1 T c1) hw1 (nlr _);have e0:=hF.cell 0; have e1:=hF.cell 1;clear hz hb0 hb1 hw1;by_cases h0:n = 0
 ·
  have hs:R = 0:=by rw [<- HR.out]; unfold sgnZ; rw [if_pos h0]
  subst hs;obtain rfl:T = 0:=by omega
  clear h0 hp;go_wp2;go_ret;exact ⟨rfl,hwF⟩
 ·
  have hs:R = if neg = true then -1 else 1:=by rw [<- HR.out]; unfold sgnZ; rw [if_neg h0]
  have hd:decide (0 < n) = true:=by rw [decide_eq_true_eq]; omega
  have hl0:((T:Int) == 0) = false:=by rw [beq_eq_false_iff_ne]; omega
  simp only [hd,Bool.and_true] at hwF e0 e1 ⊢;clear h0 hp hd
  cases neg
  ·
   obtain rfl:R = 1:=by simpa using hs
   clear hs;go_wp2;go_ret;exact ⟨rfl,hwF⟩
  ·
   obtain rfl:R = -1:=by simpa using hs
   clear hs;go_wp2;go_ret;exact ⟨rfl,hwF⟩
theorem zint_any (z:Int) (w:World) (hi:InInt z) :
  Calls Tryz.prog 107 #[.int .i64 z] w (RetZ (decide (z < 0)) z.natAbs w):=by
 obtain ⟨hi1,hi2⟩:=hi;by_cases hneg:z < 0
 ·
  obtain ⟨m,rfl⟩:∃ m:Nat,z = -((m:Int) + 1):=⟨(-(z + 1)).toNat,by omega⟩
  have hna:(-((m:Int) + 1)).natAbs = m + 1:=by omega
  have hd:decide (-((m:Int) + 1) < 0) = true:=by rw [decide_eq_true_eq]; omega
  rw [hna,hd];have CO:=fun W=>of_any (m + 1) W (by omega)
  have e1:((m + 1:Nat):Int) = (m:Int) + 1:=by omega
  simp only [e1] at CO;have CM:=fun a c W=>made_any true (m + 1) a c W
  have hd2:decide (0 < m + 1) = true:=by rw [decide_eq_true_eq]; omega
  simp only [hd2,Bool.and_true] at CM;replace CO:=Hd CO; replace CM:=Hd CM;have f1:-(-((m:Int) + 1) + 1) = (m:Int):=by omega
  have hm:(m:Int) <= 9223372036854775807:=by omega
  have hlt:decide (-((m:Int) + 1) < 0) = true:=hd;clear hna hd hd2 e1 hneg;have hz:Blk (w.alloc (.cells #[.bool false,.slice none 0 0] 52)) w.heap.size 52 #[.bool false,.slice none 0 0]:=Blk.new w _ _;have hb0:Below w.heap.size w (w.alloc (.cells #[.bool false,.slice none 0 0] 52)):=brf.alloc (nlr _) _;have hgl:=hz.lt;go_enter Tryz.func107,Tryz.ntmps107;go_wp2_with fail;revert hz hb0 hgl;generalize w.alloc (.cells #[.bool false,.slice none 0 0] 52) = w0;intro hz hb0 hgl;have hs0:=hb0.size;refine (CO.out _).mono ?_;rintro e w1 ⟨a1,c1,rfl,hV,hb1⟩;have hw1:=bth hb0 hb1;have hz1:=hz.below' hb1;have HV:=Hd hV;clear hV;go_wp2_with fail;refine (CM.out _ _ _).mono ?_;rintro e w3 ⟨rfl,hb3⟩;have hw3:=bth hw1 hb3;have hz3:=hz1.below' hb3;have z0:=hz3.cell 0; have z1:=hz3.cell 1; have f0:=hz3.frozen 0; have f1:=hz3.frozen 1;go_wp2
  have hF:=blk2 (x:=.bool true) (y:=.slice a1 (limbs (m+1)).length c1) hz3;have e0:=hF.cell 0; have e1:=hF.cell 1;refine bodyPost_ret (v:=.agg #[.bool true,.slice a1 (limbs (m+1)).length c1]) (by simp [results,Tryz.results107,go_sem,e0,e1]) rfl ?_;exact ⟨a1,c1,rfl,fun V hV=>HV.out V ((back2 hV hs0 hgl).below hb3),below2 hw3 (nlr _)⟩
 ·
  obtain ⟨m,rfl⟩:∃ m:Nat,z = (m:Int):=⟨z.toNat,by omega⟩
  have hna:((m:Nat):Int).natAbs = m:=by omega
  have hd:decide (((m:Nat):Int) < 0) = false:=by rw [decide_eq_false_iff_not]; omega
  rw [hna,hd];have CO:=fun W=>of_any m W (by omega)
  have CM:=fun a c W=>made_any false m a c W
  simp only [Bool.false_and] at CM;replace CO:=Hd CO; replace CM:=Hd CM;clear hna hneg;have hz:Blk (w.alloc (.cells #[.bool false,.slice none 0 0] 52)) w.heap.size 52 #[.bool false,.slice none 0 0]:=Blk.new w _ _;have hb0:Below w.heap.size w (w.alloc (.cells #[.bool false,.slice none 0 0] 52)):=brf.alloc (nlr _) _;have hgl:=hz.lt;go_enter Tryz.func107,Tryz.ntmps107;go_wp2_with fail;revert hz hb0 hgl;generalize w.alloc (.cells #[.bool false,.slice none 0 0] 52) = w0;intro hz hb0 hgl;have hs0:=hb0.size;refine (CO.out _).mono ?_;rintro e w1 ⟨a1,c1,rfl,hV,hb1⟩;have hw1:=bth hb0 hb1;have hz1:=hz.below' hb1;have HV:=Hd hV;clear hV;go_wp2_with fail;refine (CM.out _ _ _).mono ?_;rintro e w3 ⟨rfl,hb3⟩;have hw3:=bth hw1 hb3;have hz3:=hz1.below' hb3;have z0:=hz3.cell 0; have z1:=hz3.cell 1; have f0:=hz3.frozen 0; have f1:=hz3.frozen 1;go_wp2
  have hF:=blk2 (x:=.bool false) (y:=.slice a1 (limbs m).length c1) hz3;have e0:=hF.cell 0; have e1:=hF.cell 1;refine bodyPost_ret (v:=.agg #[.bool false,.slice a1 (limbs m).length c1]) (by simp [results,Tryz.results107,go_sem,e0,e1]) rfl ?_;exact ⟨a1,c1,rfl,fun V hV=>HV.out V ((back2 hV hs0 hgl).below hb3),below2 hw3 (nlr _)⟩
def zval (neg:Bool) (n:Nat):Int:=if neg = true then -(n:Int) else n
def cmpI (a b:Int):Int:=if a < b then -1 else if b < a then 1 else 0
theorem zmulR_any (neg1 neg2:Bool) (l m:List Int) (n1 n2:Nat) (a a':Option Addr) (c c':Nat) (w:World) (h:NatR w a c l) (h':NatR w a' c' m) (hn:val l = n1) (hk:val m = n2) (hl:l.length <= 2000000) (hm:m.length <= 2000000) :
  Calls Tryz.prog 129 #[.agg #[.bool neg1,.slice a l.length c],.agg #[.bool neg2,.slice a' m.length c']] w (RetZ ((neg1 != neg2) && decide (0 < n1 * n2)) (n1 * n2) w):=by
 have hll:=limbs_len_val h.u16;have hlm:=limbs_len_val h'.u16;rw [hn] at hll;rw [hk] at hlm;have hp:=limbs_len_mul n1 n2;have CM:=fun W (hW:Below w.heap.size w W)=>mul01_any l m n1 n2 a a' c c' W (h.ext (xbw hW)) (h'.ext (xbw hW)) hn hk (by omega) (by omega)
 have CF:=fun a c W h=>zofR_any (neg1 != neg2) (limbs (n1 * n2)) (n1 * n2) a c W h (val_limbs _) (by omega)
 obtain ⟨R,hR⟩:∃ q,((neg1 != neg2) && decide (0 < n1 * n2)) = q:=⟨_,rfl⟩
 rw [hR] at CF ⊢;have hR0:True:=trivial;revert CM CF;generalize n1 * n2 = n;intro CM CF;replace CM:=Hd CM; replace CF:=Hd CF;have hz:Blk (((w.alloc (.cells #[.bool neg1,.slice a l.length c] 52)).alloc (.cells #[.bool neg2,.slice a' m.length c'] 52)).alloc (.cells #[.bool false,.slice none 0 0] 52)) (w.heap.size + 1 + 1) 52 #[.bool false,.slice none 0 0]:=blk_at2 w _ _ _ _;have hx1:Blk (((w.alloc (.cells #[.bool neg1,.slice a l.length c] 52)).alloc (.cells #[.bool neg2,.slice a' m.length c'] 52)).alloc (.cells #[.bool false,.slice none 0 0] 52)) w.heap.size 52 #[.bool neg1,.slice a l.length c]:=((Blk.new w _ _).alloc _).alloc _;have hx2:Blk (((w.alloc (.cells #[.bool neg1,.slice a l.length c] 52)).alloc (.cells #[.bool neg2,.slice a' m.length c'] 52)).alloc (.cells #[.bool false,.slice none 0 0] 52)) (w.heap.size + 1) 52 #[.bool neg2,.slice a' m.length c']:=(blk_at1 w _ _ _).alloc _
 have hb0:Below w.heap.size w (((w.alloc (.cells #[.bool neg1,.slice a l.length c] 52)).alloc (.cells #[.bool neg2,.slice a' m.length c'] 52)).alloc (.cells #[.bool false,.slice none 0 0] 52)):=by go_grown
 have hgB:w.heap.size <= w.heap.size + 1 + 1:=by omega
 clear h h' hn hk hll hlm hp hR;go_enter Tryz.func129,Tryz.ntmps129;go_wp2;revert hz hx1 hx2 hb0 hgB;generalize ((w.alloc (.cells #[.bool neg1,.slice a l.length c] 52)).alloc (.cells #[.bool neg2,.slice a' m.length c'] 52)).alloc (.cells #[.bool false,.slice none 0 0] 52) = w0;generalize w.heap.size + 1 + 1 = g;intro hz hx1 hx2 hb0 hgB;have k0:=held (hx1.cell 0); have k1:=held (hx1.cell 1); have k2:=held (hx2.cell 0); have k3:=held (hx2.cell 1);have s0:Below w0.heap.size w0 w0.drew:=brf.drew;have hgl:=hz.lt;have HR:=Hd hR0;clear hR0
 cases neg1 <;> cases neg2
 all_goals
  refine wp_region_mix (S:=Below w0.heap.size w0) [(0,.q),(1,.q),(2,.q),(3,.q),(4,.q),(5,.q),(6,.q),(7,.q),(8,.q),(9,.l),(10,.t),(11,.t)] (by kernel_rfl) (by kernel_rfl) (by kernel_rfl) (fun d _ _ _ _ h=>by cases d <;> exact h) (s0) ?_
  iterate 9 (refine wpMix_q rfl rfl (fun K hK=>?_); apply Exists.intro; refine ⟨fun w' hw'=>?_,?_⟩; (focus (go_simp; try rfl)); go_simp; refine hK _ _ ?_; clear hK K)
  refine wpMix_l rfl rfl (fun K hK=>?_);go_simp;refine (CM.out _ (bth hb0 s0)).mono ?_;rintro r w1 ⟨a3,c3,rfl,hV3,hb1⟩;dsimp only;refine hK.out _ _ (bth s0 hb1) (fun _=>?_);clear hK K;have s1:=bth s0 hb1;have hr3:=hV3 w1 (New.refl _ _);clear hV3;refine wpMix_t rfl rfl (fun K hK=>?_);go_simp;refine (CF.out _ _ _ hr3).mono ?_;rintro r w2 ⟨a1,c1,rfl,hV,hb2⟩;dsimp only;refine hK.out _ _ ?_;clear hK K;have s2:=bth s1 hb2;have hz3:=hz.below' s2;have z0:=hz3.cell 0; have z1:=hz3.cell 1; have f0:=hz3.frozen 0; have f1:=hz3.frozen 1;have hw2:=bth hb0 s2;have hs1:=(bth hb0 s1).size;have hg1:g < w1.heap.size:=ltl hgl s1.size;have HV:=Hd hV;clear hV hr3 k0 k1 k2 k3;refine wpMix_t rfl rfl (fun K hK=>?_);go_simp;refine hK.out _ _ ?_;clear hK K;refine wpMix_nil ?_;go_wp2;have hF:=blk2 (x:=.bool R) (y:=.slice a1 (limbs n).length c1) hz3;have e0:=hF.cell 0; have e1:=hF.cell 1
  refine bodyPost_ret (v:=.agg #[.bool R,.slice a1 (limbs n).length c1]) (by simp [results,Tryz.results129,go_sem,e0,e1]) rfl ?_;exact ⟨a1,c1,rfl,fun V hV=>HV.out V (back2 hV hs1 hg1),below2 hw2 hgB⟩
theorem zcmp_cases (neg1 neg2:Bool) (n1 n2:Nat) {b1 b2:Bool} (h1:(neg1 && decide (0 < n1)) = b1) (h2:(neg2 && decide (0 < n2)) = b2) :
  cmpI (zval neg1 n1) (zval neg2 n2) = if (b1 && !b2) = true then -1 else if (b2 && !b1) = true then 1 else if b1 = true then cmpN n2 n1 else cmpN n1 n2:=by
 subst h1 h2;unfold cmpI zval cmpN
 cases neg1 <;> cases neg2 <;> by_cases p1:0 < n1 <;> by_cases p2:0 < n2 <;> simp [p1,p2]
 all_goals (repeat' split) <;> omega
theorem zcmpR_any (neg1 neg2:Bool) (l m:List Int) (n1 n2:Nat) (a a':Option Addr) (c c':Nat) (w:World) (h:NatR w a c l) (h':NatR w a' c' m) (hn:val l = n1) (hk:val m = n2) (hl:l.length <= 4000000) (hm:m.length <= 4000000) :
  Calls Tryz.prog 128 #[.agg #[.bool neg1,.slice a l.length c],.agg #[.bool neg2,.slice a' m.length c']] w fun e w'=>e = .returned (.int .i64 (cmpI (zval neg1 n1) (zval neg2 n2))) /\ Below w.heap.size w w':=by
 have hll:=limbs_len_val h.u16;have hlm:=limbs_len_val h'.u16;rw [hn] at hll;rw [hk] at hlm;have C1:=fun W (hW:Below w.heap.size w W)=>znormR_any neg1 l n1 a c W (h.ext (xbw hW)) hn (by omega)
 have C2:=fun W (hW:Below w.heap.size w W)=>znormR_any neg2 m n2 a' c' W (h'.ext (xbw hW)) hk (by omega)
 have CA:=fun a1 a2 c1 c2 W h1 h2=>cmp01_any (limbs n1) (limbs n2) a1 a2 c1 c2 W h1 h2 (by omega) (by omega)
 have CB:=fun a1 a2 c1 c2 W h1 h2=>cmp01_any (limbs n2) (limbs n1) a1 a2 c1 c2 W h1 h2 (by omega) (by omega)
 simp only [val_limbs] at CA CB;obtain ⟨b1,hb1'⟩:∃ q,(neg1 && decide (0 < n1)) = q:=⟨_,rfl⟩
 obtain ⟨b2,hb2'⟩:∃ q,(neg2 && decide (0 < n2)) = q:=⟨_,rfl⟩
 have hres:=zcmp_cases neg1 neg2 n1 n2 hb1' hb2';rw [hb1'] at C1;rw [hb2'] at C2;obtain ⟨R,hR⟩:∃ q,cmpI (zval neg1 n1) (zval neg2 n2) = q:=⟨_,rfl⟩
 rw [hR] at hres ⊢;have HRES:=Hd hres;replace C1:=Hd C1; replace C2:=Hd C2; replace CA:=Hd CA; replace CB:=Hd CB;have hx1:Blk ((w.alloc (.cells #[.bool neg1,.slice a l.length c] 52)).alloc (.cells #[.bool neg2,.slice a' m.length c'] 52)) w.heap.size 52 #[.bool neg1,.slice a l.length c]:=(Blk.new w _ _).alloc _;have hx2:Blk ((w.alloc (.cells #[.bool neg1,.slice a l.length c] 52)).alloc (.cells #[.bool neg2,.slice a' m.length c'] 52)) (w.heap.size + 1) 52 #[.bool neg2,.slice a' m.length c']:=blk_at1 w _ _ _;have hb0:Below w.heap.size w ((w.alloc (.cells #[.bool neg1,.slice a l.length c] 52)).alloc (.cells #[.bool neg2,.slice a' m.length c'] 52)):=by go_grown
 have hgB:w.heap.size < w.heap.size + 1:=by omega
 clear h h' hn hk hll hlm hR hres hb1' hb2';go_enter Tryz.func128,Tryz.ntmps128;go_wp2;revert hx1 hx2 hb0 hgB;generalize (w.alloc (.cells #[.bool neg1,.slice a l.length c] 52)).alloc (.cells #[.bool neg2,.slice a' m.length c'] 52) = w0;generalize w.heap.size + 1 = g;intro hx1 hx2 hb0 hgB;have k0:=held (hx1.cell 0); have k1:=held (hx1.cell 1); have k2:=held (hx2.cell 0); have k3:=held (hx2.cell 1);have s0:Below w0.heap.size w0 w0.drew:=brf.drew;have hgl:=hx2.lt;refine wp_region_mix (S:=Below w0.heap.size w0) [(0,.q),(2,.q),(1,.l),(3,.t),(4,.t),(5,.t)] (by kernel_rfl) (by kernel_rfl) (by kernel_rfl) (fun d _ _ _ _ h=>by cases d <;> exact h) (s0) ?_
 iterate 2 (refine wpMix_q rfl rfl (fun K hK=>?_); apply Exists.intro; refine ⟨fun w' hw'=>?_,?_⟩; (focus (go_simp; try rfl)); go_simp; refine hK _ _ ?_; clear hK K)
 refine wpMix_l rfl rfl (fun K hK=>?_);go_simp;refine (C1.out _ (bth hb0 s0)).mono ?_;rintro r w1 ⟨a1,c1,rfl,hV1,hb1⟩;dsimp only;refine hK.out _ _ (bth s0 hb1) (fun _=>?_);clear hK K;have s1:=bth s0 hb1;refine wpMix_t rfl rfl (fun K hK=>?_);go_simp;refine (C2.out _ (bth hb0 s1)).mono ?_;rintro r w2 ⟨a2,c2,rfl,hV2,hb2⟩;dsimp only;refine hK.out _ _ ?_;clear hK K;have s2:=bth s1 hb2;have hy1:=hx1.below' s2;have hy2:=hx2.below' s2;have z0:=hy1.cell 0; have z1:=hy1.cell 1; have z2:=hy2.cell 0; have z3:=hy2.cell 1;have f0:=hy1.frozen 0; have f1:=hy1.frozen 1; have f2:=hy2.frozen 0; have f3:=hy2.frozen 1;have hne:¬ g = w.heap.size:=by omega
 have hne2:¬ w.heap.size = g:=by omega
 have HV1:=Hd hV1;have HV2:=Hd hV2;have hw2:=bth hb0 s2;have hs1:=s1.size;have hs2:=s2.size;clear hV1 hV2 k0 k1 k2 k3;refine wpMix_t rfl rfl (fun K hK=>?_);go_simp;refine hK.out _ _ ?_;clear hK K;refine wpMix_t rfl rfl (fun K hK=>?_);go_simp;refine hK.out _ _ ?_;clear hK K;refine wpMix_nil ?_;have hF1:=((blk2 (x:=.bool b1) (y:=.slice a1 (limbs n1).length c1) hy1).far (p:=⟨g,0,none⟩) hne2 (.bool b2)).far (p:=⟨g,1,none⟩) hne2 (.slice a2 (limbs n2).length c2);have hF2:=blk2 (x:=.bool b2) (y:=.slice a2 (limbs n2).length c2) ((hy2.far (p:=⟨w.heap.size,0,none⟩) hne (.bool b1)).far (p:=⟨w.heap.size,1,none⟩) hne (.slice a1 (limbs n1).length c1));have hwF:=below2 (x:=.bool b2) (y:=.slice a2 (limbs n2).length c2) (below2 (x:=.bool b1) (y:=.slice a1 (limbs n1).length c1) hw2 (nlr _)) (Nat.le_of_lt hgB)
 have hN:=New.refl w0.heap.size ((((w2.setCell ⟨w.heap.size,0,none⟩ (.bool b1)).setCell ⟨w.heap.size,1,none⟩ (.slice a1 (limbs n1).length c1)).setCell ⟨g,0,none⟩ (.bool b2)).setCell ⟨g,1,none⟩ (.slice a2 (limbs n2).length c2));have hN2:=back2 (back2 hN (nlr _) hgl) (nlr _) hx1.lt;revert hF1 hF2 hwF hN2;generalize (((w2.setCell ⟨w.heap.size,0,none⟩ (.bool b1)).setCell ⟨w.heap.size,1,none⟩ (.slice a1 (limbs n1).length c1)).setCell ⟨g,0,none⟩ (.bool b2)).setCell ⟨g,1,none⟩ (.slice a2 (limbs n2).length c2) = wF;intro hF1 hF2 hwF hN2;have r2:=HV2.out wF (hN2.base hs1);have r1:=HV1.out wF (hN2.below hb2);clear hN hy1 hy2 z0 z1 z2 z3 f0 f1 f2 f3 hx1 hx2 HV1 HV2 s0 s1 s2 hb1 hb2;have z0:=hF1.cell 0; have z1:=hF1.cell 1; have z2:=hF2.cell 0; have z3:=hF2.cell 1;have CA2:=CA.out _ _ _ _ wF r1 r2;have CB2:=CB.out _ _ _ _ wF r2 r1;replace CA2:=Hd CA2;replace CB2:=Hd CB2;clear r1 r2
 cases b1 <;> cases b2
 ·
  obtain rfl:R = cmpN n1 n2:=by simpa using HRES.out
  go_wp2_with fail;refine CA2.out.mono ?_;rintro e w5 ⟨rfl,rfl⟩;go_wp2;go_ret;exact ⟨rfl,hwF⟩
 ·
  obtain rfl:R = 1:=by simpa using HRES.out
  go_wp2;go_ret;exact ⟨rfl,hwF⟩
 ·
  obtain rfl:R = -1:=by simpa using HRES.out
  go_wp2;go_ret;exact ⟨rfl,hwF⟩
 ·
  obtain rfl:R = cmpN n2 n1:=by simpa using HRES.out
  go_wp2_with fail;refine CB2.out.mono ?_;rintro e w5 ⟨rfl,rfl⟩;go_wp2;go_ret;exact ⟨rfl,hwF⟩
end Go.Proofs.YtkjnkpkagcboeaaGreatDoor
namespace Go.Proofs.YtkjnkpkagcboeaaGreatDoor
theorem canon_len {l:List Int} (h:U16 l) (hl:l.length <= (limbs (val l)).length):limbs (val l) = l:=by
 obtain ⟨k,hk,e⟩:=trim_some h;have h1:=congrArg List.length e;rw [List.length_take] at h1;rw [e,List.take_of_length_le (by omega)]
theorem sum_none {o:List Int} {n1 n2:Nat} (hou:U16 o) (hl:o.length = (limbs n1).length) (h:val o = n1 + n2):limbs (n1 + n2) = o:=by
 have h1:=limbs_len_mono (show n1 <= n1 + n2 by omega);rw [<- h] at h1 ⊢;exact canon_len hou (by omega)
theorem sum_carry {o:List Int} {n1 n2 c:Nat} (hou:U16 o) (hc:0 < c) (hc2:c <= 65535) (h:val o + 65536 ^ o.length * c = n1 + n2):limbs (n1 + n2) = o ++ [(c:Int)]:=by
 have hv:val (o ++ [(c:Int)]) = n1 + n2:=by rw [val_snoc,<- h]; simp
 rw [<- hv];refine limbs_canon (hou.app (U16.cons (by omega) U16.nil)) fun x hx=>?_
 rw [List.getLast?_append] at hx;simp at hx
 omega
structure MulR (T U O : List Int) (i : Nat) : Prop where
 len:O.length = T.length + U.length
 u16:U16 O
 sum:val O = val (T.take i) * val U
 far:∀ j,i + U.length <= j -> j < O.length -> O[j]? = some 0
structure MulI (T U O : List Int) (i k c : Nat) (x : Int) : Prop where
 len:O.length = T.length + U.length
 u16:U16 O
 car:c <= 65535
 sum:val O + 65536 ^ (i + k) * c = val (T.take i) * val U + 65536 ^ i * (x.toNat * val (U.take k))
 far:∀ j,i + U.length <= j -> j < O.length -> O[j]? = some 0
theorem MulR.start (T U:List Int):MulR T U (List.replicate (T.length + U.length) 0) 0 :=
 ⟨by simp,u16_replicate _,by simp [val_replicate,val],fun j _ hl=>by simp at hl; rw [List.getElem?_replicate,if_pos hl]⟩
theorem MulR.row {T U O:List Int} {i:Nat} (h:MulR T U O i) (x:Int):MulI T U O i 0 0 x:=⟨h.len,h.u16,by omega,by simp [h.sum,val],h.far⟩
theorem MulI.next {T U O:List Int} {i k c:Nat} {x z y:Int} (h:MulI T U O i k c x) (hx:0 <= x /\ x <= 65535) (hk:k < U.length) (hz:O[i + k]? = some z) (hy:U[k]? = some y) (hy2:0 <= y /\ y <= 65535)
  {c2 d:Nat} (hd:d + 65536 * c2 = z.toNat + x.toNat * y.toNat + c) (hd2:d <= 65535):MulI T U (O.set (i + k) (d:Int)) i (k + 1) c2 x:=by
 have hz2:=h.u16.get hz;refine ⟨by rw [List.length_set]; exact h.len,h.u16.set_ ⟨by omega,by omega⟩,carry_lt (z:=z.toNat) (x:=x.toNat) (y:=y.toNat) (c:=c) (d:=d) (by omega) (by omega) (by omega) h.car hd,mul_step T U O i k c c2 d z x y hz (limbAt_some hy) h.sum hd,fun j hj hl=>?_⟩;rw [List.getElem?_set_ne (by omega)];exact h.far j hj (by simpa using hl)
theorem MulI.done {T U O:List Int} {i c:Nat} {x:Int} (h:MulI T U O i U.length c x) (hx:T[i]? = some x):MulR T U (O.set (i + U.length) (c:Int)) (i + 1):=by
 have hi:=lt_of_get hx;have hz:=h.far (i + U.length) (nlr _) (by rw [h.len]; omega);have h1:=val_set hz (c:Int);have h2:=h.sum;rw [val_take_all (nlr _),mul_end T U i x hx] at h2;have hc:=h.car;refine ⟨by rw [List.length_set]; exact h.len,h.u16.set_ ⟨by omega,by omega⟩,?_,fun j hj hl=>?_⟩
 ·
  have e:((c:Int)).toNat = c:=by omega
  rw [e] at h1;simp only [Int.toNat_zero,Nat.mul_zero,Nat.add_zero] at h1
  omega
 ·
  rw [List.getElem?_set_ne (by omega)];exact h.far j (by omega) (by simpa using hl)
theorem MulR.done {T U O:List Int} (h:MulR T U O T.length):val O = val T * val U:=by rw [h.sum,val_take_all (nlr _)]
end Go.Proofs.YtkjnkpkagcboeaaGreatDoor
namespace Go.Proofs.YtkjnkpkagcboeaaGreatDoor
open Go.RowKit
theorem take_set_snoc {O:List Int} {k:Nat} (hk:k < O.length) (d:Int):(O.set k d).take (k + 1) = O.take k ++ [d]:=by
 rw [take_more (xs:=O.set k d) (x:=d) (by simp [hk]),List.take_set_of_le (nlr _)]
theorem nadd_any (l m:List Int) (n1 n2:Nat) (a a':Option Addr) (c c':Nat) (w:World) (h:NatR w a c l) (h':NatR w a' c' m) (hn:val l = n1) (hk:val m = n2) (hl:l.length <= 10000000) (hm:m.length <= 10000000) :
  Calls Tryz.prog 190 #[.slice a l.length c,.slice a' m.length c'] w (RetN (limbs (n1 + n2)) w):=by
 have C1:=trim_any l a c w h;have C2:=trim_any m a' c' w h';have hP:=h.trim;have hQ:=h'.trim;have hl1:=limbs_len_val h.u16;have hl2:=limbs_len_val h'.u16;rw [hn] at C1 hP hl1;rw [hk] at C2 hQ hl2;have hup:=limbs_u16 n1;have huq:=limbs_u16 n2;have hvp:=val_limbs n1;have hvq:=val_limbs n2;obtain ⟨M,hM⟩:∃ M,n1 + n2 = M:=⟨_,rfl⟩
 rw [hM];have HSUM0:=Hd hM;have hT0:(limbs n1).length <= 10000000:=by omega
 have hU0:(limbs n2).length <= 10000000:=by omega
 clear hl1 hl2 h h' hn hk hM;obtain ⟨T,hT⟩:∃ T,limbs n1 = T:=⟨_,rfl⟩
 obtain ⟨U,hU⟩:∃ U,limbs n2 = U:=⟨_,rfl⟩
 have HT:=Hd hT;have HU:=Hd hU;rw [hT] at C1 hP hup hvp hT0;rw [hU] at C2 hQ huq hvq hU0;replace C1:=Hd C1; replace C2:=Hd C2;clear hT hU;by_cases hcmp:T.length < U.length
 ·
  have HP:=Hd hQ;have HQ:=Hd hP;have HVP:=Hd hvq;have HVQ:=Hd hvp;have HLP:Hid (U.length = (limbs n2).length):=Hd (by rw [HU.out]);have HSUM:Hid (M = n2 + n1):=Hd (by rw [<- HSUM0.out,Nat.add_comm]);clear hP hQ hvp hvq;obtain ⟨hup,huq⟩:=And.intro huq hup;have hmk:=run_make_nat2 .i64 U.length (U.length + 1) (by omega) (by omega) w;simp only [Int.natCast_add,Int.cast_ofNat_Int] at hmk;go_enter Tryz.func190,Tryz.ntmps190;go_wp2_with fail;refine C1.out.mono ?_;rintro e w1 ⟨rfl,rfl⟩;go_wp2_with fail;refine C2.out.mono ?_;rintro e w1 ⟨rfl,rfl⟩;go_wp2;clear hmk C1 C2;have hz0:=BlkN.new w (U.length + 1);have hb0:Below w.heap.size w (w.alloc (.cells (madeCells #[.int .u16 0] (U.length + 1)) 47)):=brf.alloc (nlr _) _;have hz:RowN (w.alloc (.cells (madeCells #[.int .u16 0] (U.length + 1)) 47)) w.heap.size (List.replicate U.length 0) [.int .u16 0]:=by
   have h1:=(RowN.of hz0).cut U.length;have e1:(List.replicate (U.length + 1) (0:Int)).take U.length = List.replicate U.length 0:=by rw [List.take_replicate]; congr 1; omega
   have e2:(List.replicate (U.length + 1) (0:Int)).drop U.length = [0]:=by rw [List.drop_replicate,show U.length + 1 - U.length = 1 by omega]; rfl
   rw [e1,e2] at h1;exact h1
  clear hz0;revert hz hb0;generalize w.alloc (.cells (madeCells #[.int .u16 0] (U.length + 1)) 47) = w0;intro hb0 hz
  go_loopg [6,7,8,28] U.length (fun g s6 _ _ s28 wr=>∃ (k cc:Nat) (O:List Int),k + g = U.length /\ s28 = .int .i64 k /\ s6 = .int .u32 cc /\ cc <= 1 /\ Hid (O.length = U.length) /\ U16 O /\ RowN wr w.heap.size O [.int .u16 0] /\ Below w.heap.size w wr /\
   Hid (val (O.take k) + 65536 ^ k * cc = val (U.take k) + val (T.take k)))
  case atStart=>exact ⟨0,0,_,by omega,rfl,rfl,by omega,by show _ = _; simp,u16_replicate _,hz,hb0,by show _ = _; simp [val]⟩
  case round =>
   clear hz hb0;obtain ⟨k,cc,O,hkg,rfl,rfl,hc1,hol,hou,hrow,hwr,hval⟩:=hrel;have HROW:=Hd hrow;have HKG:=Hd hkg;clear hrow hkg;by_cases hlt:k < U.length
   ·
    obtain ⟨x,hx⟩:=get_of_lt hlt;obtain ⟨hx0,hx1⟩:=hup.get hx;obtain ⟨bp,op,rfl,hcp⟩:=(HP.out.ext (xbw hwr)).cell hx;have hkO:k < O.length:=by rw [hol.out]; exact hlt
    obtain ⟨z,hz⟩:=get_of_lt hkO;have hcell:=HROW.out.cell hz;have hfr:=HROW.out.frozen k;have hsx:=limbAt_some hx;have hset:=fun q:Int=>HROW.out.set_ hkO q
    have HSET:=Hd hset;have htk:=fun q:Int=>take_set_snoc hkO q
    have hstep:=fun c2 d h1=>add_step U T (O.take k) k cc c2 d (by rw [List.length_take]; omega) hval.out h1
    rw [hsx] at hstep;obtain ⟨y,rfl⟩:∃ y:Nat,x = (y:Int):=⟨x.toNat,by omega⟩
    rw [Int.toNat_natCast] at hstep;have HTK:=Hd htk;have HSTEP:=Hd hstep;clear hset hstep htk hval hx hsx hz;by_cases hkn:k < T.length
    ·
     obtain ⟨t,ht⟩:=get_of_lt hkn;obtain ⟨bq,oq,rfl,hcq⟩:=(HQ.out.ext (xbw hwr)).cell ht;obtain ⟨ht0,ht1⟩:=huq.get ht;obtain ⟨t,rfl⟩:∃ s:Nat,t = (s:Int):=⟨t.toNat,by omega⟩
     have HST:=HSTEP.out;rw [limbAt_some ht,Int.toNat_natCast] at HST;obtain ⟨lo,hlo⟩:∃ lo,(cc + y + t) % 65536 = lo:=⟨_,rfl⟩
     obtain ⟨c2,hc2⟩:∃ c2,(cc + y + t) / 65536 = c2:=⟨_,rfl⟩
     have hw1:IntKind.u16.wrap ((cc:Int) + (y:Int) + (t:Int)) = (lo:Int):=by
      have:=wrap16 (cc + y + t);rw [hlo] at this;rw [<- this];simp
     have hw2:((cc:Int) + (y:Int) + (t:Int)) / 65536 = (c2:Int):=by omega
     have hlo1:lo <= 65535:=by omega
     have hc21:c2 <= 1:=by omega
     replace HST:=Hd (HST c2 lo (by omega));clear ht hlo hc2 HSTEP;go_wp2;go_roundg (gk - 1)
     case rel=>exact ⟨k + 1,c2,O.set k (lo:Int),by have:=HKG.out; omega,by go_num,rfl,by omega,by show _ = _; rw [List.length_set]; exact hol.out,hou.set_ (by omega),HSET.out lo,hwr.setCell (nlr _) _,by show _ = _; rw [HTK.out]; exact HST.out⟩
     case measure=>have:=HKG.out; omega
    ·
     have HST:=HSTEP.out;rw [limbAt_none (by omega)] at HST;obtain ⟨lo,hlo⟩:∃ lo,(cc + y) % 65536 = lo:=⟨_,rfl⟩
     obtain ⟨c2,hc2⟩:∃ c2,(cc + y) / 65536 = c2:=⟨_,rfl⟩
     have hw1:IntKind.u16.wrap ((cc:Int) + (y:Int)) = (lo:Int):=by
      have:=wrap16 (cc + y);rw [hlo] at this;rw [<- this];simp
     have hw2:((cc:Int) + (y:Int)) / 65536 = (c2:Int):=by omega
     have hlo1:lo <= 65535:=by omega
     have hc21:c2 <= 1:=by omega
     replace HST:=Hd (HST c2 lo (by simp; omega));clear hlo hc2 HSTEP;go_wp2;go_roundg (gk - 1)
     case rel=>exact ⟨k + 1,c2,O.set k (lo:Int),by have:=HKG.out; omega,by go_num,rfl,by omega,by show _ = _; rw [List.length_set]; exact hol.out,hou.set_ (by omega),HSET.out lo,hwr.setCell (nlr _) _,by show _ = _; rw [HTK.out]; exact HST.out⟩
     case measure=>have:=HKG.out; omega
   ·
    obtain rfl:k = U.length:=by have:=HKG.out; omega
    have hfin:val O + 65536 ^ O.length * cc = n2 + n1:=by
     have h1:=hval.out;rw [val_take_all (by rw [hol.out]; omega),val_take_all (nlr _),val_take_all (by omega),HVP.out,HVQ.out] at h1;rw [hol.out];exact h1
    have hown:OwnN w.heap.size wr (some ⟨w.heap.size,0,none⟩) (U.length + 1) O:=by
     have h1:=HROW.out.own (nlr _) (c:=U.length + 1) (by rw [hol.out]; rfl) (by unfold maxLen; omega) O.length (nlr _)
     rwa [List.take_length] at h1
    have HOWN:=Hd hown;have HFIN:=Hd hfin;clear hown hfin hval;by_cases hcz:cc = 0
    ·
     subst hcz;have hres:limbs (n2 + n1) = O:=by
      have h1:=HFIN.out;rw [Nat.mul_zero,Nat.add_zero] at h1;exact sum_none hou (by rw [hol.out,HLP.out]) h1
     have HRES:=Hd hres;clear hres;go_wp2;go_ret;refine RetN.own (l:=O) HOWN.out hou hwr (by rw [HSUM.out]; exact HRES.out) (hol.out.symm)
    ·
     have hres:limbs (n2 + n1) = O ++ [(cc:Int)]:=sum_carry hou (by omega) (by omega) HFIN.out;have HRES:=Hd hres;have HLO:Hid ((O ++ [(cc:Int)]).length <= 16777216):=Hd (by rw [List.length_append,hol.out]; simp; omega);obtain rfl:cc = 1:=by omega
     have hown2:=HOWN.out;have hoL:=hol.out;have hltO:¬ O.length < O.length:=Nat.lt_irrefl _;rw [<- hoL] at hown2 ⊢;obtain ⟨cO,hcO⟩:∃ q,O.length + 1 = q:=⟨_,rfl⟩
     rw [hcO] at hown2 ⊢;replace HOWN:=Hd hown2;replace hoL:=Hd hoL;clear hres hown2 hcz hcO;go_wp2_with (at_builtin; go_must (refine append_nat rfl (.tmp 58) (.tmp 61) rfl (some ⟨w.heap.size,0,none⟩) cO rfl (HOWN.out.alloc _) ((1:Nat):Int) wr.heap.size 1 rfl (by simp) (O ++ [((1:Nat):Int)]) rfl HLO.out (by have:=hwr.size; simp; omega) ?_); intro a2 c2 w2 ho2 hg2 hx2);go_ret;exact RetN.own ho2 (hou.app (U16.cons (by omega) U16.nil)) (below_append' (hwr.alloc hwr.size _) (HOWN.out.alloc _) hg2) (by rw [HSUM.out]; exact HRES.out) (by simp)
 ·
  have HP:=Hd hP;have HQ:=Hd hQ;have HVP:=Hd hvp;have HVQ:=Hd hvq;have HLP:Hid (T.length = (limbs n1).length):=Hd (by rw [HT.out]);have HSUM:Hid (M = n1 + n2):=Hd HSUM0.out.symm;clear hP hQ hvp hvq;have hmk:=run_make_nat2 .i64 T.length (T.length + 1) (by omega) (by omega) w;simp only [Int.natCast_add,Int.cast_ofNat_Int] at hmk;go_enter Tryz.func190,Tryz.ntmps190;go_wp2_with fail;refine C1.out.mono ?_;rintro e w1 ⟨rfl,rfl⟩;go_wp2_with fail;refine C2.out.mono ?_;rintro e w1 ⟨rfl,rfl⟩;go_wp2;clear hmk C1 C2;have hz0:=BlkN.new w (T.length + 1);have hb0:Below w.heap.size w (w.alloc (.cells (madeCells #[.int .u16 0] (T.length + 1)) 47)):=brf.alloc (nlr _) _;have hz:RowN (w.alloc (.cells (madeCells #[.int .u16 0] (T.length + 1)) 47)) w.heap.size (List.replicate T.length 0) [.int .u16 0]:=by
   have h1:=(RowN.of hz0).cut T.length;have e1:(List.replicate (T.length + 1) (0:Int)).take T.length = List.replicate T.length 0:=by rw [List.take_replicate]; congr 1; omega
   have e2:(List.replicate (T.length + 1) (0:Int)).drop T.length = [0]:=by rw [List.drop_replicate,show T.length + 1 - T.length = 1 by omega]; rfl
   rw [e1,e2] at h1;exact h1
  clear hz0;revert hz hb0;generalize w.alloc (.cells (madeCells #[.int .u16 0] (T.length + 1)) 47) = w0;intro hb0 hz
  go_loopg [6,7,8,28] T.length (fun g s6 _ _ s28 wr=>∃ (k cc:Nat) (O:List Int),k + g = T.length /\ s28 = .int .i64 k /\ s6 = .int .u32 cc /\ cc <= 1 /\ Hid (O.length = T.length) /\ U16 O /\ RowN wr w.heap.size O [.int .u16 0] /\ Below w.heap.size w wr /\
   Hid (val (O.take k) + 65536 ^ k * cc = val (T.take k) + val (U.take k)))
  case atStart=>exact ⟨0,0,_,by omega,rfl,rfl,by omega,by show _ = _; simp,u16_replicate _,hz,hb0,by show _ = _; simp [val]⟩
  case round =>
   clear hz hb0;obtain ⟨k,cc,O,hkg,rfl,rfl,hc1,hol,hou,hrow,hwr,hval⟩:=hrel;have HROW:=Hd hrow;have HKG:=Hd hkg;clear hrow hkg;by_cases hlt:k < T.length
   ·
    obtain ⟨x,hx⟩:=get_of_lt hlt;obtain ⟨hx0,hx1⟩:=hup.get hx;obtain ⟨bp,op,rfl,hcp⟩:=(HP.out.ext (xbw hwr)).cell hx;have hkO:k < O.length:=by rw [hol.out]; exact hlt
    obtain ⟨z,hz⟩:=get_of_lt hkO;have hcell:=HROW.out.cell hz;have hfr:=HROW.out.frozen k;have hsx:=limbAt_some hx;have hset:=fun q:Int=>HROW.out.set_ hkO q
    have HSET:=Hd hset;have htk:=fun q:Int=>take_set_snoc hkO q
    have hstep:=fun c2 d h1=>add_step T U (O.take k) k cc c2 d (by rw [List.length_take]; omega) hval.out h1
    rw [hsx] at hstep;obtain ⟨y,rfl⟩:∃ y:Nat,x = (y:Int):=⟨x.toNat,by omega⟩
    rw [Int.toNat_natCast] at hstep;have HTK:=Hd htk;have HSTEP:=Hd hstep;clear hset hstep htk hval hx hsx hz;by_cases hkn:k < U.length
    ·
     obtain ⟨t,ht⟩:=get_of_lt hkn;obtain ⟨bq,oq,rfl,hcq⟩:=(HQ.out.ext (xbw hwr)).cell ht;obtain ⟨ht0,ht1⟩:=huq.get ht;obtain ⟨t,rfl⟩:∃ s:Nat,t = (s:Int):=⟨t.toNat,by omega⟩
     have HST:=HSTEP.out;rw [limbAt_some ht,Int.toNat_natCast] at HST;obtain ⟨lo,hlo⟩:∃ lo,(cc + y + t) % 65536 = lo:=⟨_,rfl⟩
     obtain ⟨c2,hc2⟩:∃ c2,(cc + y + t) / 65536 = c2:=⟨_,rfl⟩
     have hw1:IntKind.u16.wrap ((cc:Int) + (y:Int) + (t:Int)) = (lo:Int):=by
      have:=wrap16 (cc + y + t);rw [hlo] at this;rw [<- this];simp
     have hw2:((cc:Int) + (y:Int) + (t:Int)) / 65536 = (c2:Int):=by omega
     have hlo1:lo <= 65535:=by omega
     have hc21:c2 <= 1:=by omega
     replace HST:=Hd (HST c2 lo (by omega));clear ht hlo hc2 HSTEP;go_wp2;go_roundg (gk - 1)
     case rel=>exact ⟨k + 1,c2,O.set k (lo:Int),by have:=HKG.out; omega,by go_num,rfl,by omega,by show _ = _; rw [List.length_set]; exact hol.out,hou.set_ (by omega),HSET.out lo,hwr.setCell (nlr _) _,by show _ = _; rw [HTK.out]; exact HST.out⟩
     case measure=>have:=HKG.out; omega
    ·
     have HST:=HSTEP.out;rw [limbAt_none (by omega)] at HST;obtain ⟨lo,hlo⟩:∃ lo,(cc + y) % 65536 = lo:=⟨_,rfl⟩
     obtain ⟨c2,hc2⟩:∃ c2,(cc + y) / 65536 = c2:=⟨_,rfl⟩
     have hw1:IntKind.u16.wrap ((cc:Int) + (y:Int)) = (lo:Int):=by
      have:=wrap16 (cc + y);rw [hlo] at this;rw [<- this];simp
     have hw2:((cc:Int) + (y:Int)) / 65536 = (c2:Int):=by omega
     have hlo1:lo <= 65535:=by omega
     have hc21:c2 <= 1:=by omega
     replace HST:=Hd (HST c2 lo (by simp; omega));clear hlo hc2 HSTEP;go_wp2;go_roundg (gk - 1)
     case rel=>exact ⟨k + 1,c2,O.set k (lo:Int),by have:=HKG.out; omega,by go_num,rfl,by omega,by show _ = _; rw [List.length_set]; exact hol.out,hou.set_ (by omega),HSET.out lo,hwr.setCell (nlr _) _,by show _ = _; rw [HTK.out]; exact HST.out⟩
     case measure=>have:=HKG.out; omega
   ·
    obtain rfl:k = T.length:=by have:=HKG.out; omega
    have hfin:val O + 65536 ^ O.length * cc = n1 + n2:=by
     have h1:=hval.out;rw [val_take_all (by rw [hol.out]; omega),val_take_all (nlr _),val_take_all (by omega),HVP.out,HVQ.out] at h1;rw [hol.out];exact h1
    have hown:OwnN w.heap.size wr (some ⟨w.heap.size,0,none⟩) (T.length + 1) O:=by
     have h1:=HROW.out.own (nlr _) (c:=T.length + 1) (by rw [hol.out]; rfl) (by unfold maxLen; omega) O.length (nlr _)
     rwa [List.take_length] at h1
    have HOWN:=Hd hown;have HFIN:=Hd hfin;clear hown hfin hval;by_cases hcz:cc = 0
    ·
     subst hcz;have hres:limbs (n1 + n2) = O:=by
      have h1:=HFIN.out;rw [Nat.mul_zero,Nat.add_zero] at h1;exact sum_none hou (by rw [hol.out,HLP.out]) h1
     have HRES:=Hd hres;clear hres;go_wp2;go_ret;refine RetN.own (l:=O) HOWN.out hou hwr (by rw [HSUM.out]; exact HRES.out) (hol.out.symm)
    ·
     have hres:limbs (n1 + n2) = O ++ [(cc:Int)]:=sum_carry hou (by omega) (by omega) HFIN.out;have HRES:=Hd hres;have HLO:Hid ((O ++ [(cc:Int)]).length <= 16777216):=Hd (by rw [List.length_append,hol.out]; simp; omega);obtain rfl:cc = 1:=by omega
     have hown2:=HOWN.out;have hoL:=hol.out;have hltO:¬ O.length < O.length:=Nat.lt_irrefl _;rw [<- hoL] at hown2 ⊢;obtain ⟨cO,hcO⟩:∃ q,O.length + 1 = q:=⟨_,rfl⟩
     rw [hcO] at hown2 ⊢;replace HOWN:=Hd hown2;replace hoL:=Hd hoL;clear hres hown2 hcz hcO;go_wp2_with (at_builtin; go_must (refine append_nat rfl (.tmp 58) (.tmp 61) rfl (some ⟨w.heap.size,0,none⟩) cO rfl (HOWN.out.alloc _) ((1:Nat):Int) wr.heap.size 1 rfl (by simp) (O ++ [((1:Nat):Int)]) rfl HLO.out (by have:=hwr.size; simp; omega) ?_); intro a2 c2 w2 ho2 hg2 hx2);go_ret;exact RetN.own ho2 (hou.app (U16.cons (by omega) U16.nil)) (below_append' (hwr.alloc hwr.size _) (HOWN.out.alloc _) hg2) (by rw [HSUM.out]; exact HRES.out) (by simp)
theorem nmul_zero (l m:List Int) (n1 n2:Nat) (a a':Option Addr) (c c':Nat) (w:World) (h:NatR w a c l) (h':NatR w a' c' m) (hn:val l = n1) (hk:val m = n2) (h0:n1 = 0 \/ n2 = 0) :
  Calls Tryz.prog 125 #[.slice a l.length c,.slice a' m.length c'] w (RetN [] w):=by
 have C1:=trim_any l a c w h;have C2:=trim_any m a' c' w h';rw [hn] at C1;rw [hk] at C2;have hp1:=limbs_len_pos (n:=n1);have hp2:=limbs_len_pos (n:=n2);have hle:=h'.len;have hle2:=limbs_len_val h'.u16;rw [hk] at hle2;clear h h' hn hk;revert C1 C2 hp1 hp2 hle2;generalize (limbs n1).length = T;generalize (limbs n2).length = U;intro C1 C2 hp1 hp2 hle2;replace C1:=Hd C1; replace C2:=Hd C2;by_cases hT:T = 0
 ·
  have hT1:((T:Int) == 0) = true:=by rw [beq_iff_eq]; omega
  clear hp1 hp2 h0 hT;go_enter Tryz.func125,Tryz.ntmps125;go_wp2_with fail;refine C1.out.mono ?_;rintro e w1 ⟨rfl,rfl⟩;go_wp2_with fail;refine C2.out.mono ?_;rintro e w1 ⟨rfl,rfl⟩;go_wp2;go_ret;exact ⟨none,0,rfl,fun _ _=>SlR.nil,Below.refl _ _⟩
 ·
  have hT1:((T:Int) == 0) = false:=by rw [beq_eq_false_iff_ne]; omega
  have hU1:((U:Int) == 0) = true:=by rw [beq_iff_eq]; omega
  clear hp1 hp2 h0 hT;go_enter Tryz.func125,Tryz.ntmps125;go_wp2_with fail;refine C1.out.mono ?_;rintro e w1 ⟨rfl,rfl⟩;go_wp2_with fail;refine C2.out.mono ?_;rintro e w1 ⟨rfl,rfl⟩;go_wp2;go_ret;exact ⟨none,0,rfl,fun _ _=>SlR.nil,Below.refl _ _⟩
theorem nmul_pos (l m:List Int) (n1 n2:Nat) (a a':Option Addr) (c c':Nat) (w:World) (h:NatR w a c l) (h':NatR w a' c' m) (hn:val l = n1) (hk:val m = n2) (hl:l.length <= 8000000) (hm:m.length <= 8000000) (h1:n1 ≠ 0) (h2:n2 ≠ 0) :
  Calls Tryz.prog 125 #[.slice a l.length c,.slice a' m.length c'] w (RetN (limbs (n1 * n2)) w):=by
 have C1:=trim_any l a c w h;have C2:=trim_any m a' c' w h';have hP:=h.trim;have hQ:=h'.trim;have hl1:=limbs_len_val h.u16;have hl2:=limbs_len_val h'.u16;rw [hn] at C1 hP hl1;rw [hk] at C2 hQ hl2;have hup:=limbs_u16 n1;have huq:=limbs_u16 n2;have hvp:=val_limbs n1;have hvq:=val_limbs n2;have hp1:=limbs_len_pos.2 (show 0 < n1 by omega);have hp2:=limbs_len_pos.2 (show 0 < n2 by omega);obtain ⟨M,hM⟩:∃ M,n1 * n2 = M:=⟨_,rfl⟩
 rw [hM];have HM:=Hd hM;have hT0:(limbs n1).length <= 8000000:=by omega
 have hU0:(limbs n2).length <= 8000000:=by omega
 clear hl1 hl2 h h' hn hk hM h1 h2;revert C1 C2 hP hQ hup huq hvp hvq hp1 hp2 hT0 hU0;generalize limbs n1 = T;generalize limbs n2 = U;intro C1 C2 hP hQ hup huq hvp hvq hp1 hp2 hT0 hU0;have HP:=Hd hP;have HQ:=Hd hQ;have HVP:=Hd hvp;have HVQ:=Hd hvq;have HUP:=Hd hup;have HUQ:=Hd huq;replace C1:=Hd C1; replace C2:=Hd C2;have hT1:((T.length:Int) == 0) = false:=by rw [beq_eq_false_iff_ne]; omega
 have hU1:((U.length:Int) == 0) = false:=by rw [beq_eq_false_iff_ne]; omega
 have hmk:∀ w,(Instr.makeSlice 50 (.int .i64 ((T.length:Int) + U.length)) (.int .i64 ((T.length:Int) + U.length))).run Tryz.prog w = .ok (.slice (some ⟨w.heap.size,0,none⟩) (T.length + U.length) (T.length + U.length)) (w.alloc (.cells (madeCells #[.int .u16 0] (T.length + U.length)) 47)):=fun w=>by
  have:=run_make_nat .i64 (T.length + U.length) (by omega) w;simpa using this
 clear hP hQ hvp hvq hup huq;go_enter Tryz.func125,Tryz.ntmps125;go_wp2_with fail;refine C1.out.mono ?_;rintro e w1 ⟨rfl,rfl⟩;go_wp2_with fail;refine C2.out.mono ?_;rintro e w1 ⟨rfl,rfl⟩;go_wp2;clear hmk C1 C2 hT1 hU1;have hz:=BlkN.new w (T.length + U.length);have hb0:Below w.heap.size w (w.alloc (.cells (madeCells #[.int .u16 0] (T.length + U.length)) 47)):=brf.alloc (nlr _) _;revert hz hb0;generalize w.alloc (.cells (madeCells #[.int .u16 0] (T.length + U.length)) 47) = w0;intro hz hb0
 go_loopg [6,7,8,9,10,31] T.length (fun g _ _ _ _ _ s31 wr=>∃ (i:Nat) (O:List Int),i + g = T.length /\ s31 = .int .i64 i /\ Hid (MulR T U O i) /\ BlkN wr w.heap.size O /\ Below w.heap.size w wr)
 case atStart=>exact ⟨0,_,by omega,rfl,MulR.start T U,hz,hb0⟩
 case round =>
  clear hz hb0;obtain ⟨i,O,hig,rfl,hR,hrow,hwr⟩:=hrel;have HROW:=Hd hrow;have HIG:=Hd hig;clear hrow hig;by_cases hlt:i < T.length
  ·
   obtain ⟨x,hx⟩:=get_of_lt hlt;obtain ⟨hx0,hx1⟩:=HUP.out.get hx;obtain ⟨bp,op,rfl,hcp⟩:=(HP.out.ext (xbw hwr)).cell hx;have hI:=hR.out.row x;have HX:=Hd hx;have HI:=Hd hI;clear hx hI hR;go_wp2;clear hcp;obtain ⟨wo,rfl⟩:∃ wo:World,wo = wr:=⟨_,rfl⟩
   obtain ⟨gk0,rfl⟩:∃ gk0:Nat,gk0 = gk:=⟨_,rfl⟩
   go_loopg [8,9,10,38] U.length (fun g s8 _ _ s38 w2=>∃ (k cc:Nat) (O2:List Int),k + g = U.length /\ s38 = .int .i64 k /\ s8 = .int .u32 cc /\ cc <= 65535 /\ Hid (MulI T U O2 i k cc x) /\ BlkN w2 w.heap.size O2 /\ Below w.heap.size w w2)
   case atStart=>exact ⟨0,0,O,by omega,rfl,rfl,by omega,HI.out,HROW.out,hwr⟩
   case round =>
    clear HI HROW hwr O;obtain ⟨k,cc,O,hkg,rfl,rfl,hcc,hI,hrow,hwr⟩:=hrel;have HROW:=Hd hrow;have HKG:=Hd hkg;clear hrow hkg;by_cases hkn:k < U.length
    ·
     obtain ⟨y,hy⟩:=get_of_lt hkn;obtain ⟨hy0,hy1⟩:=HUQ.out.get hy;obtain ⟨bq,oq,rfl,hcq⟩:=(HQ.out.ext (xbw hwr)).cell hy;obtain ⟨z,hz⟩:=get_of_lt (xs:=O) (k:=i + k) (by rw [hI.out.len]; omega);obtain ⟨hz0,hz1⟩:=hI.out.u16.get hz;have hcell:=HROW.out.cell hz;have hfr:=HROW.out.frozen (i + k);have hset:=fun q:Int=>HROW.out.set_ (i + k) q
     have HSET:=Hd hset;have hstep:=fun (c2 d:Nat)=>hI.out.next ⟨hx0,hx1⟩ hkn hz hy ⟨hy0,hy1⟩ (c2:=c2) (d:=d)
     have hI2:(i:Int) + k < (T.length:Int) + U.length:=by omega
     have hxy:0 <= x * y:=Int.mul_nonneg hx0 hy0;have hxy2:x * y <= 4294836225:=by
      have:=Int.mul_le_mul hx1 hy1 hy0 (by omega)
      omega
     obtain ⟨s,hs⟩:∃ s:Nat,(cc:Int) + (z + x * y) = (s:Int):=⟨((cc:Int) + (z + x * y)).toNat,by omega⟩
     have hs2:s = z.toNat + x.toNat * y.toNat + cc:=by
      have ex:(x.toNat:Int) = x:=by omega
      have ey:(y.toNat:Int) = y:=by omega
      have ez:(z.toNat:Int) = z:=by omega
      have:((z.toNat + x.toNat * y.toNat + cc:Nat):Int) = z + x * y + cc:=by
       rw [Int.natCast_add,Int.natCast_add,Int.natCast_mul,ex,ey,ez]
      omega
     have hslt:s < 4294967296:=by omega
     obtain ⟨lo,hlo⟩:∃ lo,s % 65536 = lo:=⟨_,rfl⟩
     obtain ⟨c2,hc2⟩:∃ c2,s / 65536 = c2:=⟨_,rfl⟩
     have HST:=Hd (hstep c2 lo (by omega) (by omega));have hw16:IntKind.u16.wrap (s:Int) = (lo:Int):=by rw [wrap16,hlo]
     have hdv:(s:Int) / 65536 = (c2:Int):=by omega
     have hlo2:lo <= 65535:=by omega
     have hc22:c2 <= 65535:=by omega
     clear hset hstep hz hy hs2 hlo hc2 hI;go_wp2;go_roundg (gk - 1)
     case rel=>exact ⟨k + 1,c2,O.set (i + k) (lo:Int),by have:=HKG.out; omega,by go_num,rfl,by omega,HST.out,HSET.out lo,hwr.setCell (nlr _) _⟩
     case measure=>have:=HKG.out; omega
    ·
     obtain rfl:k = U.length:=by have:=HKG.out; omega
     have hdone:=hI.out.done HX.out;have HD:=Hd hdone;obtain ⟨z,hz⟩:=get_of_lt (xs:=O) (k:=i + U.length) (by rw [hI.out.len]; omega);have hcell:=HROW.out.cell hz;have hfr:=HROW.out.frozen (i + U.length);have hset:=fun q:Int=>HROW.out.set_ (i + U.length) q
     have HSET:=Hd hset;have hI2:(i:Int) + U.length < (T.length:Int) + U.length:=by omega
     have hw16:IntKind.u16.wrap (cc:Int) = (cc:Int):=by rw [wrap16,Nat.mod_eq_of_lt (by omega)]
     clear hset hz hdone hI;go_wp2;go_roundg (gk0 - 1)
     case rel=>exact ⟨i + 1,O.set (i + U.length) (cc:Int),by have:=HIG.out; omega,by go_num,HD.out,HSET.out cc,hwr.setCell (nlr _) _⟩
     case measure=>have:=HIG.out; omega
  ·
   obtain rfl:i = T.length:=by have:=HIG.out; omega
   have hvO:val O = M:=by rw [hR.out.done,HVP.out,HVQ.out]; exact HM.out
   have hol:=hR.out.len;have hou:=hR.out.u16;have hcap:T.length + U.length <= maxLen:=by unfold maxLen; omega
   have CT:=trim_any O (some ⟨w.heap.size,0,none⟩) (T.length + U.length) wr (HROW.out.readsV (nlr _) (New.refl _ _) hou (by rw [hol]; omega) hcap);have hread:∀ V,New w.heap.size wr V -> NatR V (some ⟨w.heap.size,0,none⟩) (T.length + U.length) (limbs M):=fun V hV=>by
    rw [<- hvO];exact (HROW.out.readsV (nlr _) hV hou (by rw [hol]; omega) hcap).trim
   rw [hvO,hol] at CT;have HRD:=Hd hread;replace CT:=Hd CT;clear hread hvO hR hol;go_wp2_with fail;refine CT.out.mono ?_;rintro e w3 ⟨rfl,rfl⟩;go_wp2;go_ret;exact ⟨_,_,rfl,HRD.out,hwr⟩
theorem nmul_any (l m:List Int) (n1 n2:Nat) (a a':Option Addr) (c c':Nat) (w:World) (h:NatR w a c l) (h':NatR w a' c' m) (hn:val l = n1) (hk:val m = n2) (hl:l.length <= 8000000) (hm:m.length <= 8000000) :
  Calls Tryz.prog 125 #[.slice a l.length c,.slice a' m.length c'] w (RetN (limbs (n1 * n2)) w):=by
 by_cases h1:n1 = 0
 ·
  rw [h1,Nat.zero_mul,limbs_zero];exact nmul_zero l m n1 n2 a a' c c' w h h' hn hk (.inl h1)
 ·
  by_cases h2:n2 = 0
  ·
   rw [h2,Nat.mul_zero,limbs_zero];exact nmul_zero l m n1 n2 a a' c c' w h h' hn hk (.inr h2)
  · exact nmul_pos l m n1 n2 a a' c c' w h h' hn hk hl hm h1 h2
theorem zmul_any (neg1 neg2:Bool) (l m:List Int) (n1 n2:Nat) (a a':Option Addr) (c c':Nat) (w:World) (h:NatR w a c l) (h':NatR w a' c' m) (hn:val l = n1) (hk:val m = n2) (hl:l.length <= 2000000) (hm:m.length <= 2000000) :
  Calls Tryz.prog 123 #[.agg #[.bool neg1,.slice a l.length c],.agg #[.bool neg2,.slice a' m.length c']] w (RetZ ((neg1 != neg2) && decide (0 < n1 * n2)) (n1 * n2) w):=by
 have CM:=fun W (hW:Below w.heap.size w W)=>nmul_any l m n1 n2 a a' c c' W (h.ext (xbw hW)) (h'.ext (xbw hW)) hn hk (by omega) (by omega)
 have CF:=fun a c W=>made_any (neg1 != neg2) (n1 * n2) a c W
 obtain ⟨R,hR⟩:∃ q,((neg1 != neg2) && decide (0 < n1 * n2)) = q:=⟨_,rfl⟩
 rw [hR] at CF ⊢;have hR0:True:=trivial;revert CM CF;generalize n1 * n2 = n;intro CM CF;replace CM:=Hd CM; replace CF:=Hd CF;have hz:Blk (((w.alloc (.cells #[.bool neg1,.slice a l.length c] 52)).alloc (.cells #[.bool neg2,.slice a' m.length c'] 52)).alloc (.cells #[.bool false,.slice none 0 0] 52)) (w.heap.size + 1 + 1) 52 #[.bool false,.slice none 0 0]:=blk_at2 w _ _ _ _;have hx1:Blk (((w.alloc (.cells #[.bool neg1,.slice a l.length c] 52)).alloc (.cells #[.bool neg2,.slice a' m.length c'] 52)).alloc (.cells #[.bool false,.slice none 0 0] 52)) w.heap.size 52 #[.bool neg1,.slice a l.length c]:=((Blk.new w _ _).alloc _).alloc _;have hx2:Blk (((w.alloc (.cells #[.bool neg1,.slice a l.length c] 52)).alloc (.cells #[.bool neg2,.slice a' m.length c'] 52)).alloc (.cells #[.bool false,.slice none 0 0] 52)) (w.heap.size + 1) 52 #[.bool neg2,.slice a' m.length c']:=(blk_at1 w _ _ _).alloc _
 have hb0:Below w.heap.size w (((w.alloc (.cells #[.bool neg1,.slice a l.length c] 52)).alloc (.cells #[.bool neg2,.slice a' m.length c'] 52)).alloc (.cells #[.bool false,.slice none 0 0] 52)):=by go_grown
 have hgB:w.heap.size <= w.heap.size + 1 + 1:=by omega
 clear h h' hn hk hR;go_enter Tryz.func123,Tryz.ntmps123;go_wp2;revert hz hx1 hx2 hb0 hgB;generalize ((w.alloc (.cells #[.bool neg1,.slice a l.length c] 52)).alloc (.cells #[.bool neg2,.slice a' m.length c'] 52)).alloc (.cells #[.bool false,.slice none 0 0] 52) = w0;generalize w.heap.size + 1 + 1 = g;intro hz hx1 hx2 hb0 hgB;have k0:=held (hx1.cell 0); have k1:=held (hx1.cell 1); have k2:=held (hx2.cell 0); have k3:=held (hx2.cell 1);have s0:Below w0.heap.size w0 w0.drew:=brf.drew;have hgl:=hz.lt;have hs0:=hb0.size;have HR:=Hd hR0;clear hR0
 cases neg1 <;> cases neg2
 all_goals
  refine wp_region_mix (S:=Below w0.heap.size w0) [(0,.q),(1,.q),(2,.q),(3,.q),(4,.q),(5,.q),(6,.q),(7,.q),(8,.q),(9,.l),(10,.t),(11,.t)] (by kernel_rfl) (by kernel_rfl) (by kernel_rfl) (fun d _ _ _ _ h=>by cases d <;> exact h) (s0) ?_
  iterate 9 (refine wpMix_q rfl rfl (fun K hK=>?_); apply Exists.intro; refine ⟨fun w' hw'=>?_,?_⟩; (focus (go_simp; try rfl)); go_simp; refine hK _ _ ?_; clear hK K)
  refine wpMix_l rfl rfl (fun K hK=>?_);go_simp;refine (CM.out _ (bth hb0 s0)).mono ?_;rintro r w1 ⟨a3,c3,rfl,hV3,hb1⟩;dsimp only;refine hK.out _ _ (bth s0 hb1) (fun _=>?_);clear hK K;have s1:=bth s0 hb1;have HV:=Hd hV3;clear hV3;refine wpMix_t rfl rfl (fun K hK=>?_);go_simp;refine (CF.out _ _ _).mono ?_;rintro r w2 ⟨rfl,hb2⟩;dsimp only;refine hK.out _ _ ?_;clear hK K;have s2:=bth s1 hb2;have hz3:=hz.below' s2;have z0:=hz3.cell 0; have z1:=hz3.cell 1; have f0:=hz3.frozen 0; have f1:=hz3.frozen 1;have hw2:=bth hb0 s2;clear k0 k1 k2 k3;refine wpMix_t rfl rfl (fun K hK=>?_);go_simp;refine hK.out _ _ ?_;clear hK K;refine wpMix_nil ?_;go_wp2;have hF:=blk2 (x:=.bool R) (y:=.slice a3 (limbs n).length c3) hz3;have e0:=hF.cell 0; have e1:=hF.cell 1;refine bodyPost_ret (v:=.agg #[.bool R,.slice a3 (limbs n).length c3]) (by simp [results,Tryz.results123,go_sem,e0,e1]) rfl ?_
  exact ⟨a3,c3,rfl,fun V hV=>HV.out V ((back2 hV hs0 hgl).below hb2),below2 hw2 hgB⟩
theorem byValue_any (l m:List Int) (n1 n2:Nat) (a a':Option Addr) (c c':Nat) (w:World) (h:NatR w a c l) (h':NatR w a' c' m) (hn:val l = n1) (hk:val m = n2) :
  Calls Tryz.prog 187 #[.slice a l.length c,.slice a' m.length c'] w fun e w'=>e = .returned (.int .i64 (cmpN n1 n2)) /\ Below w.heap.size w w':=by
 have C:=cmp_any l m n1 n2 a a' c c' w h h' hn hk;replace C:=Hd C;clear h h' hn hk;go_enter Tryz.func187,Tryz.ntmps187;go_wp2_with fail;refine C.out.mono ?_;rintro e w1 ⟨rfl,hb⟩;go_wp2;go_ret;exact ⟨rfl,hb⟩
theorem zcmp_sgn (neg1 neg2:Bool) (n1 n2:Nat):cmpI (zval neg1 n1) (zval neg2 n2) = if sgnZ neg1 n1 < sgnZ neg2 n2 then -1 else if sgnZ neg2 n2 < sgnZ neg1 n1 then 1 else if sgnZ neg1 n1 < 0 then cmpN n2 n1 else cmpN n1 n2:=by
 unfold cmpI zval cmpN sgnZ
 cases neg1 <;> cases neg2 <;> by_cases p1:n1 = 0 <;> by_cases p2:n2 = 0 <;> simp [p1,p2]
 all_goals (repeat' split) <;> omega
theorem sgnZ_in (neg:Bool) (n:Nat):-1 <= sgnZ neg n /\ sgnZ neg n <= 1:=by unfold sgnZ; split <;> (try split) <;> omega
theorem zcmp_any (neg1 neg2:Bool) (l m:List Int) (n1 n2:Nat) (a a':Option Addr) (c c':Nat) (w:World) (h:NatR w a c l) (h':NatR w a' c' m) (hn:val l = n1) (hk:val m = n2) (hl:l.length <= 4000000) (hm:m.length <= 4000000) :
  Calls Tryz.prog 147 #[.agg #[.bool neg1,.slice a l.length c],.agg #[.bool neg2,.slice a' m.length c']] w fun e w'=>e = .returned (.int .i64 (cmpI (zval neg1 n1) (zval neg2 n2))) /\ Below w.heap.size w w':=by
 have C1:=fun W (hW:Below w.heap.size w W)=>zsign_any neg1 l n1 a c W (h.ext (xbw hW)) hn (by omega)
 have C2:=fun W (hW:Below w.heap.size w W)=>zsign_any neg2 m n2 a' c' W (h'.ext (xbw hW)) hk (by omega)
 have CA:=fun W (hW:Below w.heap.size w W)=>byValue_any l m n1 n2 a a' c c' W (h.ext (xbw hW)) (h'.ext (xbw hW)) hn hk
 have CB:=fun W (hW:Below w.heap.size w W)=>byValue_any m l n2 n1 a' a c' c W (h'.ext (xbw hW)) (h.ext (xbw hW)) hk hn
 have hres:=zcmp_sgn neg1 neg2 n1 n2;have i1:=sgnZ_in neg1 n1;have i2:=sgnZ_in neg2 n2;revert C1 C2 hres i1 i2;generalize sgnZ neg1 n1 = s;generalize sgnZ neg2 n2 = t;intro C1 C2 hres i1 i2;obtain ⟨R,hR⟩:∃ q,cmpI (zval neg1 n1) (zval neg2 n2) = q:=⟨_,rfl⟩
 rw [hR] at hres ⊢;have HRES:=Hd hres;replace C1:=Hd C1; replace C2:=Hd C2; replace CA:=Hd CA; replace CB:=Hd CB;have hx1:Blk ((w.alloc (.cells #[.bool neg1,.slice a l.length c] 52)).alloc (.cells #[.bool neg2,.slice a' m.length c'] 52)) w.heap.size 52 #[.bool neg1,.slice a l.length c]:=(Blk.new w _ _).alloc _;have hx2:Blk ((w.alloc (.cells #[.bool neg1,.slice a l.length c] 52)).alloc (.cells #[.bool neg2,.slice a' m.length c'] 52)) (w.heap.size + 1) 52 #[.bool neg2,.slice a' m.length c']:=blk_at1 w _ _ _;have hb0:Below w.heap.size w ((w.alloc (.cells #[.bool neg1,.slice a l.length c] 52)).alloc (.cells #[.bool neg2,.slice a' m.length c'] 52)):=by go_grown
 clear h h' hn hk hR hres;go_enter Tryz.func147,Tryz.ntmps147;go_wp2;revert hx1 hx2 hb0;generalize (w.alloc (.cells #[.bool neg1,.slice a l.length c] 52)).alloc (.cells #[.bool neg2,.slice a' m.length c'] 52) = w0;generalize w.heap.size + 1 = g;intro hx1 hx2 hb0;have k0:=held (hx1.cell 0); have k1:=held (hx1.cell 1); have k2:=held (hx2.cell 0); have k3:=held (hx2.cell 1);have s0:Below w0.heap.size w0 w0.drew:=brf.drew;refine wp_region_mix (S:=Below w0.heap.size w0) [(0,.q),(2,.q),(1,.l),(3,.t),(4,.p),(5,.p)] (by kernel_rfl) (by kernel_rfl) (by kernel_rfl) (fun d _ _ _ _ h=>by cases d <;> exact h) (s0) ?_
 iterate 2 (refine wpMix_q rfl rfl (fun K hK=>?_); apply Exists.intro; refine ⟨fun w' hw'=>?_,?_⟩; (focus (go_simp; try rfl)); go_simp; refine hK _ _ ?_; clear hK K)
 refine wpMix_l rfl rfl (fun K hK=>?_);go_simp;refine (C1.out _ (bth hb0 s0)).mono ?_;rintro r w1 ⟨rfl,hb1⟩;dsimp only;refine hK.out _ _ (bth s0 hb1) (fun _=>?_);clear hK K;have s1:=bth s0 hb1;refine wpMix_t rfl rfl (fun K hK=>?_);go_simp;refine (C2.out _ (bth hb0 s1)).mono ?_;rintro r w2 ⟨rfl,hb2⟩;dsimp only;refine hK.out _ _ ?_;clear hK K;have s2:=bth s1 hb2
 iterate 2 (refine wpMix_p rfl rfl (fun K hK=>?_); apply Exists.intro; refine ⟨fun w'=>?_,?_⟩; (focus (go_simp; try rfl)); go_simp; refine hK _ _ ?_; clear hK K)
 refine wpMix_nil ?_;have hy1:=hx1.below' s2;have hy2:=hx2.below' s2;have z0:=hy1.cell 0; have z1:=hy1.cell 1; have z2:=hy2.cell 0; have z3:=hy2.cell 1;have hw2:=bth hb0 s2;clear k0 k1 k2 k3 s0 s1 s2 hb1 hb2 C1 C2;by_cases h1:s < t
 ·
  obtain rfl:R = -1:=by rw [HRES.out,if_pos h1]
  go_wp2;go_ret;exact ⟨rfl,hw2⟩
 ·
  by_cases h2:t < s
  ·
   obtain rfl:R = 1:=by rw [HRES.out,if_neg h1,if_pos h2]
   go_wp2;go_ret;exact ⟨rfl,hw2⟩
  ·
   by_cases h3:s < 0
   ·
    obtain rfl:R = cmpN n2 n1:=by rw [HRES.out,if_neg h1,if_neg h2,if_pos h3]
    go_wp2_with fail;refine (CB.out _ hw2).mono ?_;rintro e w5 ⟨rfl,hb5⟩;go_wp2;go_ret;exact ⟨rfl,bth hw2 hb5⟩
   ·
    obtain rfl:R = cmpN n1 n2:=by rw [HRES.out,if_neg h1,if_neg h2,if_neg h3]
    go_wp2_with fail;refine (CA.out _ hw2).mono ?_;rintro e w5 ⟨rfl,hb5⟩;go_wp2;go_ret;exact ⟨rfl,bth hw2 hb5⟩
theorem nsub_any (l m:List Int) (n k:Nat) (a a':Option Addr) (c c':Nat) (w:World) (h:NatR w a c l) (h':NatR w a' c' m) (hn:val l = n) (hk:val m = k) (hl:l.length <= 16777215) (hm:m.length <= 16777216) (hge:k <= n) :
  Calls Tryz.prog 191 #[.slice a l.length c,.slice a' m.length c'] w (RetNE (limbs (n - k)) 0 w):=by
 have C:=cmp_any l m n k a a' c c' w h h' hn hk;have hc:0 <= cmpN n k:=cmpN_ge.2 hge;have C1:=fun W (hW:Below w.heap.size w W)=>trim_any l a c W (h.ext (xbw hW))
 have C2:=fun W (hW:Below w.heap.size w W)=>trim_any m a' c' W (h'.ext (xbw hW))
 have hP:=h.trim;have hQ:=h'.trim;have hl1:=limbs_len_val h.u16;have hl2:=limbs_len_val h'.u16;rw [hn] at C1 hP hl1;rw [hk] at C2 hQ hl2;have hup:=limbs_u16 n;have huq:=limbs_u16 k;have hvp:=val_limbs n;have hvq:=val_limbs k;revert C hc;generalize cmpN n k = q;intro C hc;have hcf:decide (q < 0) = false:=by simp; omega
 obtain ⟨M,hM⟩:∃ M,n - k = M:=⟨_,rfl⟩
 rw [hM];have HM:=Hd hM;have HGE:=Hd hge;have hT0:(limbs n).length <= 16777215:=by omega
 clear hl1 hl2 h h' hn hk hM hc hge;revert C1 C2 hP hQ hup huq hvp hvq hT0;generalize limbs n = T;generalize limbs k = U;intro C1 C2 hP hQ hup huq hvp hvq hT0;have HP:=Hd hP;have HQ:=Hd hQ;have HVP:=Hd hvp;have HVQ:=Hd hvq;replace C:=Hd C; replace C1:=Hd C1; replace C2:=Hd C2;clear hP hQ hvp hvq;go_enter Tryz.func191,Tryz.ntmps191;go_wp2_with fail;refine C.out.mono ?_;rintro e w1 ⟨rfl,hb1⟩;go_wp2_with fail;refine (C1.out _ hb1).mono ?_;rintro e w2 ⟨rfl,rfl⟩;go_wp2_with fail;refine (C2.out _ hb1).mono ?_;rintro e w2 ⟨rfl,rfl⟩;have hmk:=run_make_nat .i64 T.length (by omega) w1;go_wp2;clear hmk C C1 C2 hcf;have hz:=BlkN.new w1 T.length;have hw1s:=hb1.size;have hb0:Below w.heap.size w (w1.alloc (.cells (madeCells #[.int .u16 0] T.length) 47)):=hb1.alloc hb1.size _;revert hz hb0;generalize w1.alloc (.cells (madeCells #[.int .u16 0] T.length) 47) = w0
 obtain ⟨B,hB⟩:∃ B,B = w1.heap.size:=⟨_,rfl⟩
 rw [<- hB] at hw1s ⊢;clear hB;intro hz hb0
 go_loopg [7,8,9,10,24] T.length (fun g s7 _ _ _ s24 wr=>∃ (j bo:Nat) (O:List Int),j + g = T.length /\ bo <= 1 /\ s24 = .int .i64 j /\ s7 = .int .i32 bo /\ Hid (O.length = T.length) /\ U16 O /\ BlkN wr B O /\ Below w.heap.size w wr /\
  Hid (val (T.take j) + 65536 ^ j * bo = val (U.take j) + val (O.take j)))
 case atStart=>exact ⟨0,0,_,by omega,by omega,rfl,rfl,by show _ = _; simp,u16_replicate _,hz,hb0,by show _ = _; simp [val]⟩
 case round =>
  clear hz hb0;obtain ⟨j,bo,O,hjg,hbo,rfl,rfl,hol,hou,hrow,hwr,hval⟩:=hrel;have HROW:=Hd hrow;have HJG:=Hd hjg;clear hrow hjg;by_cases hlt:j < T.length
  ·
   obtain ⟨x,hx⟩:=get_of_lt hlt;obtain ⟨hx0,hx1⟩:=hup.get hx;obtain ⟨bp,op,rfl,hcp⟩:=(HP.out.ext (xbw hwr)).cell hx;have hkO:j < O.length:=by rw [hol.out]; exact hlt
   obtain ⟨z,hz⟩:=get_of_lt hkO;have hcell:=HROW.out.cell hz;have hfr:=HROW.out.frozen j;have hsx:=limbAt_some hx;have hset:=fun q:Int=>HROW.out.set_ j q
   have HSET:=Hd hset;have htk:=fun q:Int=>take_set_snoc hkO q
   have hstep:=fun bo2 d h1=>sub_step T U (O.take j) j bo bo2 d (by rw [List.length_take]; omega) hval.out h1
   rw [hsx] at hstep;obtain ⟨y,rfl⟩:∃ y:Nat,x = (y:Int):=⟨x.toNat,by omega⟩
   rw [Int.toNat_natCast] at hstep;have HTK:=Hd htk;have HSTEP:=Hd hstep;clear hset hstep htk hval hx hsx hz;by_cases hkn:j < U.length
   ·
    obtain ⟨t,ht⟩:=get_of_lt hkn;obtain ⟨bq,oq,rfl,hcq⟩:=(HQ.out.ext (xbw hwr)).cell ht;obtain ⟨ht0,ht1⟩:=huq.get ht;obtain ⟨t,rfl⟩:∃ s:Nat,t = (s:Int):=⟨t.toNat,by omega⟩
    have HST:=HSTEP.out;rw [limbAt_some ht,Int.toNat_natCast] at HST;clear ht HSTEP;by_cases hneg:(y:Int) - bo - t < 0
    ·
     obtain ⟨d,hd⟩:∃ d:Nat,(y:Int) - bo - t + 65536 = (d:Int):=⟨((y:Int) - bo - t + 65536).toNat,by omega⟩
     have hd65:d <= 65535:=by omega
     replace HST:=Hd (HST 1 d (by omega));go_wp2;go_roundg (gk - 1)
     case rel=>exact ⟨j + 1,1,O.set j (d:Int),by have:=HJG.out; omega,by omega,by go_num,rfl,by show _ = _; rw [List.length_set]; exact hol.out,hou.set_ (by omega),HSET.out d,hwr.setCell hw1s _,by show _ = _; rw [HTK.out]; exact HST.out⟩
     case measure=>have:=HJG.out; omega
    ·
     obtain ⟨d,hd⟩:∃ d:Nat,(y:Int) - bo - t = (d:Int):=⟨((y:Int) - bo - t).toNat,by omega⟩
     have hd65:d <= 65535:=by omega
     replace HST:=Hd (HST 0 d (by omega));go_wp2;go_roundg (gk - 1)
     case rel=>exact ⟨j + 1,0,O.set j (d:Int),by have:=HJG.out; omega,by omega,by go_num,rfl,by show _ = _; rw [List.length_set]; exact hol.out,hou.set_ (by omega),HSET.out d,hwr.setCell hw1s _,by show _ = _; rw [HTK.out]; exact HST.out⟩
     case measure=>have:=HJG.out; omega
   ·
    have HST:=HSTEP.out;rw [limbAt_none (by omega)] at HST;clear HSTEP;by_cases hneg:(y:Int) - bo < 0
    ·
     obtain ⟨d,hd⟩:∃ d:Nat,(y:Int) - bo + 65536 = (d:Int):=⟨((y:Int) - bo + 65536).toNat,by omega⟩
     have hd65:d <= 65535:=by omega
     replace HST:=Hd (HST 1 d (by simp; omega));go_wp2;go_roundg (gk - 1)
     case rel=>exact ⟨j + 1,1,O.set j (d:Int),by have:=HJG.out; omega,by omega,by go_num,rfl,by show _ = _; rw [List.length_set]; exact hol.out,hou.set_ (by omega),HSET.out d,hwr.setCell hw1s _,by show _ = _; rw [HTK.out]; exact HST.out⟩
     case measure=>have:=HJG.out; omega
    ·
     obtain ⟨d,hd⟩:∃ d:Nat,(y:Int) - bo = (d:Int):=⟨((y:Int) - bo).toNat,by omega⟩
     have hd65:d <= 65535:=by omega
     replace HST:=Hd (HST 0 d (by simp; omega));go_wp2;go_roundg (gk - 1)
     case rel=>exact ⟨j + 1,0,O.set j (d:Int),by have:=HJG.out; omega,by omega,by go_num,rfl,by show _ = _; rw [List.length_set]; exact hol.out,hou.set_ (by omega),HSET.out d,hwr.setCell hw1s _,by show _ = _; rw [HTK.out]; exact HST.out⟩
     case measure=>have:=HJG.out; omega
  ·
   obtain rfl:j = T.length:=by have:=HJG.out; omega
   have hvO:val O = M:=by
    have h1:=sub_end (o:=O) hup huq hou hol.out (by have:=hval.out; rw [val_take_all (l:=O) (by rw [hol.out]; omega)] at this; exact this) (by rw [HVP.out,HVQ.out]; exact HGE.out);rw [h1,HVP.out,HVQ.out];exact HM.out
   have hcap:T.length <= maxLen:=by unfold maxLen; omega
   have CT:=trim_any O (some ⟨B,0,none⟩) T.length wr (HROW.out.readsV (nlr _) (New.refl _ _) hou (by rw [hol.out]; omega) hcap);have hread:∀ V,New w.heap.size wr V -> NatR V (some ⟨B,0,none⟩) T.length (limbs M):=fun V hV=>by
    rw [<- hvO];exact (HROW.out.readsV hw1s hV hou (by rw [hol.out]; omega) hcap).trim
   rw [hvO,hol.out] at CT;have HRD:=Hd hread;replace CT:=Hd CT;clear hread hvO hval;go_wp2_with fail;refine CT.out.mono ?_;rintro e w3 ⟨rfl,rfl⟩;go_wp2;go_ret2;exact ⟨_,_,rfl,HRD.out,hwr⟩
def NewIn (B T:Nat) (w V:World):Prop:=∀ p v,B <= p.block -> p.block < T -> w.cell? p = some v -> V.cell? p = some v
def Kp (R:World -> Prop) (B T:Nat) (w:World):Prop:=∀ V,NewIn B T w V -> R V
section
variable {R R' : World -> Prop} {B T : Nat} {w w' : World}
theorem Kp.now (h:Kp R B T w):R w:=h w fun _ _ _ _ h=>h
theorem Kp.imp (h:Kp R B T w) (e:∀ V,R V -> R' V):Kp R' B T w:=fun V hV=>e V (h V hV)
theorem Kp.alloc (h:Kp R B T w) {o:Obj}:Kp R B T (w.alloc o):=fun V hV=>h V fun p v h1 h2 h3=>hV p v h1 h2 ((World.cell?_alloc_lt w o p (World.block_lt_of_cell? w p h3)).trans h3)
theorem Kp.drew (h:Kp R B T w):Kp R B T w.drew:=h
theorem Kp.setc {g i:Nat} {u:Value} (hg:g < B \/ T <= g) (h:Kp R B T w):Kp R B T (w.setCell ⟨g,i,none⟩ u):=fun V hV=>h V fun p v h1 h2 h3 =>
 hV p v h1 h2 ((World.cell?_setCell_other w ⟨g,i,none⟩ p u (fun e=>by subst e; simp at h1 h2; omega)).trans h3)
theorem Kp.call (h:Kp R B T w) (hb:Below w.heap.size w w'):Kp R B T w':=fun V hV=>h V fun p v h1 h2 h3=>hV p v h1 h2 ((hb.cell (World.block_lt_of_cell? w p h3)).trans h3)
theorem Kp.made (h:∀ V,New B w V -> R V):Kp R B w.heap.size w:=fun V hV=>h V fun p v h1 h2=>hV p v h1 (World.block_lt_of_cell? w p h2) h2
theorem Kp.fin (h:Kp R B T w) {B':Nat} (hB:B' <= B):∀ V,New B' w V -> R V:=fun V hV=>h V fun p v h1 _ h3=>hV p v (Nat.le_trans hB h1) h3
end
section
variable {w w' : World} {g g2 i : Nat} {t : TypeId} {cs cs' : Array Value} {u : Value}
theorem Blk.newAt (h:g = w.heap.size):Blk (w.alloc (.cells cs t)) g t cs:=by subst h; exact Blk.new w t cs
theorem Blk.farAt (hg:g ≠ g2) (h:Blk w g t cs):Blk (w.setCell ⟨g2,i,none⟩ u) g t cs:=h.far (p:=⟨g2,i,none⟩) hg u
theorem Blk.setb (h:Blk w g t cs') (e:cs'.setIfInBounds i u = cs):Blk (w.setCell ⟨g,i,none⟩ u) g t cs:=e ▸ h.set_ i u
theorem bF (hg:g ≠ g2) (h:Blk w g t cs):Blk (w.setCell ⟨g2,i,none⟩ u) g t cs:=h.farAt hg
theorem bS (h:Blk w g t cs') (e:cs'.setIfInBounds i u = cs):Blk (w.setCell ⟨g,i,none⟩ u) g t cs:=h.setb e
theorem bN (h:g = w.heap.size):Blk (w.alloc (.cells cs t)) g t cs:=Blk.newAt h
theorem bA {o:Obj} (h:Blk w g t cs):Blk (w.alloc o) g t cs:=h.alloc o
theorem bD (h:Blk w g t cs):Blk w.drew g t cs:=h.drew
end
theorem calls_gen {P:Program} {f:Nat} {args:Array Value} {W:World} {Q:Ending -> World -> Prop} (R:World -> Prop) (hR:R W) (h:∀ W',R W' -> Calls P f args W' Q):Calls P f args W Q:=h W hR
theorem world_gen {G:World -> Prop} {W:World} (R:World -> Prop) (hR:R W) (h:∀ W',R W' -> G W'):G W:=h W hR
end Go.Proofs.YtkjnkpkagcboeaaGreatDoor
