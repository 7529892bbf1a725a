/- A statement whose order is open, where two operations that are no reads may come up in either order. No function of the program in sight. -/
import Derived.Test.YtkjnkpkagcboeaaGreatDoorCa1
import Derived.OrdersHeld
import Derived.Deep.RegionWith
set_option linter.all false
set_option maxRecDepth 100000
set_option maxHeartbeats 4000000
namespace Go.Proofs.YtkjnkpkagcboeaaGreatDoor
open Go.RowKit
theorem subtract_any (L v:List Int) (r:List Value) (g j n q cu:Nat) (av:Option Addr) (cv:Nat) (w:World) (hR:RowN w g L r) (hU:U16 L) (hj:j + n + 1 <= L.length)
  (hv:NatR w av cv v) (hvl:v.length = n) (hvg:∀ p,av = some p -> p.block ≠ g) (hq:q <= 65535) (hcu:n + 1 <= cu) (hcu2:cu <= maxLen) :
  Calls Tryz.prog 216 #[.slice (some ⟨g,j,none⟩) (n + 1) cu,.slice av v.length cv,.int .u32 q] w fun e w'=>∃ (o:List Int) (b:Nat),e = .returned (.bool (decide (b = 1))) /\
   RowN w' g (midL L o j) r /\ U16 o /\ o.length = n + 1 /\ b <= 1 /\ val ((L.drop j).take (n + 1)) + 65536 ^ (n + 1) * b = q * val v + val o /\ (b = 1 ↔ val ((L.drop j).take (n + 1)) < q * val v) /\ w.grownBy w' (some g):=by
 have HV:=Hd hv;have HVG:=Hd hvg;have huv:=hv.u16;have hlv:=hv.len;have hsl:((L.drop j).take (n + 1)).length = n + 1:=by simp; omega
 have hsa:∀ k,k < n + 1 -> limbAt ((L.drop j).take (n + 1)) k = limbAt L (j + k):=fun k hk=>limbAt_seg hk
 revert hsl hsa;generalize (L.drop j).take (n + 1) = sg;intro hsl hsa;have HSL:=Hd hsl;have HSA:=Hd hsa;have HVL:=Hd hvl;have HR0:=Hd hR;have hlvn:v.length < n + 1:=by omega
 unfold maxLen at hcu2;clear hv hvg hsl hsa hvl hR;go_enter Tryz.func216,Tryz.ntmps216;go_wp2;obtain ⟨wo,rfl⟩:∃ wo:World,wo = w:=⟨_,rfl⟩
 go_loopg [7,8,9,10,13] (n + 1) (fun m s7 s8 _ _ s13 wr=>∃ (k c b:Nat) (o:List Int),k + m = n + 1 /\ s13 = .int .i64 k /\ s7 = .int .u32 c /\ s8 = .int .i32 b /\ b <= 1 /\ c <= 65535 /\ Hid (k = n + 1 -> c = 0) /\ Hid (o.length = k) /\ U16 o /\
  RowN wr g (midL L o j) r /\ wo.grownBy wr (some g) /\ Hid (val (sg.take k) + 65536 ^ k * (c + b) = q * val (v.take k) + val o))
 case atStart=>exact ⟨0,0,0,[],by omega,rfl,rfl,rfl,by omega,by omega,fun h=>by omega,rfl,U16.nil,by rw [midL_nil]; exact HR0.out,but_refl _ _,by show _ = _; simp [val]⟩
 case round =>
  obtain ⟨k,cc,bb,o,hkm,rfl,rfl,rfl,hb1,hc1,hcz,hol,hou,hrow,hgr,hval⟩:=hrel;have HROW:=Hd hrow;have HKM:=Hd hkm;clear hrow hkm;by_cases hlt:k < n + 1
  ·
   obtain ⟨x,hx⟩:=get_of_lt (xs:=L) (k:=j + k) (by omega);obtain ⟨hx0,hx1⟩:=hU.get hx;have hmg:(midL L o j)[j + k]? = some x:=by
    have:=midL_get (L:=L) (o:=o) (j:=j) (by rw [hol.out]; omega);rw [hol.out] at this;rw [this,hx]
   have hcell:=HROW.out.cell hmg;have hfr:=HROW.out.frozen (j + k);have hsx:limbAt sg k = x:=by rw [HSA.out k hlt,limbAt_some hx]
   have HSX:=Hd hsx;clear hmg hx hsx;obtain ⟨y,rfl⟩:∃ y:Nat,x = (y:Int):=⟨x.toNat,by omega⟩
   have hset:=fun z:Int=>HROW.out.set_ (i:=j + k) (by rw [midL_len (by rw [hol.out]; omega)]; omega) z
   have hset2:∀ z:Int,RowN (wr.setCell ⟨g,j + k,none⟩ (.int .u16 z)) g (midL L (o ++ [z]) j) r:=fun z=>by
    have h1:=midL_set (L:=L) (o:=o) (j:=j) (by rw [hol.out]; omega) z;rw [hol.out] at h1;rw [<- h1];exact hset z
   have HSET:=Hd hset2;have hstep:=fun c2 b2 x p lo h1 h2 h3=>mulsub_step sg v o k q cc bb c2 b2 x p lo hol.out hval.out h1 h2 h3
   rw [HSX.out,Int.toNat_natCast] at hstep;have HSTEP:=Hd hstep;clear hset hset2 hstep hval HSX hlv;by_cases hkn:k < v.length
   ·
    obtain ⟨z,hz⟩:=get_of_lt hkn;obtain ⟨bv,ov,rfl,hcv⟩:=HV.out.cell hz;obtain ⟨hz0,hz1⟩:=huv.get hz;have hcv2:wr.cell? ⟨bv,ov + k,none⟩ = some (.int .u16 z):=hgr.cell hcv (fun e=>HVG.out _ rfl (by injection e));obtain ⟨t,rfl⟩:∃ t:Nat,z = (t:Int):=⟨z.toNat,by omega⟩
    have hzl:=limbAt_some hz;have hp:q * t <= 65535 * 65535:=Nat.mul_le_mul hq (by omega);have hpi:(q:Int) * (t:Int) = ((q * t:Nat):Int):=by simp
    have HST:=HSTEP.out;rw [hzl,Int.toNat_natCast] at HST;have HVL2:=HVL.out;revert hp hpi HST;generalize q * t = P;intro hp hpi HST;obtain ⟨lo,hlo⟩:∃ lo,(cc + P) % 65536 = lo:=⟨_,rfl⟩
    obtain ⟨c2,hc2⟩:∃ c2,(cc + P) / 65536 = c2:=⟨_,rfl⟩
    have hw1:IntKind.u16.wrap ((cc:Int) + (P:Int)) = (lo:Int):=by
     have:=wrap16 (cc + P);rw [hlo] at this;rw [<- this];simp
    have hw2:((cc:Int) + (P:Int)) / 65536 = (c2:Int):=by omega
    have hlo1:lo <= 65535:=by omega
    have hc21:c2 <= 65535:=by omega
    have hpl:cc + P = lo + 65536 * c2:=by omega
    have HCZ:Hid (k + 1 ≠ n + 1):=Hd (by omega);clear hcv hz hzl hlo hc2 HVL2;by_cases hneg:(y:Int) - lo - bb < 0
    ·
     obtain ⟨x,hx⟩:∃ x:Nat,(y:Int) - lo - bb + 65536 = (x:Int):=⟨((y:Int) - lo - bb + 65536).toNat,by omega⟩
     replace HST:=Hd (HST c2 1 x (cc + P) lo rfl hpl (by omega));have hx65:x <= 65535:=by omega
     clear hpl;go_wp2;go_roundg (gk - 1)
     case rel=>exact ⟨k + 1,c2,1,o ++ [(x:Int)],by have:=HKM.out; omega,by go_num,rfl,rfl,by omega,by omega,fun e=>by have:=HCZ.out; omega,by show _ = _; rw [List.length_append,hol.out]; rfl,hou.app (U16.cons (by omega) U16.nil),HSET.out x,but_set hgr _ _,HST.out⟩
     case measure=>have:=HKM.out; omega
    ·
     obtain ⟨x,hx⟩:∃ x:Nat,(y:Int) - lo - bb = (x:Int):=⟨((y:Int) - lo - bb).toNat,by omega⟩
     replace HST:=Hd (HST c2 0 x (cc + P) lo rfl hpl (by omega));have hx65:x <= 65535:=by omega
     clear hpl;go_wp2;go_roundg (gk - 1)
     case rel=>exact ⟨k + 1,c2,0,o ++ [(x:Int)],by have:=HKM.out; omega,by go_num,rfl,rfl,by omega,by omega,fun e=>by have:=HCZ.out; omega,by show _ = _; rw [List.length_append,hol.out]; rfl,hou.app (U16.cons (by omega) U16.nil),HSET.out x,but_set hgr _ _,HST.out⟩
     case measure=>have:=HKM.out; omega
   ·
    have HST:=HSTEP.out;rw [limbAt_none (by omega)] at HST;obtain ⟨c2,hc2⟩:∃ c2:Nat,c2 = 0:=⟨_,rfl⟩
    have hw2:(cc:Int) / 65536 = (c2:Int):=by omega
    have hc21:c2 <= 65535:=by omega
    have HCZ:Hid (c2 = 0):=Hd hc2;have hpl:cc + q * (0:Int).toNat = cc + 65536 * c2:=by simp [hc2]
    clear hc2;by_cases hneg:(y:Int) - cc - bb < 0
    ·
     obtain ⟨x,hx⟩:∃ x:Nat,(y:Int) - cc - bb + 65536 = (x:Int):=⟨((y:Int) - cc - bb + 65536).toNat,by omega⟩
     replace HST:=Hd (HST c2 1 x _ cc rfl hpl (by omega));have hx65:x <= 65535:=by omega
     clear hpl;go_wp2;go_roundg (gk - 1)
     case rel=>exact ⟨k + 1,c2,1,o ++ [(x:Int)],by have:=HKM.out; omega,by go_num,rfl,rfl,by omega,by omega,fun e=>by have:=HCZ.out; omega,by show _ = _; rw [List.length_append,hol.out]; rfl,hou.app (U16.cons (by omega) U16.nil),HSET.out x,but_set hgr _ _,HST.out⟩
     case measure=>have:=HKM.out; omega
    ·
     obtain ⟨x,hx⟩:∃ x:Nat,(y:Int) - cc - bb = (x:Int):=⟨((y:Int) - cc - bb).toNat,by omega⟩
     replace HST:=Hd (HST c2 0 x _ cc rfl hpl (by omega));have hx65:x <= 65535:=by omega
     clear hpl;go_wp2;go_roundg (gk - 1)
     case rel=>exact ⟨k + 1,c2,0,o ++ [(x:Int)],by have:=HKM.out; omega,by go_num,rfl,rfl,by omega,by omega,fun e=>by have:=HCZ.out; omega,by show _ = _; rw [List.length_append,hol.out]; rfl,hou.app (U16.cons (by omega) U16.nil),HSET.out x,but_set hgr _ _,HST.out⟩
     case measure=>have:=HKM.out; omega
  ·
   have hke:k = n + 1:=by have:=HKM.out; omega
   have hfin:=mulsub_end hou HSL.out HVL.out (by rw [hol.out]; exact hke) hb1 (by have:=hval.out; rw [hke] at this; exact this) (hcz.out hke);have HFIN:=Hd hfin;clear hfin;go_wp2;go_ret;refine ⟨o,bb,ret_bool ?_,HROW.out,hou,by rw [hol.out]; exact hke,hb1,HFIN.out.1,HFIN.out.2,hgr⟩;rw [decide_eq_decide]
   omega
theorem restore_any (L v:List Int) (r:List Value) (g j n cu:Nat) (av:Option Addr) (cv:Nat) (w:World) (hR:RowN w g L r) (hU:U16 L) (hj:j + n + 1 <= L.length)
  (hv:NatR w av cv v) (hvl:v.length = n) (hvg:∀ p,av = some p -> p.block ≠ g) (hcu:n + 1 <= cu) (hcu2:cu <= maxLen) :
  Calls Tryz.prog 217 #[.slice (some ⟨g,j,none⟩) (n + 1) cu,.slice av v.length cv] w fun e w'=>∃ (o:List Int) (c:Nat),e = .returned (.tuple #[]) /\
   RowN w' g (midL L o j) r /\ U16 o /\ o.length = n + 1 /\ val o + 65536 ^ (n + 1) * c = val ((L.drop j).take (n + 1)) + val v /\ w.grownBy w' (some g):=by
 have HV:=Hd hv;have HVG:=Hd hvg;have huv:=hv.u16;have hlv:=hv.len;have hsl:((L.drop j).take (n + 1)).length = n + 1:=by simp; omega
 have hsa:∀ k,k < n + 1 -> limbAt ((L.drop j).take (n + 1)) k = limbAt L (j + k):=fun k hk=>limbAt_seg hk
 revert hsl hsa;generalize (L.drop j).take (n + 1) = sg;intro hsl hsa;have HSL:=Hd hsl;have HSA:=Hd hsa;have HVL:=Hd hvl;have HR0:=Hd hR;have hlvn:v.length < n + 1:=by omega
 unfold maxLen at hcu2;clear hv hvg hsl hsa hvl hR;go_enter Tryz.func217,Tryz.ntmps217;go_wp2;obtain ⟨wo,rfl⟩:∃ wo:World,wo = w:=⟨_,rfl⟩
 go_loopg [4,5,8] (n + 1) (fun m s4 _ s8 wr=>∃ (k c:Nat) (o:List Int),k + m = n + 1 /\ s8 = .int .i64 k /\ s4 = .int .u32 c /\ c <= 1 /\ Hid (o.length = k) /\ U16 o /\
  RowN wr g (midL L o j) r /\ wo.grownBy wr (some g) /\ Hid (val o + 65536 ^ k * c = val (sg.take k) + val (v.take k)))
 case atStart=>exact ⟨0,0,[],by omega,rfl,rfl,by omega,rfl,U16.nil,by rw [midL_nil]; exact HR0.out,but_refl _ _,by show _ = _; simp [val]⟩
 case round =>
  obtain ⟨k,cc,o,hkm,rfl,rfl,hc1,hol,hou,hrow,hgr,hval⟩:=hrel;have HROW:=Hd hrow;have HKM:=Hd hkm;clear hrow hkm;by_cases hlt:k < n + 1
  ·
   obtain ⟨x,hx⟩:=get_of_lt (xs:=L) (k:=j + k) (by omega);obtain ⟨hx0,hx1⟩:=hU.get hx;have hmg:(midL L o j)[j + k]? = some x:=by
    have:=midL_get (L:=L) (o:=o) (j:=j) (by rw [hol.out]; omega);rw [hol.out] at this;rw [this,hx]
   have hcell:=HROW.out.cell hmg;have hfr:=HROW.out.frozen (j + k);have hsx:limbAt sg k = x:=by rw [HSA.out k hlt,limbAt_some hx]
   have HSX:=Hd hsx;clear hmg hx hsx;obtain ⟨y,rfl⟩:∃ y:Nat,x = (y:Int):=⟨x.toNat,by omega⟩
   have hset:=fun z:Int=>HROW.out.set_ (i:=j + k) (by rw [midL_len (by rw [hol.out]; omega)]; omega) z
   have hset2:∀ z:Int,RowN (wr.setCell ⟨g,j + k,none⟩ (.int .u16 z)) g (midL L (o ++ [z]) j) r:=fun z=>by
    have h1:=midL_set (L:=L) (o:=o) (j:=j) (by rw [hol.out]; omega) z;rw [hol.out] at h1;rw [<- h1];exact hset z
   have HSET:=Hd hset2;have hstep:=fun c2 d h1=>add_step sg v o k cc c2 d hol.out hval.out h1
   rw [HSX.out,Int.toNat_natCast] at hstep;have HSTEP:=Hd hstep;clear hset hset2 hstep hval HSX hlv;by_cases hkn:k < v.length
   ·
    obtain ⟨z,hz⟩:=get_of_lt hkn;obtain ⟨bv,ov,rfl,hcv⟩:=HV.out.cell hz;obtain ⟨hz0,hz1⟩:=huv.get hz;have hcv2:wr.cell? ⟨bv,ov + k,none⟩ = some (.int .u16 z):=hgr.cell hcv (fun e=>HVG.out _ rfl (by injection e));obtain ⟨t,rfl⟩:∃ t:Nat,z = (t:Int):=⟨z.toNat,by omega⟩
    have hzl:=limbAt_some hz;have HST:=HSTEP.out;rw [hzl,Int.toNat_natCast] at HST;obtain ⟨lo,hlo⟩:∃ lo,(cc + y + t) % 65536 = lo:=⟨_,rfl⟩
    obtain ⟨c2,hc2⟩:∃ c2,(cc + y + t) / 65536 = c2:=⟨_,rfl⟩
    have hw1:IntKind.u16.wrap ((cc:Int) + (y:Int) + (t:Int)) = (lo:Int):=by
     have:=wrap16 (cc + y + t);rw [hlo] at this;rw [<- this];simp
    have hw2:((cc:Int) + (y:Int) + (t:Int)) / 65536 = (c2:Int):=by omega
    have hlo1:lo <= 65535:=by omega
    have hc21:c2 <= 1:=by omega
    replace HST:=Hd (HST c2 lo (by omega));clear hcv hz hzl hlo hc2;go_wp2;go_roundg (gk - 1)
    case rel=>exact ⟨k + 1,c2,o ++ [(lo:Int)],by have:=HKM.out; omega,by go_num,rfl,by omega,by show _ = _; rw [List.length_append,hol.out]; rfl,hou.app (U16.cons (by omega) U16.nil),HSET.out lo,but_set hgr _ _,HST.out⟩
    case measure=>have:=HKM.out; omega
   ·
    have HST:=HSTEP.out;rw [limbAt_none (by omega)] at HST;obtain ⟨lo,hlo⟩:∃ lo,(cc + y) % 65536 = lo:=⟨_,rfl⟩
    obtain ⟨c2,hc2⟩:∃ c2,(cc + y) / 65536 = c2:=⟨_,rfl⟩
    have hw1:IntKind.u16.wrap ((cc:Int) + (y:Int)) = (lo:Int):=by
     have:=wrap16 (cc + y);rw [hlo] at this;rw [<- this];simp
    have hw2:((cc:Int) + (y:Int)) / 65536 = (c2:Int):=by omega
    have hlo1:lo <= 65535:=by omega
    have hc21:c2 <= 1:=by omega
    replace HST:=Hd (HST c2 lo (by simp; omega));clear hlo hc2;go_wp2;go_roundg (gk - 1)
    case rel=>exact ⟨k + 1,c2,o ++ [(lo:Int)],by have:=HKM.out; omega,by go_num,rfl,by omega,by show _ = _; rw [List.length_append,hol.out]; rfl,hou.app (U16.cons (by omega) U16.nil),HSET.out lo,but_set hgr _ _,HST.out⟩
    case measure=>have:=HKM.out; omega
  ·
   have hke:k = n + 1:=by have:=HKM.out; omega
   have hfin:=addback_end HSL.out HVL.out (by have:=hval.out; rw [hke] at this; exact this);have HFIN:=Hd hfin;clear hfin;go_wp2;exact ⟨rfl,.tuple #[],by kernel_rfl,o,cc,rfl,HROW.out,hou,by rw [hol.out]; exact hke,HFIN.out,hgr⟩
end Go.Proofs.YtkjnkpkagcboeaaGreatDoor
namespace Go.Proofs.YtkjnkpkagcboeaaGreatDoor
theorem pow_split {s:Nat} (hs:s <= 16):65536 = 2 ^ (16 - s) * 2 ^ s:=by
 rw [<- Nat.pow_add,Nat.sub_add_cancel hs]
theorem shl_or {x s h:Nat} (hs:s <= 16) (hh:h < 2 ^ s):h ||| (x * 2 ^ s) % 65536 = h + (x * 2 ^ s) % 65536:=by
 have e:(x * 2 ^ s) % 65536 = 2 ^ s * (x % 2 ^ (16 - s)):=by
  rw [pow_split hs,Nat.mul_mod_mul_right,Nat.mul_comm]
 rw [e,Nat.or_comm,<- Nat.two_pow_add_eq_or_of_lt hh,Nat.add_comm]
theorem shl_hi {x s:Nat} (hx:x <= 65535):(x * 2 ^ s) / 65536 < 2 ^ s:=by
 apply (Nat.div_lt_iff_lt_mul (by omega)).2;have h1:0 < 2 ^ s:=Nat.two_pow_pos s;have h2:x * 2 ^ s <= 65535 * 2 ^ s:=Nat.mul_le_mul_right _ hx
 omega
theorem pow_le15 {s:Nat} (hs:s <= 15):2 ^ s <= 32768:=by
 have:=Nat.pow_le_pow_right (n:=2) (by omega) hs;simpa using this
structure Shl (a o : List Int) (k s i : Nat) : Prop where
 len:o.length = a.length + k + 1
 u16:U16 o
 sum:val o = 65536 ^ k * (2 ^ s * val (a.take i))
 cur:∃ h:Nat,o[i + k]? = some (h:Int) /\ h < 2 ^ s
 far:∀ j,i + k < j -> j < o.length -> o[j]? = some 0
theorem Shl.start (a:List Int) (k s:Nat):Shl a (List.replicate (a.length + k + 1) 0) k s 0:=by
 refine ⟨by simp,u16_replicate _,by simp [val_replicate,val],⟨0,?_,Nat.two_pow_pos s⟩,fun j hj hl=>?_⟩
 · rw [List.getElem?_replicate,if_pos (by omega)]; rfl
 ·
  simp at hl;rw [List.getElem?_replicate,if_pos hl]
theorem Shl.next {a o:List Int} {k s i:Nat} {x h:Nat} (hS:Shl a o k s i) (hs:s <= 15) (hx:a[i]? = some (x:Int)) (hx2:x <= 65535) (hh:o[i + k]? = some (h:Int)) :
  Shl a ((o.set (i + k) ((h ||| (x * 2 ^ s) % 65536:Nat):Int)).set (i + k + 1) ((x * 2 ^ s / 65536:Nat):Int)) k s (i + 1):=by
 obtain ⟨h',hc,hlt⟩:=hS.cur;rw [hh] at hc;injection hc with hc
 obtain rfl:h = h':=by omega
 have hil:=lt_of_get hx;have hol:=hS.len;have hp:=pow_le15 hs;have hw:x * 2 ^ s <= 65535 * 32768:=Nat.mul_le_mul hx2 hp;have hor:=shl_or (x:=x) (s:=s) (h:=h) (by omega) hlt;have hnext:o[i + k + 1]? = some 0:=hS.far _ (by omega) (by omega);have hdvd:(x * 2 ^ s) % 65536 = 2 ^ s * (x % 2 ^ (16 - s)):=by
  rw [pow_split (s:=s) (by omega),Nat.mul_mod_mul_right,Nat.mul_comm]
 have hsum:h + (x * 2 ^ s) % 65536 <= 65535:=by
  rw [hdvd];have h1:x % 2 ^ (16 - s) < 2 ^ (16 - s):=Nat.mod_lt _ (Nat.two_pow_pos _);have h2:2 ^ s * (x % 2 ^ (16 - s) + 1) <= 2 ^ s * 2 ^ (16 - s):=Nat.mul_le_mul_left _ h1;have h3:=pow_split (s:=s) (by omega);rw [Nat.mul_comm] at h3;rw [Nat.mul_add,<- h3] at h2
  omega
 have hhi:=shl_hi (s:=s) hx2;have e1:=val_set hh ((h ||| (x * 2 ^ s) % 65536:Nat):Int);have hn2:(o.set (i + k) ((h ||| (x * 2 ^ s) % 65536:Nat):Int))[i + k + 1]? = some 0:=by rw [List.getElem?_set_ne (by omega)]; exact hnext
 have e2:=val_set hn2 ((x * 2 ^ s / 65536:Nat):Int);refine ⟨by simpa using hol,(hS.u16.set_ ⟨by omega,by omega⟩).set_ ⟨by omega,by omega⟩,?_,⟨x * 2 ^ s / 65536,?_,hhi⟩,fun j hj hl=>?_⟩
 ·
  have hdm:=Nat.div_add_mod (x * 2 ^ s) 65536;rw [hor] at e1 e2 ⊢;rw [Nat.pow_succ] at e2;simp only [Int.toNat_natCast,Int.toNat_zero,Nat.mul_zero,Nat.add_zero] at e1 e2;rw [Nat.mul_add] at e1;rw [val_take hx,Int.toNat_natCast,Nat.mul_add,Nat.mul_add,<- hS.sum];have e4:65536 ^ k * (2 ^ s * (65536 ^ i * x)) = 65536 ^ (i + k) * (x * 2 ^ s):=by
   rw [Nat.pow_add,Nat.mul_comm (2 ^ s),Nat.mul_assoc (65536 ^ i) x,<- Nat.mul_assoc (65536 ^ k),Nat.mul_comm (65536 ^ k) (65536 ^ i)]
  rw [e4];have e5:=congrArg (65536 ^ (i + k) * ·) hdm;simp only [Nat.mul_add] at e5;rw [<- Nat.mul_assoc (65536 ^ (i + k)) 65536] at e5
  omega
 · rw [show i + 1 + k = i + k + 1 by omega,List.getElem?_set_self (by simp; omega)]
 ·
  rw [List.getElem?_set_ne (by omega),List.getElem?_set_ne (by omega)];exact hS.far j (by omega) (by simpa using hl)
theorem Shl.done {a o:List Int} {k s:Nat} (h:Shl a o k s a.length):val o = val a * 2 ^ (16 * k + s):=by
 rw [h.sum,val_take_all (nlr _),Nat.pow_add,Nat.pow_mul,show 2 ^ 16 = 65536 by rfl,Nat.mul_comm (2 ^ s),<- Nat.mul_assoc,Nat.mul_comm (65536 ^ k),Nat.mul_assoc]
theorem shr_num {x y z s:Nat} (hs:s <= 16) (hx:x < 65536):(x + 65536 * (y + 65536 * z)) / 2 ^ s = (x + 65536 * y) / 2 ^ s % 65536 + 65536 * ((y + 65536 * z) / 2 ^ s):=by
 have e1:(x + 65536 * (y + 65536 * z)) / 2 ^ s / 65536 = (y + 65536 * z) / 2 ^ s:=by
  rw [Nat.div_div_eq_div_mul,Nat.mul_comm (2 ^ s) 65536,<- Nat.div_div_eq_div_mul];congr 1
  omega
 have e2:(x + 65536 * (y + 65536 * z)) / 2 ^ s % 65536 = (x + 65536 * y) / 2 ^ s % 65536:=by
  have h3:x + 65536 * (y + 65536 * z) = (x + 65536 * y) + 2 ^ s * (65536 * (2 ^ (16 - s) * z)):=by
   have h4:=pow_split hs;have h5:2 ^ s * (65536 * (2 ^ (16 - s) * z)) = 65536 * (65536 * z):=by
    rw [<- Nat.mul_assoc (2 ^ s),Nat.mul_comm (2 ^ s) 65536,Nat.mul_assoc 65536,<- Nat.mul_assoc (2 ^ s),Nat.mul_comm (2 ^ s) (2 ^ (16 - s)),<- h4]
   rw [h5]
   omega
  rw [h3,Nat.add_mul_div_left _ _ (Nat.two_pow_pos s),Nat.add_mul_mod_self_left]
 have h6:=Nat.div_add_mod ((x + 65536 * (y + 65536 * z)) / 2 ^ s) 65536;rw [e1,e2] at h6
 omega
theorem shr_step {a:List Int} (ha:U16 a) {s:Nat} (i:Nat) (hs:s <= 16):val (a.drop i) / 2 ^ s = ((limbAt a i).toNat + 65536 * (limbAt a (i + 1)).toNat) / 2 ^ s % 65536 + 65536 * (val (a.drop (i + 1)) / 2 ^ s):=by
 have hx:=limbAt_in ha i;rw [val_drop_at a i,val_drop_at a (i + 1)];exact shr_num hs (by omega)
end Go.Proofs.YtkjnkpkagcboeaaGreatDoor
namespace Go.Proofs.YtkjnkpkagcboeaaGreatDoor
open Go.RowKit
theorem val_drop_div {l:List Int} (h:U16 l) (k:Nat):val (l.drop k) = val l / 65536 ^ k:=by
 obtain ⟨lo,hlo,e⟩:=val_split_at h k;have e2:val l / 65536 ^ k = val (l.drop k):=by rw [e,Nat.add_comm,Nat.mul_add_div (by have:=pow_pos16 k; omega),Nat.div_eq_of_lt hlo,Nat.add_zero]
 exact e2.symm
theorem shr_split {n s:Nat}:n / 65536 ^ (s / 16) / 2 ^ (s % 16) = n / 2 ^ s:=by
 rw [Nat.div_div_eq_div_mul,show (65536:Nat) = 2 ^ 16 by rfl,<- Nat.pow_mul,<- Nat.pow_add];congr 2
 omega
structure Shr (a o : List Int) (s i : Nat) : Prop where
 u16:U16 o
 sum:val a / 2 ^ s = val (o.take i) + 65536 ^ i * (val (a.drop i) / 2 ^ s)
theorem Shr.start (a:List Int) (s n:Nat):Shr a (List.replicate n 0) s 0:=⟨u16_replicate _,by simp [val]⟩
theorem Shr.next {a o:List Int} {s i:Nat} (h:Shr a o s i) (ha:U16 a) (hs:s <= 16) (hi:i < o.length) :
  Shr a (o.set i ((((limbAt a i).toNat + 65536 * (limbAt a (i + 1)).toNat) / 2 ^ s % 65536:Nat):Int)) s (i + 1):=by
 have e:=shr_step ha i hs;have e1:=h.sum;rw [e] at e1;have hx:((limbAt a i).toNat + 65536 * (limbAt a (i + 1)).toNat) / 2 ^ s % 65536 <= 65535:=by omega
 generalize ((limbAt a i).toNat + 65536 * (limbAt a (i + 1)).toNat) / 2 ^ s % 65536 = x at e1 hx ⊢;refine ⟨h.u16.set_ (by omega),?_⟩;have g:(o.set i (x:Int))[i]? = some (x:Int):=by simp [hi]
 rw [val_take g,List.take_set_of_le (nlr _),e1,Nat.mul_add,Nat.pow_succ,Nat.mul_assoc];simp
 omega
theorem right_any (l:List Int) (n s:Nat) (a:Option Addr) (c:Nat) (w:World) (h:NatR w a c l) (hn:val l = n) (hl:l.length <= 16777216) (hs:s <= 1048576) :
  Calls Tryz.prog 214 #[.slice a l.length c,.int .i64 s] w (RetN (limbs (n / 2 ^ s)) w):=by
 have H:=Hd h;have hu:=h.u16;have HN:=Hd hn;have hq:((s:Int)).tdiv 16 = ((s / 16:Nat):Int):=rfl;have hr:((s:Int)).tmod 16 = ((s % 16:Nat):Int):=rfl;have hsp:=shr_split (n:=n) (s:=s);have ht:s % 16 <= 15:=by omega
 have hk:s / 16 <= 65536:=by omega
 have HSP:=Hd hsp;revert hq hr ht hk HSP;generalize s / 16 = k;generalize s % 16 = t;intro hq hr ht hk HSP;clear h hn hsp;by_cases hkl:l.length <= k
 ·
  have h0:n / 2 ^ s = 0:=by
   rw [<- HSP.out,Nat.div_eq_of_lt (a:=n),Nat.zero_div];have h1:=val_lt hu;rw [HN.out] at h1;exact ltl h1 (Nat.pow_le_pow_right (by omega) hkl)
  rw [h0,limbs_zero];clear h0;go_enter Tryz.func214,Tryz.ntmps214;go_wp2;go_ret;exact ⟨none,0,rfl,fun _ _=>SlR.nil,Below.refl _ _⟩
 ·
  obtain ⟨m,hm⟩:∃ m:Nat,l.length = k + m:=⟨l.length - k,by omega⟩
  have hm0:0 < m:=by omega
  have hmi:(l.length:Int) - (k:Int) = (m:Int):=by omega
  have hmk:=run_make_nat .i64 m (by omega) w;have HM:=Hd hm;have hkl2:k < l.length:=by omega
  have hdk:decide (l.length <= k) = false:=by simp; omega
  clear hm hkl;go_enter Tryz.func214,Tryz.ntmps214;go_wp2;clear hmk;have hz:=BlkN.new w m;have hb0:Below w.heap.size w (w.alloc (.cells (madeCells #[.int .u16 0] m) 47)):=brf.alloc (nlr _) _;revert hz hb0;generalize w.alloc (.cells (madeCells #[.int .u16 0] m) 47) = w0;intro hz hb0
  go_loopg [8,9,25] m (fun g _ _ s25 wr=>∃ (i:Nat) (O:List Int),i + g = m /\ s25 = .int .i64 i /\ BlkN wr w.heap.size O /\ Hid (O.length = m) /\ Below w.heap.size w wr /\ Shr (l.drop k) O t i)
  case atStart=>exact ⟨0,List.replicate m 0,by omega,rfl,hz,by show _ = _; simp,hb0,Shr.start _ _ _⟩
  case round =>
   clear hz hb0;obtain ⟨i,O,hig,rfl,hO,hOl,hwr,hS⟩:=hrel;have HIG:=Hd hig;have HO:=Hd hO;clear hig hO;by_cases hlt:i < m
   ·
    obtain ⟨x,hx⟩:=get_of_lt (xs:=l) (k:=k + i) (by have:=HM.out; omega);obtain ⟨b,off,rfl,hc⟩:=(H.out.ext (xbw hwr)).cell hx;obtain ⟨hx0,hx1⟩:=hu.get hx;obtain ⟨y,rfl⟩:∃ y:Nat,x = (y:Int):=⟨x.toNat,by omega⟩
    have hc2:wr.cell? ⟨b,off + (i + k),none⟩ = some (.int .u16 y):=by rw [Nat.add_comm i k]; exact hc
    have hil:i + k < l.length:=by have:=HM.out; omega
    obtain ⟨u,hu2⟩:=get_of_lt (xs:=O) (k:=i) (by rw [hOl.out]; exact hlt);have hcell:=HO.out.cell hu2;have hfr:=HO.out.frozen i;have hnext:=hS.next (hu.drop k) (show t <= 16 by omega) (show i < O.length by rw [hOl.out]; exact hlt);rw [limbAt_drop,limbAt_drop,limbAt_some hx,Int.toNat_natCast] at hnext;have HNX:=Hd hnext;clear hnext hS;by_cases hlast:i + 1 < m
    ·
     obtain ⟨x2,hx2⟩:=get_of_lt (xs:=l) (k:=k + i + 1) (by have:=HM.out; omega);obtain ⟨b3,off3,e3,hc3⟩:=(H.out.ext (xbw hwr)).cell hx2;injection e3 with e3
     injection e3 with e3 e4
     subst e3;subst e4;obtain ⟨hy0,hy1⟩:=hu.get hx2;obtain ⟨z,rfl⟩:∃ z:Nat,x2 = (z:Int):=⟨x2.toNat,by omega⟩
     have hc4:wr.cell? ⟨b,off + (i + k + 1),none⟩ = some (.int .u16 z):=by rw [Nat.add_comm i k]; exact hc3
     have hil2:i + k + 1 < l.length:=by have:=HM.out; omega
     have hnx:=HNX.out;rw [show k + (i + 1) = k + i + 1 by omega,limbAt_some hx2,Int.toNat_natCast] at hnx;obtain ⟨W,hW⟩:∃ W,y + 65536 * z = W:=⟨_,rfl⟩
     obtain ⟨X,hX⟩:∃ X,W / 2 ^ t % 65536 = X:=⟨_,rfl⟩
     rw [hW,hX] at hnx;have hor:bits .or .u32 (y:Int) ((z:Int) * 65536) = (W:Int):=by
      have h1:=byLimb_or (r:=z) (x:=y) (by omega);have h2:=u32_or_nat y (z * 65536) (by omega) (by omega);rw [Nat.or_comm,h1,show z * 65536 + y = W by omega] at h2;simpa using h2
     have hshr:IntKind.u16.wrap ((W:Int) / 2 ^ t) = (X:Int):=by
      have:=wrap16 (W / 2 ^ t);rw [hX] at this;rw [<- this];simp
     have HNX2:=Hd hnx;have hX2:X <= 65535:=by omega
     clear hc3 hx2 hx hW hX hnx HNX;go_wp2;go_roundg (gk - 1)
     case rel=>exact ⟨i + 1,O.set i (X:Int),by have:=HIG.out; omega,by go_num,HO.out.set_ i _,by show _ = _; rw [List.length_set]; exact hOl.out,hwr.setCell (nlr _) _,HNX2.out⟩
     case measure=>have:=HIG.out; omega
    ·
     have hil2:l.length = i + k + 1:=by have:=HM.out; omega
     have HIL:=Hd hil2;have hdl:decide (((i:Int) + (k:Int) + 1) < (l.length:Int)) = false:=by simp; omega
     have hnx:=HNX.out;rw [limbAt_none (by omega)] at hnx;obtain ⟨X,hX⟩:∃ X,y / 2 ^ t % 65536 = X:=⟨_,rfl⟩
     rw [show y + 65536 * (0:Int).toNat = y by simp,hX] at hnx;have hshr:IntKind.u16.wrap ((y:Int) / 2 ^ t) = (X:Int):=by
      have:=wrap16 (y / 2 ^ t);rw [hX] at this;rw [<- this];simp
     have HNX2:=Hd hnx;have hX2:X <= 65535:=by omega
     have hge:¬ ((i:Int) + (k:Int) + 1 < (l.length:Int)):=by omega
     clear hx hX hnx HNX hil2;go_wp2;go_roundg (gk - 1)
     case rel=>exact ⟨i + 1,O.set i (X:Int),by have:=HIG.out; omega,by go_num,HO.out.set_ i _,by show _ = _; rw [List.length_set]; exact hOl.out,hwr.setCell (nlr _) _,HNX2.out⟩
     case measure=>have:=HIG.out; omega
   ·
    have hval:val O = n / 2 ^ s:=by
     have h1:=hS.sum;rw [val_drop_div hu,HN.out,HSP.out,List.drop_drop,val_drop_all (by have:=HM.out; omega),Nat.zero_div,Nat.mul_zero,Nat.add_zero,val_take_all (by rw [hOl.out]; omega)] at h1;exact h1.symm
    have hcap:O.length <= maxLen:=by rw [hOl.out]; unfold maxLen; omega
    have CT:=trim_any O _ _ wr (HO.out.readsV (nlr _) (New.refl _ _) hS.u16 (nlr _) hcap);have hrd:∀ V,New w.heap.size wr V -> NatR V (some ⟨w.heap.size,0,none⟩) O.length (limbs (n / 2 ^ s)):=fun V hV=>by
     rw [<- hval];exact (HO.out.readsV (nlr _) hV hS.u16 (nlr _) hcap).trim
    rw [hval,hOl.out] at CT;rw [hOl.out] at hrd;replace CT:=Hd CT;have HRD:=Hd hrd;clear hrd hval hS;go_wp2_with fail;refine CT.out.mono ?_;rintro e w1 ⟨rfl,rfl⟩;go_wp2;go_ret;exact ⟨_,_,rfl,HRD.out,hwr⟩
theorem quo16 (s:Nat):((s:Int)).tdiv 16 = ((s / 16:Nat):Int):=rfl
theorem rem16 (s:Nat):((s:Int)).tmod 16 = ((s % 16:Nat):Int):=rfl
theorem shift_any (l:List Int) (n s:Nat) (a:Option Addr) (c:Nat) (w:World) (h:NatR w a c l) (hn:val l = n) (h0:0 < n) (hl:l.length <= 10000000) (hs:s <= 1048576) :
  Calls Tryz.prog 185 #[.slice a l.length c,.int .i64 s] w fun e w'=>∃ a1 c1,e = .returned (.slice a1 (limbs (n * 2 ^ s)).length c1) /\ OwnN w.heap.size w' a1 c1 (limbs (n * 2 ^ s)) /\ Below w.heap.size w w':=by
 have CT:=trim_any l a c w h;have hT:=h.trim;have hlt:=limbs_len_val h.u16;rw [hn] at CT hT hlt;have hTl:(limbs n).length <= 10000000:=by omega
 have hTp:=limbs_len_pos.2 h0;have hu:=limbs_u16 n;have hv:=val_limbs n;revert CT hT hTl hTp hu hv;generalize limbs n = T;intro CT hT hTl hTp hu hv;have hq:=quo16 s;have hr:=rem16 s;have hsp:16 * (s / 16) + s % 16 = s:=by omega
 have ht:s % 16 <= 15:=by omega
 have hk:s / 16 <= 65536:=by omega
 have HSP:=Hd hsp;revert hq hr ht hk HSP;generalize s / 16 = k;generalize s % 16 = t;intro hq hr ht hk HSP;have HT:=Hd hT;have HV:=Hd hv;replace CT:=Hd CT;have hmk:=run_make_nat2 .i64 (T.length + k + 1) (T.length + k + 3) (by omega) (by omega) w;simp only [Int.natCast_add,Int.cast_ofNat_Int] at hmk;have hne:((T.length:Int) == 0) = false:=by rw [beq_eq_false_iff_ne]; omega
 clear h hn hlt hT hv hsp h0;go_enter Tryz.func185,Tryz.ntmps185;go_wp2_with fail;refine CT.out.mono ?_;rintro e w1 ⟨rfl,rfl⟩;go_wp2;clear hmk hne;have hz0:=BlkN.new w (T.length + k + 3);have hb0:Below w.heap.size w (w.alloc (.cells (madeCells #[.int .u16 0] (T.length + k + 3)) 47)):=brf.alloc (nlr _) _;have hz:RowN (w.alloc (.cells (madeCells #[.int .u16 0] (T.length + k + 3)) 47)) w.heap.size (List.replicate (T.length + k + 1) 0) [.int .u16 0,.int .u16 0]:=by
  have h1:=(RowN.of hz0).cut (T.length + k + 1);have e1:(List.replicate (T.length + k + 3) (0:Int)).take (T.length + k + 1) = List.replicate (T.length + k + 1) 0:=by rw [List.take_replicate]; congr 1; omega
  have e2:(List.replicate (T.length + k + 3) (0:Int)).drop (T.length + k + 1) = [0,0]:=by rw [List.drop_replicate,show T.length + k + 3 - (T.length + k + 1) = 2 by omega]; rfl
  rw [e1,e2] at h1;exact h1
 clear hz0;revert hz hb0;generalize w.alloc (.cells (madeCells #[.int .u16 0] (T.length + k + 3)) 47) = w0;intro hb0 hz
 go_loopg [8,9,10,47] T.length (fun g _ _ _ s47 wr=>∃ (i:Nat) (O:List Int),i + g = T.length /\ s47 = .int .i64 i /\ RowN wr w.heap.size O [.int .u16 0,.int .u16 0] /\ Below w.heap.size w wr /\ Shl T O k t i)
 case atStart=>exact ⟨0,_,by omega,rfl,hz,hb0,Shl.start _ _ _⟩
 case round =>
  clear hz hb0;obtain ⟨i,O,hig,rfl,hO,hwr,hS⟩:=hrel;have HIG:=Hd hig;have HO:=Hd hO;have HSL:=Hd hS.len;clear hig hO;by_cases hlt:i < T.length
  ·
   obtain ⟨x,hx⟩:=get_of_lt hlt;obtain ⟨b,off,rfl,hc⟩:=(HT.out.ext (xbw hwr)).cell hx;obtain ⟨hx0,hx1⟩:=hu.get hx;obtain ⟨y,rfl⟩:∃ y:Nat,x = (y:Int):=⟨x.toNat,by omega⟩
   obtain ⟨h,hh,hh2⟩:=hS.cur;have hiO:i + k < O.length:=by have:=HSL.out; omega
   have hiO2:i + k + 1 < O.length:=by have:=HSL.out; omega
   have hnx:=hS.next ht hx (by omega) hh;have hfar:=hS.far (i + k + 1) (by omega) hiO2;have hcell:=HO.out.cell hh;have hcell2:=HO.out.cell hfar;have hfr:=HO.out.frozen (i + k);have hfr2:=HO.out.frozen (i + k + 1);have hset:=(HO.out.set_ hiO (((h ||| y * 2 ^ t % 65536:Nat)):Int)).set_ (i:=i + k + 1) (by simpa using hiO2) ((y * 2 ^ t / 65536:Nat):Int);have hwl:y * 2 ^ t <= 65535 * 32768:=Nat.mul_le_mul (by omega) (pow_le15 ht);have hyt:(y:Int) * 2 ^ t % 4294967296 = ((y * 2 ^ t:Nat):Int):=by
    have e1:((y * 2 ^ t:Nat):Int) = (y:Int) * 2 ^ t:=by simp
    rw [<- e1]
    omega
   have hh3:h <= 65535:=by have:=pow_le15 ht; omega
   revert hnx hset hwl hyt;generalize y * 2 ^ t = W;intro hnx hset hwl hyt;obtain ⟨lo,hlo⟩:∃ lo,W % 65536 = lo:=⟨_,rfl⟩
   obtain ⟨hi,hhi⟩:∃ hi,W / 65536 = hi:=⟨_,rfl⟩
   rw [hlo,hhi] at hnx hset;have hw1:IntKind.u16.wrap (W:Int) = (lo:Int):=by rw [wrap16,hlo]
   have hw2:IntKind.u16.wrap ((W:Int) / 65536) = (hi:Int):=by
    have:=wrap16 (W / 65536);rw [hhi,Nat.mod_eq_of_lt (by omega)] at this;rw [<- this,<- hhi];simp
   have hor:=u16_or_nat h lo (by omega) (by omega);have HNX:=Hd hnx;have HSET:=Hd hset;revert hor HNX HSET;generalize h ||| lo = ho
   intro hor HNX HSET;clear hnx hset hlo hhi hx hS hh hfar;go_wp2;go_roundg (gk - 1)
   case rel=>exact ⟨i + 1,_,by have:=HIG.out; omega,by go_num,HSET.out,(hwr.setCell (nlr _) _).setCell (nlr _) _,HNX.out⟩
   case measure=>have:=HIG.out; omega
  ·
   have hit:i = T.length:=by have:=HIG.out; omega
   have hval:val O = n * 2 ^ s:=by
    rw [hit] at hS;rw [hS.done,HV.out,HSP.out]
   have hcap:T.length + k + 3 <= maxLen:=by unfold maxLen; omega
   have hrd:NatR wr (some ⟨w.heap.size,0,none⟩) (T.length + k + 3) O:=HO.out.readsV (nlr _) (New.refl _ _) hS.u16 (by rw [HSL.out]; omega) hcap;have CT2:=trim_any O _ _ wr hrd;obtain ⟨m,hm,e⟩:=trim_some hS.u16;have hown:OwnN w.heap.size wr (some ⟨w.heap.size,0,none⟩) (T.length + k + 3) (O.take m):=HO.out.own (nlr _) (by rw [HSL.out]; simp) hcap m hm;rw [<- e,hval] at hown;rw [hval,HSL.out] at CT2;replace CT2:=Hd CT2;have HOWN:=Hd hown;clear hown hval hS e hrd hit;go_wp2_with fail;refine CT2.out.mono ?_;rintro e w1 ⟨rfl,rfl⟩;go_wp2;go_ret;exact ⟨_,_,rfl,HOWN.out,hwr⟩
section
variable {P : Program} {ops : Array Oper} {Q : Exit -> Act -> World -> Prop} {md : Region.Mode} {S : World -> Prop}
def Closed (md:Region.Mode) (ops:Array Oper) (listed:Array Bool):Prop :=
 ∀ k o,ops[k]? = some o -> listed.getD k false = true -> ∀ e ∈ o.after,Region.binds md e = true -> listed.getD e.on false = true
theorem Closed.set_ {listed:Array Bool} {j:Nat} (h:Closed md ops listed) (hj:j ∈ Region.ready md ops listed):Closed md ops (listed.setIfInBounds j true):=by
 intro k o ho hk e he hb;obtain ⟨_,oj,hoj,hall⟩:=mem_ready.1 hj;by_cases hkj:j = k
 ·
  subst hkj;rw [hoj] at ho;injection ho with ho
  subst ho;exact getD_set_true (hall e he hb)
 ·
  rw [getD_set_ne false hkj] at hk;exact getD_set_true (h k o ho hk e he hb)
def dep (md:Region.Mode) (ops:Array Oper):Nat -> Nat -> Nat -> Bool
 | 0,_,_=>false
 | n + 1,j,i=>match ops[j]? with
  | none=>false
  | some o=>o.after.any fun e=>Region.binds md e && (e.on == i || dep md ops n e.on i)
theorem dep_listed {listed:Array Bool} (h:Closed md ops listed):∀ (n j i:Nat) (oj:Oper),ops[j]? = some oj -> dep md ops n j i = true ->
  (∀ e ∈ oj.after,Region.binds md e = true -> listed.getD e.on false = true) -> listed.getD i false = true
 | 0,_,_,_,_,hd,_=>by simp [dep] at hd
 | n + 1,j,i,oj,hoj,hd,hall=>by
  simp only [dep,hoj] at hd;obtain ⟨e,he,hb⟩:=Array.any_eq_true'.1 hd;simp only [Bool.and_eq_true,Bool.or_eq_true,beq_iff_eq] at hb;rcases hb.2 with h1 | h1
  · rw [<- h1]; exact hall e he hb.1
  ·
   have hl:=hall e he hb.1
   cases ho:ops[e.on]? with
   | none =>
    cases n with
    | zero=>simp [dep] at h1
    | succ n=>simp [dep,ho] at h1
   | some oe=>exact dep_listed h n e.on i oe ho h1 (fun e' he' hb'=>h e.on oe ho hl e' he' hb')
def wpAnyX (P:Program) (md:Region.Mode) (ops:Array Oper) (Q:Exit -> Act -> World -> Prop) (S:World -> Prop) (tl:Nat -> Bool):Nat -> Array Bool -> Act -> World -> Prop
 | 0,listed,a,w=>Region.ready md ops listed = [] /\ Q .normal a w
 | fuel + 1,listed,a,w =>
  (Region.ready md ops listed = [] -> Q .normal a w) /\
  ∀ i ∈ Region.ready md ops listed,wpOp P ops Q i (fun a' w'=>(tl i = false -> S w') /\ wpAnyX P md ops Q S tl fuel (listed.setIfInBounds i true) a' w') a w
theorem wpAny_of_X {tl:Nat -> Bool}:∀ (fuel:Nat) (listed:Array Bool) (a:Act) (w:World),wpAnyX P md ops Q S tl fuel listed a w -> wpAny P md ops Q fuel listed a w
 | 0,_,_,_,h=>h
 | fuel + 1,_,_,_,h=>⟨h.1,fun i hi=>wpOp_mono (fun a' w' h'=>wpAny_of_X fuel _ a' w' h'.2) (h.2 i hi)⟩
theorem wpAnyX_first {tl:Nat -> Bool} {i:Nat} {oi:Oper} {v:Value} (hi:ops[i]? = some oi) (hti:tl i = false) (hsel:∀ (j:Nat) (o:Oper) cs b,ops[j]? = some o -> o.op ≠ .select cs b)
  (hQ:∀ c a w,Q (.panic c) (a.put oi.dst v) w -> Q (.panic c) a w) :
  ∀ (fuel:Nat) (listed:Array Bool) (a:Act) (w:World),
   (∀ j oj,ops[j]? = some oj -> j ≠ i -> listed.getD j true = false -> (∀ e ∈ oj.after,Region.binds md e = true -> e.on ≠ i) -> oi.apart ops oj = true) ->
   (∀ j,tl j = true -> dep md ops ops.size j i = true) -> Closed md ops listed ->
   i ∈ Region.ready md ops listed -> YieldsIf P ops S oi v a -> S w ->
   wpAnyX P md ops Q S tl fuel (listed.setIfInBounds i true) (a.put oi.dst v) w -> wpAnyX P md ops Q S tl (fuel + 1) listed a w:=by
 intro fuel
 induction fuel with
 | zero =>
  intro listed a w _ _ _ hr hy hS H;refine ⟨fun h=>(by rw [h] at hr; cases hr),fun j hj=>?_⟩;by_cases hji:j = i
  · subst hji; exact hy.wpOp hi hS ⟨fun _=>hS,H⟩
  ·
   have:=ready_mono hj hji;rw [H.1] at this
   cases this
 | succ fuel ih =>
  intro listed a w hfree htl hcl hr hy hS H;refine ⟨fun h=>(by rw [h] at hr; cases hr),fun j hj=>?_⟩;by_cases hji:j = i
  · subst hji; exact hy.wpOp hi hS ⟨fun _=>hS,H⟩
  ·
   have h1:=H.2 j (ready_mono hj hji);obtain ⟨hjun,oj,hoj,hall⟩:=mem_ready.1 hj;have hiun:=(mem_ready.1 hr).1;have hnl:listed.getD i false = false:=by
    rcases Nat.lt_or_ge i listed.size with h' | h'
    · simp [h'] at hiun ⊢; exact hiun
    · simp [Array.getElem?_eq_none h']
   have htj:tl j = false:=by
    cases htj:tl j with
    | false=>rfl
    | true =>
     have:=dep_listed hcl ops.size j i oj hoj (htl j htj) hall;rw [hnl] at this; cases this
   have hnot:∀ e ∈ oj.after,Region.binds md e = true -> e.on ≠ i:=fun e he hb heq=>by
    have h1:=hall e he hb;rw [heq,hnl] at h1; cases h1
   have h2:=wpOp_putIf hoj (hfree j oj hoj hji hjun hnot) (fun cs b=>hsel i oi cs b hi) (fun cs b=>hsel j oj cs b hoj) hQ hy h1;have hfree':∀ k ok,ops[k]? = some ok -> k ≠ i -> (listed.setIfInBounds j true).getD k true = false ->
     (∀ e ∈ ok.after,Region.binds md e = true -> e.on ≠ i) -> oi.apart ops ok = true:=fun k ok hk hki hun hno=>by
    refine hfree k ok hk hki ?_ hno;by_cases hjk:j = k
    · subst hjk; exact hjun
    · rw [getD_set_ne true hjk] at hun; exact hun
   refine wpOp_mono (fun a' w' h3=>⟨h3.2.1,ih (listed.setIfInBounds j true) a' w' hfree' htl (hcl.set_ hj) (ready_mono hr (Ne.symm hji)) h3.1 (h3.2.1 htj) ?_⟩) h2;rw [Array.setIfInBounds_comm _ _ hji];exact h3.2.2
theorem wpAnyX_pure {tl:Nat -> Bool} {i:Nat} {oi:Oper} {v:Value} (hi:ops[i]? = some oi) (hti:tl i = true) (hsel:∀ (j:Nat) (o:Oper) cs b,ops[j]? = some o -> o.op ≠ .select cs b)
  (hQ:∀ c a w,Q (.panic c) (a.put oi.dst v) w -> Q (.panic c) a w) :
  ∀ (fuel:Nat) (listed:Array Bool) (a:Act) (w:World),
   (∀ j oj,ops[j]? = some oj -> j ≠ i -> listed.getD j true = false -> (∀ e ∈ oj.after,Region.binds md e = true -> e.on ≠ i) -> oi.apart ops oj = true) ->
   i ∈ Region.ready md ops listed -> Yields P ops oi v a ->
   wpAnyX P md ops Q S tl fuel (listed.setIfInBounds i true) (a.put oi.dst v) w -> wpAnyX P md ops Q S tl (fuel + 1) listed a w:=by
 intro fuel
 induction fuel with
 | zero =>
  intro listed a w _ hr hy H;refine ⟨fun h=>(by rw [h] at hr; cases hr),fun j hj=>?_⟩;by_cases hji:j = i
  · subst hji; exact hy.wpOp hi ⟨(fun h=>by rw [hti] at h; cases h),H⟩
  ·
   have:=ready_mono hj hji;rw [H.1] at this
   cases this
 | succ fuel ih =>
  intro listed a w hfree hr hy H;refine ⟨fun h=>(by rw [h] at hr; cases hr),fun j hj=>?_⟩;by_cases hji:j = i
  · subst hji; exact hy.wpOp hi ⟨(fun h=>by rw [hti] at h; cases h),H⟩
  ·
   have h1:=H.2 j (ready_mono hj hji);obtain ⟨hjun,oj,hoj,hall⟩:=mem_ready.1 hj;have hiun:=(mem_ready.1 hr).1;have hnl:listed.getD i false = false:=by
    rcases Nat.lt_or_ge i listed.size with h' | h'
    · simp [h'] at hiun ⊢; exact hiun
    · simp [Array.getElem?_eq_none h']
   have hnot:∀ e ∈ oj.after,Region.binds md e = true -> e.on ≠ i:=fun e he hb heq=>by
    have h1:=hall e he hb;rw [heq,hnl] at h1; cases h1
   have h2:=wpOp_put hoj (hfree j oj hoj hji hjun hnot) (fun cs b=>hsel i oi cs b hi) (fun cs b=>hsel j oj cs b hoj) hQ hy h1;have hfree':∀ k ok,ops[k]? = some ok -> k ≠ i -> (listed.setIfInBounds j true).getD k true = false ->
     (∀ e ∈ ok.after,Region.binds md e = true -> e.on ≠ i) -> oi.apart ops ok = true:=fun k ok hk hki hun hno=>by
    refine hfree k ok hk hki ?_ hno;by_cases hjk:j = k
    · subst hjk; exact hjun
    · rw [getD_set_ne true hjk] at hun; exact hun
   refine wpOp_mono (fun a' w' h3=>⟨h3.2.1,ih (listed.setIfInBounds j true) a' w' hfree' (ready_mono hr (Ne.symm hji)) h3.1 ?_⟩) h2;rw [Array.setIfInBounds_comm _ _ hji];exact h3.2.2
inductive Mode4 where
 | q | l | t | p
 deriving DecidableEq
def Mode4.tail:Mode4 -> Bool
 | .t=>true
 | .p=>true
 | _=>false
def tailOf (l:List (Nat × Mode4)) (i:Nat):Bool:=l.any fun x=>x.1 == i && x.2.tail
def mixB (md:Region.Mode) (ops:Array Oper):List (Nat × Mode4) -> Array Bool -> Bool
 | [],listed=>(Region.ready md ops listed).isEmpty
 | (i,.q) :: r,listed=>Region.free md ops listed i && ((Region.ready md ops listed).contains i && mixB md ops r (listed.setIfInBounds i true))
 | (i,.p) :: r,listed=>Region.free md ops listed i && ((Region.ready md ops listed).contains i && mixB md ops r (listed.setIfInBounds i true))
 | (i,_) :: r,listed=>(Region.ready md ops listed == [i]) && mixB md ops r (listed.setIfInBounds i true)
def orderB (md:Region.Mode) (ops:Array Oper) (l:List (Nat × Mode4)):Bool :=
 decide (l.map (·.1)).Nodup && l.all (fun x=>match x.2 with
  | .q=>l.all fun y=>!y.2.tail || dep md ops ops.size y.1 x.1
  | _=>true)
def lateB:List (Nat × Mode4) -> Bool -> Bool
 | [],_=>true
 | (_,m) :: r,late=>(!(late && (m == .q || m == .l))) && lateB r (late || m.tail)
def opAt (ops:Array Oper) (i:Nat):Option Oper:=(ops.toList.drop i).head?
theorem opAt_eq (ops:Array Oper) (i:Nat):opAt ops i = ops[i]?:=by simp [opAt]
def wpMix (P:Program) (ops:Array Oper) (Q:Exit -> Act -> World -> Prop) (S:World -> Prop):List (Nat × Mode4) -> Act -> World -> Prop
 | [],a,w=>Q .normal a w
 | (i,m) :: r,a,w=>match opAt ops i with
  | none=>False
  | some o=>if Region.wanted o (yielded ops a.tmps) = true then
    (match m with
     | .q=>∃ v,(∀ w',S w' -> (execOp a.eval o).run P w' = .ok (.value v) w') /\ wpMix P ops Q S r (a.put o.dst v) w
     | .p=>∃ v,(∀ w',(execOp a.eval o).run P w' = .ok (.value v) w') /\ wpMix P ops Q S r (a.put o.dst v) w
     | .l=>o.wp P a w (fun a' w'=>S w' /\ wpMix P ops Q S r a' w') Q
     | .t=>o.wp P a w (fun a' w'=>wpMix P ops Q S r a' w') Q)
   else wpMix P ops Q S r (a.put o.dst undef) w
theorem nodup_snd {l:List (Nat × Mode4)}:∀ {i:Nat} {m m':Mode4},(l.map (·.1)).Nodup -> (i,m) ∈ l -> (i,m') ∈ l -> m = m':=by
 induction l with
 | nil=>intro i m m' _ h; cases h
 | cons y l ih =>
  intro i m m' hn h h';simp only [List.map_cons,List.nodup_cons] at hn;rcases List.mem_cons.1 h with h1 | h1 <;> rcases List.mem_cons.1 h' with h2 | h2
  · rw [<- h1] at h2; injection h2 with _ e; exact e.symm
  · subst h1; exact absurd (List.mem_map.2 ⟨_,h2,rfl⟩) hn.1
  · subst h2; exact absurd (List.mem_map.2 ⟨_,h1,rfl⟩) hn.1
  · exact ih hn.2 h1 h2
theorem tailOf_mem {l:List (Nat × Mode4)} {i:Nat} {m:Mode4} (hn:(l.map (·.1)).Nodup) (h:(i,m) ∈ l):tailOf l i = m.tail:=by
 unfold tailOf;rw [Bool.eq_iff_iff,List.any_eq_true]
 constructor
 ·
  rintro ⟨⟨j,m'⟩,hj,hb⟩;simp only [Bool.and_eq_true,beq_iff_eq] at hb;obtain ⟨rfl,hb⟩:=hb;have:m' = m:=nodup_snd hn hj h;rw [<- this]; exact hb
 ·
  intro hb;exact ⟨(i,m),h,by simp [hb]⟩
theorem mem_of_tail {l:List (Nat × Mode4)} {j:Nat} (h:tailOf l j = true):∃ m,(j,m) ∈ l /\ m.tail = true:=by
 unfold tailOf at h;obtain ⟨⟨i,m⟩,hm,hb⟩:=List.any_eq_true.1 h;simp only [Bool.and_eq_true,beq_iff_eq] at hb;obtain ⟨rfl,hb⟩:=hb;exact ⟨m,hm,hb⟩
theorem wpMix_any (hs:Region.noSelect ops = true) (hQ:∀ d v c a w,Q (.panic c) (a.put d v) w -> Q (.panic c) a w) (L:List (Nat × Mode4)) (hL:orderB md ops L = true) :
  ∀ (l:List (Nat × Mode4)) (listed:Array Bool) (a:Act) (w:World) (late:Bool),(∀ x ∈ l,x ∈ L) -> mixB md ops l listed = true -> lateB l late = true -> Closed md ops listed -> (late = false -> S w) -> wpMix P ops Q S l a w ->
   wpAnyX P md ops Q S (tailOf L) l.length listed a w
 | [],listed,a,w,_,_,hB,_,_,_,h=>by
  unfold wpAnyX;exact ⟨by simpa [mixB] using hB,h⟩
 | (i,m) :: r,listed,a,w,late,hsub,hB,hlate,hcl,hS,h=>by
  have hL':=hL;simp only [orderB,Bool.and_eq_true,decide_eq_true_eq,List.all_eq_true] at hL';have hti:=tailOf_mem hL'.1 (hsub (i,m) (by simp));have hsub':∀ x ∈ r,x ∈ L:=fun x hx=>hsub x (by simp [hx])
  simp only [lateB,Bool.and_eq_true] at hlate;unfold wpMix at h;rw [opAt_eq] at h
  cases ho:ops[i]? with
  | none=>rw [ho] at h; exact h.elim
  | some o =>
   rw [ho] at h;simp only at h
   cases m with
   | q =>
    simp only [mixB,Bool.and_eq_true] at hB;obtain ⟨h1,h2,h3⟩:=hB;have hnl:late = false:=by
     cases late with
     | false=>rfl
     | true=>simp at hlate
    have h2':i ∈ Region.ready md ops listed:=by simpa using h2
    have htl:∀ j,tailOf L j = true -> dep md ops ops.size j i = true:=fun j hj=>by
     obtain ⟨mj,hmj,htj⟩:=mem_of_tail hj;have:=hL'.2 (i,.q) (hsub _ (by simp));simp only [List.all_eq_true] at this;have:=this (j,mj) hmj;simpa [htj] using this
    have hlr:lateB r late = true:=by simpa [Mode4.tail] using hlate.2
    by_cases hw:Region.wanted o (yielded ops a.tmps) = true
    ·
     rw [if_pos hw] at h;obtain ⟨v,hv,hn⟩:=h;exact wpAnyX_first ho hti (Region.noSelect_spec hs) (fun c a w=>hQ _ _ c a w) _ _ _ _ (Region.free_spec ho h1) htl hcl h2' (.inl ⟨hw,hv⟩) (hS hnl) (wpMix_any hs hQ L hL r _ _ _ late hsub' h3 hlr (hcl.set_ h2') hS hn)
    ·
     rw [if_neg hw] at h;exact wpAnyX_first ho hti (Region.noSelect_spec hs) (fun c a w=>hQ _ _ c a w) _ _ _ _ (Region.free_spec ho h1) htl hcl h2' (.inr ⟨by simpa using hw,rfl⟩) (hS hnl) (wpMix_any hs hQ L hL r _ _ _ late hsub' h3 hlr (hcl.set_ h2') hS h)
   | p =>
    simp only [mixB,Bool.and_eq_true] at hB;obtain ⟨h1,h2,h3⟩:=hB;have h2':i ∈ Region.ready md ops listed:=by simpa using h2
    have hlr:lateB r true = true:=by simpa [Mode4.tail] using hlate.2
    by_cases hw:Region.wanted o (yielded ops a.tmps) = true
    ·
     rw [if_pos hw] at h;obtain ⟨v,hv,hn⟩:=h;exact wpAnyX_pure ho hti (Region.noSelect_spec hs) (fun c a w=>hQ _ _ c a w) _ _ _ _ (Region.free_spec ho h1) h2' (.inl ⟨hw,hv⟩) (wpMix_any hs hQ L hL r _ _ _ true hsub' h3 hlr (hcl.set_ h2') (fun h=>by cases h) hn)
    ·
     rw [if_neg hw] at h;exact wpAnyX_pure ho hti (Region.noSelect_spec hs) (fun c a w=>hQ _ _ c a w) _ _ _ _ (Region.free_spec ho h1) h2' (.inr ⟨by simpa using hw,rfl⟩) (wpMix_any hs hQ L hL r _ _ _ true hsub' h3 hlr (hcl.set_ h2') (fun h=>by cases h) h)
   | l =>
    simp only [mixB,Bool.and_eq_true,beq_iff_eq] at hB;obtain ⟨h1,h3⟩:=hB;have h2':i ∈ Region.ready md ops listed:=by rw [h1]; simp
    have hlr:lateB r late = true:=by simpa [Mode4.tail] using hlate.2
    unfold wpAnyX;refine ⟨(fun h0=>by rw [h1] at h0; cases h0),fun j hj=>?_⟩;obtain rfl:j = i:=by rw [h1] at hj; simpa using hj
    unfold wpOp;rw [ho];simp only;by_cases hw:Region.wanted o (yielded ops a.tmps) = true
    ·
     rw [if_pos hw] at h ⊢;exact .inl (Oper.wp_mono (fun a' w' hh=>⟨fun _=>hh.1,wpMix_any hs hQ L hL r _ a' w' late hsub' h3 hlr (hcl.set_ h2') (fun _=>hh.1) hh.2⟩) h)
    ·
     rw [if_neg hw] at h ⊢
     cases late with
     | false=>exact ⟨fun _=>hS rfl,wpMix_any hs hQ L hL r _ _ _ false hsub' h3 hlr (hcl.set_ h2') hS h⟩
     | true=>simp at hlate
   | t =>
    simp only [mixB,Bool.and_eq_true,beq_iff_eq] at hB;obtain ⟨h1,h3⟩:=hB;have h2':i ∈ Region.ready md ops listed:=by rw [h1]; simp
    have hlr:lateB r true = true:=by simpa [Mode4.tail] using hlate.2
    unfold wpAnyX;refine ⟨(fun h0=>by rw [h1] at h0; cases h0),fun j hj=>?_⟩;obtain rfl:j = i:=by rw [h1] at hj; simpa using hj
    unfold wpOp;rw [ho];simp only;have hno:tailOf L j = false -> False:=fun h=>by rw [hti] at h; cases h
    by_cases hw:Region.wanted o (yielded ops a.tmps) = true
    ·
     rw [if_pos hw] at h ⊢;exact .inl (Oper.wp_mono (fun a' w' hh=>⟨fun h=>(hno h).elim,wpMix_any hs hQ L hL r _ a' w' true hsub' h3 hlr (hcl.set_ h2') (fun h=>by cases h) hh⟩) h)
    ·
     rw [if_neg hw] at h ⊢;exact ⟨fun h=>(hno h).elim,wpMix_any hs hQ L hL r _ _ _ true hsub' h3 hlr (hcl.set_ h2') (fun h=>by cases h) h⟩
-- a goal with this head is never laid open by the way
attribute [irreducible] wpMix
theorem wp_region_mix {id:Nat} {a:Act} {w:World} (l:List (Nat × Mode4)) (hm:P.follows .mixedOrders = true) (hs:Region.noSelect ops = true)
  (hB:(l.length == ops.size && (orderB .any ops l && (lateB l false && mixB .any ops l (Array.replicate ops.size false)))) = true)
  (hQ:∀ d v c a w,Q (.panic c) (a.put d v) w -> Q (.panic c) a w) (hS:S w.drew) (h:wpMix P ops Q S l a w.drew):(Code.region id ops true).wp P Q a w:=by
 simp only [Bool.and_eq_true,beq_iff_eq] at hB;refine wp_region_any hm (wpAny_of_X (S:=S) (tl:=tailOf l) _ _ _ _ ?_);have hc:Closed .any ops (Array.replicate ops.size false):=fun k o _ hk=>by
  exfalso;rcases Nat.lt_or_ge k ops.size with h' | h'
  · simp [h'] at hk
  · simp [Nat.not_lt.2 h'] at hk
 have:=wpMix_any (md:=.any) hs hQ l hB.2.1 l _ a w.drew false (fun _ h=>h) hB.2.2.2 hB.2.2.1 hc (fun _=>hS) h
 rwa [hB.1] at this
theorem wpMix_nil {a:Act} {w:World} (h:Q .normal a w):wpMix P ops Q S [] a w:=by unfold wpMix; exact h
theorem wpMix_skip {i:Nat} {m:Mode4} {r:List (Nat × Mode4)} {o:Oper} {a:Act} {w:World} (ho:opAt ops i = some o) (hw:Region.wanted o (yielded ops a.tmps) = false)
  (h:∀ K:Act -> World -> Prop,(∀ a' w',wpMix P ops Q S r a' w' -> K a' w') -> K (a.put o.dst undef) w):wpMix P ops Q S ((i,m) :: r) a w:=by
 unfold wpMix;rw [ho];simp only;rw [if_neg (by simp [hw])];exact h _ (fun _ _ h=>h)
theorem wpMix_q {i:Nat} {r:List (Nat × Mode4)} {o:Oper} {a:Act} {w:World} (ho:opAt ops i = some o) (hw:Region.wanted o (yielded ops a.tmps) = true)
  (h:∀ K:Act -> World -> Prop,(∀ a' w',wpMix P ops Q S r a' w' -> K a' w') -> ∃ v,(∀ w',S w' -> (execOp a.eval o).run P w' = .ok (.value v) w') /\ K (a.put o.dst v) w) :
  wpMix P ops Q S ((i,.q) :: r) a w:=by
 unfold wpMix;rw [ho];simp only;rw [if_pos hw];exact h _ (fun _ _ h=>h)
theorem wpMix_p {i:Nat} {r:List (Nat × Mode4)} {o:Oper} {a:Act} {w:World} (ho:opAt ops i = some o) (hw:Region.wanted o (yielded ops a.tmps) = true)
  (h:∀ K:Act -> World -> Prop,(∀ a' w',wpMix P ops Q S r a' w' -> K a' w') -> ∃ v,(∀ w',(execOp a.eval o).run P w' = .ok (.value v) w') /\ K (a.put o.dst v) w) :
  wpMix P ops Q S ((i,.p) :: r) a w:=by
 unfold wpMix;rw [ho];simp only;rw [if_pos hw];exact h _ (fun _ _ h=>h)
theorem wpMix_l {i:Nat} {r:List (Nat × Mode4)} {o:Oper} {a:Act} {w:World} (ho:opAt ops i = some o) (hw:Region.wanted o (yielded ops a.tmps) = true)
  (h:∀ K:Act -> World -> Prop,Hid (∀ a' w',S w' -> (S w' -> wpMix P ops Q S r a' w') -> K a' w') -> o.wp P a w K Q) :
  wpMix P ops Q S ((i,.l) :: r) a w:=by
 unfold wpMix;rw [ho];simp only;rw [if_pos hw];exact h _ (fun _ _ h1 h2=>⟨h1,h2 h1⟩)
theorem wpMix_t {i:Nat} {r:List (Nat × Mode4)} {o:Oper} {a:Act} {w:World} (ho:opAt ops i = some o) (hw:Region.wanted o (yielded ops a.tmps) = true)
  (h:∀ K:Act -> World -> Prop,Hid (∀ a' w',wpMix P ops Q S r a' w' -> K a' w') -> o.wp P a w K Q) :
  wpMix P ops Q S ((i,.t) :: r) a w:=by
 unfold wpMix;rw [ho];simp only;rw [if_pos hw];exact h _ (fun _ _ h=>h)
end
theorem shift_zero (l:List Int) (d:Int) (a:Option Addr) (c:Nat) (w:World) (h:NatR w a c l) (hn:val l = 0) (hd:-1048576 <= d /\ d <= 1048576) :
  Calls Tryz.prog 185 #[.slice a l.length c,.int .i64 d] w fun e w'=>e = .returned (.slice none 0 0) /\ w = w':=by
 have CT:=trim_any l a c w h;rw [hn,limbs_zero] at CT;replace CT:=Hd CT;obtain ⟨hd1,hd2⟩:=hd;clear h hn;go_enter Tryz.func185,Tryz.ntmps185;go_wp2_with fail;refine CT.out.mono ?_;rintro e w1 ⟨rfl,rfl⟩;go_wp2;go_ret;exact ⟨rfl,rfl⟩
theorem shift_neg (l:List Int) (n s:Nat) (a:Option Addr) (c:Nat) (w:World) (h:NatR w a c l) (hn:val l = n) (h0:0 < n) (hl:l.length <= 10000000) (hs0:0 < s) (hs:s <= 1048576) :
  Calls Tryz.prog 185 #[.slice a l.length c,.int .i64 (-(s:Int))] w (RetN (limbs (n / 2 ^ s)) w):=by
 have CT:=trim_any l a c w h;have hT:=h.trim;have hlt:=limbs_len_val h.u16;rw [hn] at CT hT hlt;have CR:=right_any (limbs n) n s a c w hT (val_limbs n) (by omega) (by omega);have hTp:=limbs_len_pos.2 h0;revert CT CR hTp;generalize (limbs n).length = T;intro CT CR hTp;replace CT:=Hd CT;replace CR:=Hd CR;have hne:((T:Int) == 0) = false:=by rw [beq_eq_false_iff_ne]; omega
 have hneg:- -(s:Int) = (s:Int):=by omega
 clear h hn hlt hT h0;go_enter Tryz.func185,Tryz.ntmps185;go_wp2_with fail;refine CT.out.mono ?_;rintro e w1 ⟨rfl,rfl⟩;go_wp2_with fail;refine CR.out.mono ?_;rintro e w1 ⟨a1,c1,rfl,hV1,hb1⟩;have HV:=Hd hV1;clear hV1;go_wp2;go_ret;exact ⟨_,_,rfl,HV.out,hb1⟩
def tooGreat (d r v2 u0:Nat):Bool:=decide (65536 <= d) || decide (r * 65536 + u0 < d * v2)
theorem tooGreat_any (v:List Int) (n j d r v2 u0 uc vc:Nat) (bd bv bn br bu bj g:Nat) (ul:Nat) (av:Option Addr) (w:World)
  (h0:w.cell? ⟨bd,0,none⟩ = some (.int .u64 d)) (h1:w.cell? ⟨bv,0,none⟩ = some (.slice av v.length vc)) (h2:w.cell? ⟨bn,0,none⟩ = some (.int .i64 ((n + 2:Nat):Int)))
  (h3:w.cell? ⟨br,0,none⟩ = some (.int .u64 r)) (h4:w.cell? ⟨bu,0,none⟩ = some (.slice (some ⟨g,0,none⟩) ul uc)) (h5:w.cell? ⟨bj,0,none⟩ = some (.int .i64 j))
  (hv:∃ b off,av = some ⟨b,off,none⟩ /\ w.cell? ⟨b,off + n,none⟩ = some (.int .u16 v2)) (hu:w.cell? ⟨g,j + n,none⟩ = some (.int .u16 u0)) (hvl:v.length = n + 2) (hul:j + (n + 2) < ul) (hul2:ul <= 16777216)
  (hd:d <= 65537) (hr:r < 65536) (hv2:v2 <= 65535) (hu0:u0 <= 65535) :
  Calls Tryz.prog 215 #[.pointer (some ⟨bd,0,none⟩),.pointer (some ⟨bv,0,none⟩),.pointer (some ⟨bn,0,none⟩),.pointer (some ⟨br,0,none⟩),.pointer (some ⟨bu,0,none⟩),.pointer (some ⟨bj,0,none⟩)] w
   fun e w'=>e = .returned (.bool (tooGreat d r v2 u0)) /\ w' = w.drew:=by
 obtain ⟨b,off,rfl,hcv⟩:=hv;have hp:d * v2 <= 65537 * 65535:=Nat.mul_le_mul hd hv2;have hpi:(d:Int) * (v2:Int) = ((d * v2:Nat):Int):=by simp
 unfold tooGreat;revert hp hpi;generalize d * v2 = P;intro hp hpi;obtain ⟨W,hW⟩:∃ W,r * 65536 + u0 = W:=⟨_,rfl⟩
 rw [hW];have hor:bits .or .u64 ((r:Int) * 65536) (u0:Int) = (W:Int):=by
  have h1:=byLimb_or (r:=r) (x:=u0) (by omega);have h2:=u64_or_nat (r * 65536) u0 (by omega) (by omega);rw [h1,hW] at h2;simpa using h2
 have e1:((n + 2:Nat):Int) = (n:Int) + 2:=by omega
 rw [e1] at h2;have hn1:(n:Int) + 2 - 2 = (n:Int):=by omega
 have hn2:(j:Int) + ((n:Int) + 2) - 2 = ((j + n:Nat):Int):=by omega
 have hvl2:n < v.length:=by omega
 have hul3:j + n < ul:=by omega
 have f1:IntKind.i64.wrap (n:Int) = (n:Int):=by rw [IntKind.wrap_i64]; omega
 have f2:IntKind.i64.wrap ((j:Int) + (n:Int)) = (j:Int) + (n:Int):=by rw [IntKind.wrap_i64]; omega
 have f3:IntKind.i64.wrap ((j:Int) + ((n:Int) + 2)) = (j:Int) + ((n:Int) + 2):=by rw [IntKind.wrap_i64]; omega
 have f4:IntKind.u64.wrap (P:Int) = (P:Int):=by rw [wrap64u]; congr 1; exact Nat.mod_eq_of_lt (by omega)
 have f5:IntKind.u64.wrap ((r:Int) * 65536) = (r:Int) * 65536:=by simp [IntKind.wrap,IntKind.bits,IntKind.signed]; omega
 have f6:IntKind.u64.wrap (v2:Int) = (v2:Int):=by rw [wrap64u]; congr 1; exact Nat.mod_eq_of_lt (by omega)
 have f7:IntKind.u64.wrap (u0:Int) = (u0:Int):=by rw [wrap64u]; congr 1; exact Nat.mod_eq_of_lt (by omega)
 have f8:(0:Int) <= (n:Int) /\ (n:Int) < (v.length:Int):=by omega
 have f9:(0:Int) <= (j:Int) + (n:Int) /\ (j:Int) + (n:Int) < (ul:Int):=by omega
 have f10:((j:Int) + (n:Int)).toNat = j + n:=by omega
 clear hW e1 hvl;by_cases hg:65536 <= d
 ·
  have hgi:decide ((65536:Int) <= (d:Int)) = true:=by simp; omega
  have hgn:decide (65536 <= d) = true:=by simpa using hg
  rw [hgn];clear hg;go_enter Tryz.func215,Tryz.ntmps215;go_wp2;refine wp_region_mix (S:=(fun x=>x = w.drew)) [(0,.q),(1,.q),(2,.q),(3,.q),(4,.q),(5,.q),(6,.q),(7,.q),(8,.q),(9,.q),(10,.q),(11,.q),(12,.q),(13,.q),(14,.q),(15,.q),(16,.q),(17,.q),(18,.q),(19,.q),(20,.q),(21,.q),(22,.p),(23,.p),(24,.p)] (by kernel_rfl) (by kernel_rfl) (by kernel_rfl) (fun d _ _ _ _ h=>by cases d <;> exact h) (rfl) ?_
  iterate 3 (refine wpMix_q rfl rfl (fun K hK=>?_); apply Exists.intro; refine ⟨fun w' hw'=>?_,?_⟩; (focus (go_simp; try rfl)); go_simp; refine hK _ _ ?_; clear hK K)
  iterate 20 (refine wpMix_skip rfl rfl (fun K hK=>?_); go_simp; refine hK _ _ ?_; clear hK K)
  iterate 2 (refine wpMix_p rfl rfl (fun K hK=>?_); apply Exists.intro; refine ⟨fun w'=>?_,?_⟩; (focus (go_simp; try rfl)); go_simp; refine hK _ _ ?_; clear hK K)
  refine wpMix_nil ?_;go_wp2;go_ret;exact ⟨by simp,rfl⟩
 ·
  have hgi:decide ((65536:Int) <= (d:Int)) = false:=by simp; omega
  have hgn:decide (65536 <= d) = false:=by simpa using hg
  rw [hgn];clear hg;go_enter Tryz.func215,Tryz.ntmps215;go_wp2;refine wp_region_mix (S:=(fun x=>x = w.drew)) [(0,.q),(1,.q),(2,.q),(3,.q),(4,.q),(5,.q),(6,.q),(7,.q),(8,.q),(9,.q),(10,.q),(11,.q),(12,.q),(13,.q),(14,.q),(15,.q),(16,.q),(17,.q),(18,.q),(19,.q),(20,.q),(21,.q),(22,.p),(23,.p),(24,.p)] (by kernel_rfl) (by kernel_rfl) (by kernel_rfl) (fun d _ _ _ _ h=>by cases d <;> exact h) (rfl) ?_
  iterate 22 (refine wpMix_q rfl rfl (fun K hK=>?_); apply Exists.intro; refine ⟨fun w' hw'=>?_,?_⟩; (focus (go_simp; try rfl)); go_simp; refine hK _ _ ?_; clear hK K)
  iterate 3 (refine wpMix_p rfl rfl (fun K hK=>?_); apply Exists.intro; refine ⟨fun w'=>?_,?_⟩; (focus (go_simp; try rfl)); go_simp; refine hK _ _ ?_; clear hK K)
  refine wpMix_nil ?_;go_wp2;go_ret;exact ⟨by simp,rfl⟩
end Go.Proofs.YtkjnkpkagcboeaaGreatDoor
namespace Go.Proofs.YtkjnkpkagcboeaaGreatDoor
structure Top (L v : List Int) (n j u2 u1 u0 v1 v2 : Nat) : Prop where
 e2:limbAt L (j + (n + 2)) = u2
 e1:limbAt L (j + (n + 1)) = u1
 e0:limbAt L (j + n) = u0
 f1:limbAt v (n + 1) = v1
 f2:limbAt v n = v2
theorem top_bounds {L v:List Int} {n j u2 u1 u0 v1 v2:Nat} (h:Top L v n j u2 u1 u0 v1 v2) (hL:U16 L) (hv:U16 v):u2 <= 65535 /\ u1 <= 65535 /\ u0 <= 65535 /\ v1 <= 65535 /\ v2 <= 65535:=by
 have a:=limbAt_in hL (j + (n + 2));have b:=limbAt_in hL (j + (n + 1));have c:=limbAt_in hL (j + n);have d:=limbAt_in hv (n + 1);have e:=limbAt_in hv n;rw [h.e2] at a;rw [h.e1] at b;rw [h.e0] at c;rw [h.f1] at d;rw [h.f2] at e
 omega
section
variable {L v : List Int} {n j u2 u1 u0 v1 v2 : Nat}
theorem guess_start (h:Top L v n j u2 u1 u0 v1 v2) (hL:U16 L) (hv:U16 v) (hvl:v.length = n + 2) (hjl:j + (n + 2) < L.length) (hlt:val (L.drop (j + 1)) < val v) (htop:32768 <= v1) :
  Guess u2 u1 u0 v1 v2 ((65536 * u2 + u1) / v1) ((65536 * u2 + u1) % v1):=by
 obtain ⟨a,b,c,d,e⟩:=top_bounds h hL hv;have h1:=top_le hL hv hvl hjl hlt;rw [h.e2,h.f1] at h1;exact Guess.start htop d b c (by omega)
theorem guess_end (h:Top L v n j u2 u1 u0 v1 v2) (hL:U16 L) (hv:U16 v) (hvl:v.length = n + 2) (hjl:j + (n + 2) < L.length) (hlt:val (L.drop (j + 1)) < val v) (htop:32768 <= v1) {d r:Nat} (hG:Guess u2 u1 u0 v1 v2 d r)
  (he:65536 <= r \/ (d <= 65535 /\ d * v2 <= r * 65536 + u0)) :
  d <= 65535 /\ (d = val ((L.drop j).take (n + 3)) / val v \/ d = val ((L.drop j).take (n + 3)) / val v + 1) /\ (val ((L.drop j).take (n + 3)) < d * val v ↔ d = val ((L.drop j).take (n + 3)) / val v + 1):=by
 obtain ⟨a,b,c,f,e⟩:=top_bounds h hL hv;have h1:=top_le hL hv hvl hjl hlt;rw [h.e2,h.f1] at h1;obtain ⟨g1,g2,g3⟩:=hG.done e b (by omega) (by rw [Nat.mul_comm 65536 r]; exact he);obtain ⟨s1,_,s3⟩:=seg_val hv hvl hjl hlt;rw [show n + 2 + 1 = n + 3 by rfl] at s1 s3;have hsu:U16 ((L.drop j).take (n + 3)):=(hL.drop _).take _;obtain ⟨lo,hlo,t⟩:=top3 hsu s3;rw [limbAt_seg (by omega),limbAt_seg (by omega),limbAt_seg (by omega),h.e2,h.e1,h.e0] at t;simp only [Int.toNat_natCast] at t;obtain ⟨lo2,hlo2,t2⟩:=top2 hv hvl;rw [h.f1,h.f2] at t2;simp only [Int.toNat_natCast] at t2;obtain ⟨p1,p2⟩:=split_le hlo t;obtain ⟨p3,p4⟩:=split_le hlo2 t2;have hUV:val ((L.drop j).take (n + 3)) < 65536 * val v:=by
  rw [<- s1,val_drop_at L j];have:=limbAt_in hL j
  omega
 obtain ⟨d1,d2⟩:=digit_of (by have:=pow_pos16 n; omega) p1 p2 p3 p4 htop hUV g1 g2 g3;exact ⟨g1,d1,d2⟩
end
theorem digit_ok {U V d o P b:Nat} (h:U + P * b = d * V + o) (hb:b = 0) (hlt:¬ U < d * V) (hd:d = U / V \/ d = U / V + 1) (hi:U < d * V ↔ d = U / V + 1):d = U / V /\ o = U % V:=by
 have h1:d = U / V:=by
  rcases hd with h | h
  · exact h
  · exact (hlt (hi.2 h)).elim
 refine ⟨h1,?_⟩;subst hb;have:=div_sum U V;rw [<- h1] at this
 omega
end Go.Proofs.YtkjnkpkagcboeaaGreatDoor
namespace Go.Proofs.YtkjnkpkagcboeaaGreatDoor
open Go.RowKit
inductive MT where
 | nil
 | q (i:Nat) (r:MT)
 | p (i:Nat) (r:MT)
 | l (i:Nat) (r:MT)
 | t (i:Nat) (r:MT)
 | two (i:Nat) (r:MT) (j:Nat) (r':MT)
 | three (i:Nat) (r:MT) (j:Nat) (r':MT) (k:Nat) (r'':MT)
def MT.size:MT -> Nat
 | .nil=>0
 | .q _ r=>r.size + 1
 | .p _ r=>r.size + 1
 | .l _ r=>r.size + 1
 | .t _ r=>r.size + 1
 | .two _ r _ _=>r.size + 1
 | .three _ r _ _ _ _=>r.size + 1
section
variable {P : Program} {ops : Array Oper} {Q : Exit -> Act -> World -> Prop} {md : Region.Mode} {S : World -> Prop}
def okMT (md:Region.Mode) (ops:Array Oper) (T:List Nat):MT -> Array Bool -> Bool -> Bool
 | .nil,listed,_=>(Region.ready md ops listed).isEmpty
 | .q i r,listed,late=>!late && (!T.contains i && (T.all (fun j=>dep md ops ops.size j i) && (Region.free md ops listed i && ((Region.ready md ops listed).contains i && okMT md ops T r (listed.setIfInBounds i true) late))))
 | .p i r,listed,_=>T.contains i && (Region.free md ops listed i && ((Region.ready md ops listed).contains i && okMT md ops T r (listed.setIfInBounds i true) true))
 | .l i r,listed,late=>!late && (!T.contains i && ((Region.ready md ops listed == [i]) && okMT md ops T r (listed.setIfInBounds i true) late))
 | .t i r,listed,_=>T.contains i && ((Region.ready md ops listed == [i]) && okMT md ops T r (listed.setIfInBounds i true) true)
 | .two i r j r',listed,late=>!late && (!T.contains i && (!T.contains j && ((Region.ready md ops listed == [i,j]) && ((r.size == r'.size) && (okMT md ops T r (listed.setIfInBounds i true) late && okMT md ops T r' (listed.setIfInBounds j true) late)))))
 | .three i r j r' k r'',listed,late=>!late && (!T.contains i && (!T.contains j && (!T.contains k && ((Region.ready md ops listed == [i,j,k]) && ((r.size == r'.size) && ((r.size == r''.size) && (okMT md ops T r (listed.setIfInBounds i true) late && (okMT md ops T r' (listed.setIfInBounds j true) late && okMT md ops T r'' (listed.setIfInBounds k true) late))))))))
def loudly (P:Program) (ops:Array Oper) (Q:Exit -> Act -> World -> Prop) (i:Nat) (K:Act -> World -> Prop) (a:Act) (w:World):Prop:=match opAt ops i with
 | none=>False
 | some o=>if Region.wanted o (yielded ops a.tmps) = true then o.wp P a w K Q else K (a.put o.dst undef) w
def wpMT (P:Program) (ops:Array Oper) (Q:Exit -> Act -> World -> Prop) (S:World -> Prop):MT -> Act -> World -> Prop
 | .nil,a,w=>Q .normal a w
 | .q i r,a,w=>match opAt ops i with
  | none=>False
  | some o=>if Region.wanted o (yielded ops a.tmps) = true then ∃ v,(∀ w',S w' -> (execOp a.eval o).run P w' = .ok (.value v) w') /\ wpMT P ops Q S r (a.put o.dst v) w
   else wpMT P ops Q S r (a.put o.dst undef) w
 | .p i r,a,w=>match opAt ops i with
  | none=>False
  | some o=>if Region.wanted o (yielded ops a.tmps) = true then ∃ v,(∀ w',(execOp a.eval o).run P w' = .ok (.value v) w') /\ wpMT P ops Q S r (a.put o.dst v) w
   else wpMT P ops Q S r (a.put o.dst undef) w
 | .l i r,a,w=>loudly P ops Q i (fun a' w'=>S w' /\ wpMT P ops Q S r a' w') a w
 | .t i r,a,w=>loudly P ops Q i (fun a' w'=>wpMT P ops Q S r a' w') a w
 | .two i r j r',a,w=>loudly P ops Q i (fun a' w'=>S w' /\ wpMT P ops Q S r a' w') a w /\ loudly P ops Q j (fun a' w'=>S w' /\ wpMT P ops Q S r' a' w') a w
 | .three i r j r' k r'',a,w=>loudly P ops Q i (fun a' w'=>S w' /\ wpMT P ops Q S r a' w') a w /\ loudly P ops Q j (fun a' w'=>S w' /\ wpMT P ops Q S r' a' w') a w /\ loudly P ops Q k (fun a' w'=>S w' /\ wpMT P ops Q S r'' a' w') a w
def inT (T:List Nat) (i:Nat):Bool:=T.contains i
theorem loudly_op {i:Nat} {K K':Act -> World -> Prop} {a:Act} {w:World} (h:loudly P ops Q i K a w) (hK:∀ a' w',K a' w' -> K' a' w'):wpOp P ops Q i K' a w:=by
 unfold loudly at h;rw [opAt_eq] at h;unfold wpOp
 cases ho:ops[i]? with
 | none=>rw [ho] at h; exact h.elim
 | some o =>
  rw [ho] at h;simp only at h ⊢;by_cases hw:Region.wanted o (yielded ops a.tmps) = true
  ·
   rw [if_pos hw] at h ⊢;exact .inl (Oper.wp_mono hK h)
  ·
   rw [if_neg hw] at h ⊢;exact hK _ _ h
theorem wpMT_any (hs:Region.noSelect ops = true) (hQ:∀ d v c a w,Q (.panic c) (a.put d v) w -> Q (.panic c) a w) (T:List Nat) :
  ∀ (l:MT) (listed:Array Bool) (a:Act) (w:World) (late:Bool),okMT md ops T l listed late = true -> Closed md ops listed -> (late = false -> S w) -> wpMT P ops Q S l a w ->
   wpAnyX P md ops Q S (inT T) l.size listed a w
 | .nil,listed,a,w,_,hB,_,_,h=>by
  unfold MT.size wpAnyX;exact ⟨by simpa [okMT] using hB,h⟩
 | .q i r,listed,a,w,late,hB,hcl,hS,h=>by
  simp only [okMT,Bool.and_eq_true,Bool.not_eq_true',List.all_eq_true] at hB;obtain ⟨hl,hti,htl,h1,h2,h3⟩:=hB;have h2':i ∈ Region.ready md ops listed:=by simpa using h2
  unfold wpMT at h;rw [opAt_eq] at h
  cases ho:ops[i]? with
  | none=>rw [ho] at h; exact h.elim
  | some o =>
   rw [ho] at h;simp only at h;have htl':∀ j,inT T j = true -> dep md ops ops.size j i = true:=fun j hj=>htl j (by simpa [inT] using hj)
   by_cases hw:Region.wanted o (yielded ops a.tmps) = true
   ·
    rw [if_pos hw] at h;obtain ⟨v,hv,hn⟩:=h;exact wpAnyX_first ho hti (Region.noSelect_spec hs) (fun c a w=>hQ _ _ c a w) _ _ _ _ (Region.free_spec ho h1) htl' hcl h2' (.inl ⟨hw,hv⟩) (hS hl) (wpMT_any hs hQ T r _ _ _ late h3 (hcl.set_ h2') hS hn)
   ·
    rw [if_neg hw] at h;exact wpAnyX_first ho hti (Region.noSelect_spec hs) (fun c a w=>hQ _ _ c a w) _ _ _ _ (Region.free_spec ho h1) htl' hcl h2' (.inr ⟨by simpa using hw,rfl⟩) (hS hl) (wpMT_any hs hQ T r _ _ _ late h3 (hcl.set_ h2') hS h)
 | .p i r,listed,a,w,late,hB,hcl,hS,h=>by
  simp only [okMT,Bool.and_eq_true] at hB;obtain ⟨hti,h1,h2,h3⟩:=hB;have h2':i ∈ Region.ready md ops listed:=by simpa using h2
  unfold wpMT at h;rw [opAt_eq] at h
  cases ho:ops[i]? with
  | none=>rw [ho] at h; exact h.elim
  | some o =>
   rw [ho] at h;simp only at h;by_cases hw:Region.wanted o (yielded ops a.tmps) = true
   ·
    rw [if_pos hw] at h;obtain ⟨v,hv,hn⟩:=h;exact wpAnyX_pure ho hti (Region.noSelect_spec hs) (fun c a w=>hQ _ _ c a w) _ _ _ _ (Region.free_spec ho h1) h2' (.inl ⟨hw,hv⟩) (wpMT_any hs hQ T r _ _ _ true h3 (hcl.set_ h2') (fun h=>by cases h) hn)
   ·
    rw [if_neg hw] at h;exact wpAnyX_pure ho hti (Region.noSelect_spec hs) (fun c a w=>hQ _ _ c a w) _ _ _ _ (Region.free_spec ho h1) h2' (.inr ⟨by simpa using hw,rfl⟩) (wpMT_any hs hQ T r _ _ _ true h3 (hcl.set_ h2') (fun h=>by cases h) h)
 | .l i r,listed,a,w,late,hB,hcl,hS,h=>by
  simp only [okMT,Bool.and_eq_true,Bool.not_eq_true',beq_iff_eq] at hB;obtain ⟨hl,hti,h1,h3⟩:=hB;have h2':i ∈ Region.ready md ops listed:=by rw [h1]; simp
  unfold wpMT at h;unfold MT.size wpAnyX;refine ⟨(fun h0=>by rw [h1] at h0; cases h0),fun j hj=>?_⟩;obtain rfl:j = i:=by rw [h1] at hj; simpa using hj
  exact loudly_op h fun a' w' hh=>⟨fun _=>hh.1,wpMT_any hs hQ T r _ a' w' late h3 (hcl.set_ h2') (fun _=>hh.1) hh.2⟩
 | .t i r,listed,a,w,late,hB,hcl,hS,h=>by
  simp only [okMT,Bool.and_eq_true,beq_iff_eq] at hB;obtain ⟨hti,h1,h3⟩:=hB;have h2':i ∈ Region.ready md ops listed:=by rw [h1]; simp
  unfold wpMT at h;unfold MT.size wpAnyX;refine ⟨(fun h0=>by rw [h1] at h0; cases h0),fun j hj=>?_⟩;obtain rfl:j = i:=by rw [h1] at hj; simpa using hj
  have hno:inT T j = false -> False:=fun h=>by rw [inT,hti] at h; cases h
  exact loudly_op h fun a' w' hh=>⟨fun h=>(hno h).elim,wpMT_any hs hQ T r _ a' w' true h3 (hcl.set_ h2') (fun h=>by cases h) hh⟩
 | .two i r j r',listed,a,w,late,hB,hcl,hS,h=>by
  simp only [okMT,Bool.and_eq_true,Bool.not_eq_true',beq_iff_eq] at hB;obtain ⟨hl,hti,htj,h1,hsz,h3,h4⟩:=hB;have hi':i ∈ Region.ready md ops listed:=by rw [h1]; simp
  have hj':j ∈ Region.ready md ops listed:=by rw [h1]; simp
  unfold wpMT at h;unfold MT.size wpAnyX;refine ⟨(fun h0=>by rw [h1] at h0; cases h0),fun k hk=>?_⟩;rw [h1] at hk;rcases List.mem_cons.1 hk with rfl | hk
  · exact loudly_op h.1 fun a' w' hh=>⟨fun _=>hh.1,wpMT_any hs hQ T r _ a' w' late h3 (hcl.set_ hi') (fun _=>hh.1) hh.2⟩
  ·
   obtain rfl:k = j:=by simpa using hk
   refine loudly_op h.2 fun a' w' hh=>⟨fun _=>hh.1,?_⟩
   rw [hsz];exact wpMT_any hs hQ T r' _ a' w' late h4 (hcl.set_ hj') (fun _=>hh.1) hh.2
 | .three i r j r' k r'',listed,a,w,late,hB,hcl,hS,h=>by
  simp only [okMT,Bool.and_eq_true,Bool.not_eq_true',beq_iff_eq] at hB;obtain ⟨hl,hti,htj,htk,h1,hsz,hsz2,h3,h4,h5⟩:=hB;have hi':i ∈ Region.ready md ops listed:=by rw [h1]; simp
  have hj':j ∈ Region.ready md ops listed:=by rw [h1]; simp
  have hk':k ∈ Region.ready md ops listed:=by rw [h1]; simp
  unfold wpMT at h;unfold MT.size wpAnyX;refine ⟨(fun h0=>by rw [h1] at h0; cases h0),fun m hm=>?_⟩;rw [h1] at hm;rcases List.mem_cons.1 hm with rfl | hm
  · exact loudly_op h.1 fun a' w' hh=>⟨fun _=>hh.1,wpMT_any hs hQ T r _ a' w' late h3 (hcl.set_ hi') (fun _=>hh.1) hh.2⟩
  ·
   rcases List.mem_cons.1 hm with rfl | hm
   ·
    refine loudly_op h.2.1 fun a' w' hh=>⟨fun _=>hh.1,?_⟩
    rw [hsz];exact wpMT_any hs hQ T r' _ a' w' late h4 (hcl.set_ hj') (fun _=>hh.1) hh.2
   ·
    obtain rfl:m = k:=by simpa using hm
    refine loudly_op h.2.2 fun a' w' hh=>⟨fun _=>hh.1,?_⟩
    rw [hsz2];exact wpMT_any hs hQ T r'' _ a' w' late h5 (hcl.set_ hk') (fun _=>hh.1) hh.2
attribute [irreducible] wpMT
theorem wp_region_tree {id:Nat} {a:Act} {w:World} (l:MT) (T:List Nat) (hm:P.follows .mixedOrders = true) (hs:Region.noSelect ops = true)
  (hB:(l.size == ops.size && okMT .any ops T l (Array.replicate ops.size false) false) = true)
  (hQ:∀ d v c a w,Q (.panic c) (a.put d v) w -> Q (.panic c) a w) (hS:S w.drew) (h:wpMT P ops Q S l a w.drew):(Code.region id ops true).wp P Q a w:=by
 simp only [Bool.and_eq_true,beq_iff_eq] at hB;refine wp_region_any hm (wpAny_of_X (S:=S) (tl:=inT T) _ _ _ _ ?_);have hc:Closed .any ops (Array.replicate ops.size false):=fun k o _ hk=>by
  exfalso;rcases Nat.lt_or_ge k ops.size with h' | h'
  · simp [h'] at hk
  · simp [Nat.not_lt.2 h'] at hk
 have:=wpMT_any (md:=.any) hs hQ T l _ a w.drew false hB.2 hc (fun _=>hS) h
 rwa [hB.1] at this
theorem wpMT_nil {a:Act} {w:World} (h:Q .normal a w):wpMT P ops Q S .nil a w:=by unfold wpMT; exact h
theorem wpMT_q {i:Nat} {r:MT} {o:Oper} {a:Act} {w:World} (ho:opAt ops i = some o) (hw:Region.wanted o (yielded ops a.tmps) = true)
  (h:∀ K:Act -> World -> Prop,(∀ a' w',wpMT P ops Q S r a' w' -> K a' w') -> ∃ v,(∀ w',S w' -> (execOp a.eval o).run P w' = .ok (.value v) w') /\ K (a.put o.dst v) w) :
  wpMT P ops Q S (.q i r) a w:=by
 unfold wpMT;rw [ho];simp only;rw [if_pos hw];exact h _ (fun _ _ h=>h)
theorem wpMT_p {i:Nat} {r:MT} {o:Oper} {a:Act} {w:World} (ho:opAt ops i = some o) (hw:Region.wanted o (yielded ops a.tmps) = true)
  (h:∀ K:Act -> World -> Prop,(∀ a' w',wpMT P ops Q S r a' w' -> K a' w') -> ∃ v,(∀ w',(execOp a.eval o).run P w' = .ok (.value v) w') /\ K (a.put o.dst v) w) :
  wpMT P ops Q S (.p i r) a w:=by
 unfold wpMT;rw [ho];simp only;rw [if_pos hw];exact h _ (fun _ _ h=>h)
theorem wpMT_l {i:Nat} {r:MT} {o:Oper} {a:Act} {w:World} (ho:opAt ops i = some o) (hw:Region.wanted o (yielded ops a.tmps) = true)
  (h:∀ K:Act -> World -> Prop,Hid (∀ a' w',S w' -> (S w' -> wpMT P ops Q S r a' w') -> K a' w') -> o.wp P a w K Q) :
  wpMT P ops Q S (.l i r) a w:=by
 unfold wpMT loudly;rw [ho];simp only;rw [if_pos hw];exact h _ (fun _ _ h k=>⟨h,k h⟩)
theorem wpMT_t {i:Nat} {r:MT} {o:Oper} {a:Act} {w:World} (ho:opAt ops i = some o) (hw:Region.wanted o (yielded ops a.tmps) = true)
  (h:∀ K:Act -> World -> Prop,Hid (∀ a' w',wpMT P ops Q S r a' w' -> K a' w') -> o.wp P a w K Q) :
  wpMT P ops Q S (.t i r) a w:=by
 unfold wpMT loudly;rw [ho];simp only;rw [if_pos hw];exact h _ (fun _ _ h=>h)
theorem wpMT_two {i j:Nat} {r r':MT} {a:Act} {w:World} (h:wpMT P ops Q S (.l i r) a w) (h':wpMT P ops Q S (.l j r') a w):wpMT P ops Q S (.two i r j r') a w:=by
 unfold wpMT at h h' ⊢;exact ⟨h,h'⟩
end
end Go.Proofs.YtkjnkpkagcboeaaGreatDoor
