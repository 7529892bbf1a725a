/- Walk: whether a step is right, by the reference. -/
import Derived.Test.YtfaalkneigpcnaaGreatDoorIc22
import Derived.Test.YtfaalkneigpcnaaGreatDoorIc11
import Derived.Test.YtfaalkneigpcnaaGreatDoorRows
import Derived.Deep.LoopGhost
set_option linter.all false
set_option maxRecDepth 100000
set_option maxHeartbeats 4000000
namespace Go.Proofs.YtfaalkneigpcnaaGreatDoor
open Go.RowKit
theorem qq8 (k:Int) (w:World):Calls Tryz.prog 165 #[.int .i64 k] w fun e w'=>e=.returned (.int .i64 (qb2 k))/\w=w':=by
 by_cases hk:1<=k/\k<=9
 ·
  have hc:k=1\/k=2\/k=3\/k=4\/k=5\/k=6\/k=7\/k=8\/k=9:=by omega
  clear hk;rcases hc with rfl | rfl | rfl | rfl | rfl | rfl | rfl | rfl | rfl
  all_goals
   go_enter Tryz.func165,Tryz.ntmps165;go_wp2;go_ret;exact ⟨qcg (by decide),rfl⟩
 ·
  have h1:=qam (a:=k) (b:=1) (by omega);have h2:=qam (a:=k) (b:=2) (by omega);have h3:=qam (a:=k) (b:=3) (by omega);have h4:=qam (a:=k) (b:=4) (by omega);have h5:=qam (a:=k) (b:=5) (by omega);have h6:=qam (a:=k) (b:=6) (by omega);have h7:=qam (a:=k) (b:=7) (by omega);have h8:=qam (a:=k) (b:=8) (by omega);have h9:=qam (a:=k) (b:=9) (by omega);have hr:qb2 k=0:=by unfold qb2;rw [if_neg (by omega),if_neg (by omega),if_neg (by omega),if_neg (by omega)]
  rw [hr];clear hr hk;go_enter Tryz.func165,Tryz.ntmps165;go_wp2;go_ret;exact ⟨rfl,rfl⟩
theorem qq1 (k:Int) (w:World):Calls Tryz.prog 157 #[.int .i64 k] w fun e w'=>e=.returned (.int .i64 (qbc k))/\w=w':=by
 by_cases hk:1<=k/\k<=14
 ·
  have hc:k=1\/k=2\/k=3\/k=4\/k=5\/k=6\/k=7\/k=8\/k=9\/k=10\/k=11\/k=12\/k=13\/k=14:=by omega
  clear hk;rcases hc with rfl | rfl | rfl | rfl | rfl | rfl | rfl | rfl | rfl | rfl | rfl | rfl | rfl | rfl
  all_goals
   go_enter Tryz.func157,Tryz.ntmps157;go_wp2;go_ret;exact ⟨qcg (by decide),rfl⟩
 ·
  have h1:=qam (a:=k) (b:=1) (by omega);have h2:=qam (a:=k) (b:=2) (by omega);have h3:=qam (a:=k) (b:=3) (by omega);have h4:=qam (a:=k) (b:=4) (by omega);have h5:=qam (a:=k) (b:=5) (by omega);have h6:=qam (a:=k) (b:=6) (by omega);have h7:=qam (a:=k) (b:=7) (by omega);have h8:=qam (a:=k) (b:=8) (by omega);have h9:=qam (a:=k) (b:=9) (by omega);have h10:=qam (a:=k) (b:=10) (by omega);have h11:=qam (a:=k) (b:=11) (by omega);have h12:=qam (a:=k) (b:=12) (by omega);have h13:=qam (a:=k) (b:=13) (by omega);have h14:=qam (a:=k) (b:=14) (by omega);have hr:qbc k = -1:=by unfold qbc;rw [if_neg (by omega),if_neg (by omega),if_neg (by omega),if_neg (by omega)]
  rw [hr];clear hr hk;go_enter Tryz.func157,Tryz.ntmps157;go_wp2;go_ret;exact ⟨rfl,rfl⟩
theorem qsb (r:Rt) (na:Option Addr) (nc:Nat) (da:Option Addr) (dc:Nat) (w:World) (hl:r.num.length<=2000000) (hm:r.den.length<=2000000) :
  Calls Tryz.prog 166 #[r.val na nc da dc] w fun e w'=>e=.returned (.bool r.none)/\Below w.heap.size w w':=by
 obtain ⟨neg,num,den⟩:=r;unfold Rt.val Rt.none;dsimp only at hl hm ⊢;by_cases h1:num.length=0 <;> by_cases h2:den.length=0
 all_goals
  have e1:((num.length:Int)==0)=decide (num.length=0):=by rw [Bool.eq_iff_iff];simp
  have e2:((den.length:Int)==0)=decide (den.length=0):=by rw [Bool.eq_iff_iff];simp
  have d1:decide (num.length=0)=decide (num.length=0):=rfl;simp only [h1,h2,decide_true,decide_false] at e1 e2;have HH:(decide (num.length=0),decide (den.length=0))=(decide (num.length=0),decide (den.length=0)):=rfl;simp only [h1,h2,decide_true,decide_false] at HH ⊢;clear HH d1
  cases neg
  all_goals
   have H1:=Hd h1;have H2:=Hd h2;clear h1 h2;go_enter Tryz.func166,Tryz.ntmps166;go_wp2;go_ret;exact ⟨rfl,brf.alloc (nlr _) _⟩
theorem qtk (r:Rt) (na:Option Addr) (nc:Nat) (da:Option Addr) (dc:Nat) (w:World) (hl:r.num.length<=2000000) (hm:r.den.length<=2000000) :
  Calls Tryz.prog 161 #[r.val na nc da dc] w fun e w'=>e=.returned (.bool r.none)/\Below w.heap.size w w':=by
 obtain ⟨neg,num,den⟩:=r;unfold Rt.val Rt.none;dsimp only at hl hm ⊢;by_cases h1:num.length=0 <;> by_cases h2:den.length=0
 all_goals
  have e1:((num.length:Int)==0)=decide (num.length=0):=by rw [Bool.eq_iff_iff];simp
  have e2:((den.length:Int)==0)=decide (den.length=0):=by rw [Bool.eq_iff_iff];simp
  have d1:decide (num.length=0)=decide (num.length=0):=rfl;simp only [h1,h2,decide_true,decide_false] at e1 e2;have HH:(decide (num.length=0),decide (den.length=0))=(decide (num.length=0),decide (den.length=0)):=rfl;simp only [h1,h2,decide_true,decide_false] at HH ⊢;clear HH d1
  cases neg
  all_goals
   have H1:=Hd h1;have H2:=Hd h2;clear h1 h2;go_enter Tryz.func161,Tryz.ntmps161;go_wp2;go_ret;exact ⟨rfl,brf.alloc (nlr _) _⟩
theorem qgn {α:Type} {p:α->Bool} {l:List α} {k:Nat} {x:α} (h:l[k]? = some x):(l.take (k+1)).any p=((l.take k).any p||p x):=by
 rw [qa7 h,List.any_append];simp
theorem qkh {α:Type} {p:α->Bool} {l:List α} {k:Nat} {x:α} (h:l[k]? = some x) (e:p x=true):l.any p=true:=by
 rw [List.any_eq_true];exact ⟨x,List.mem_of_getElem? h,e⟩
theorem zz64 {P:Prop} (h:P:=by
 rintro e w2 ⟨rfl,hb2⟩;have hb3:=bth hb1 hb2;go_wp2;go_ret;exact ⟨rfl,hb3⟩
 ):P:=h
theorem qol (f:Fct) (n:Int) (p:RA) (w:World) (h:qb8 w p f.args f.ratio) (hq:f.ratio.few) (hn:InInt n) (hk:InInt f.kind) :
  Calls Tryz.prog 78 #[f.val p.aa p.ac p.na p.nc p.da p.dc,.int .i64 n] w fun e w'=>e=.returned (.int .i64 (qcn f n))/\Below w.heap.size w w':=by
 obtain ⟨kind,args,r⟩:=f;obtain ⟨aa,ac,na,nc,da,dc⟩:=p;obtain ⟨hI,hN,hD⟩:=h;dsimp only at hI hN hD hq hk;obtain ⟨res,hres⟩:∃ x,qcn ⟨kind,args,r⟩ n=x:=⟨_,rfl⟩
 rw [hres];unfold qcn at hres;dsimp only at hres;have CA:=qor kind;have hA:=qj2 kind;have CR:=fun W (hW:Below w.heap.size w W)=>qig r na nc da dc W (hN.ext (xbw hW)) (hD.ext (xbw hW)) hq.1 hq.2
 have CN:=fun W=>qqu r na nc da dc W hq.1 hq.2
 have hlen:=hI.len;have hIn:∀ a∈args,InInt a:=fun a ha=>by
  obtain ⟨k,hk⟩:=List.mem_iff_getElem?.1 ha;obtain ⟨b,off,_,hc,hw⟩:=hI.2.2 k a hk;exact qed hw
 have HI:=Hd hI;have HIn:=Hd hIn;revert CA hA hres CR CN;generalize qb2 kind=ar;generalize r.right=br;generalize r.none=bn;intro hres CA hA CR CN;replace CA:=Hd CA;replace CR:=Hd CR;replace CN:=Hd CN;have HRES:=Hd hres;obtain ⟨hn1,hn2⟩:=hn;obtain ⟨hk1,hk2⟩:=hk;obtain ⟨neg,num,den⟩:=r;unfold Rt.val at CR CN;unfold Fct.val;dsimp only at CR CN ⊢;clear hres hI hN hD hIn hq;have hz:=Blk.new w 86 #[.int .i64 kind,.slice aa args.length ac,.bool neg,.slice na num.length nc,.slice da den.length dc];have hb0:Below w.heap.size w (w.alloc (.cells #[.int .i64 kind,.slice aa args.length ac,.bool neg,.slice na num.length nc,.slice da den.length dc] 86)):=brf.alloc (nlr _) _;by_cases h0:ar=0
 ·
  have he:(ar==0)=true:=by simpa using h0
  have hr:res=8:=by rw [<- HRES.out,if_pos h0]
  subst hr;clear h0 hz;go_enter Tryz.func78,Tryz.ntmps78;go_wp2_with (go_at_call 153;refine (CA.out _).mono ?_;rintro e w' ⟨rfl,rfl⟩);go_ret;exact ⟨rfl,hb0⟩
 ·
  have he:(ar==0)=false:=by simpa using h0
  have H0:=Hd h0;clear h0;by_cases h1:(args.length:Int)=ar
  ·
   have he1:((args.length:Int) != ar)=false:=by simpa using h1
   have H1:=Hd h1;clear h1;go_enter Tryz.func78,Tryz.ntmps78;go_wp2_with fail;revert hz hb0;generalize w.alloc (.cells #[.int .i64 kind,.slice aa args.length ac,.bool neg,.slice na num.length nc,.slice da den.length dc] 86)=w0;intro hz hb0;obtain ⟨z0,z1,z2,z3,z4⟩:=cq5 hz;refine (CA.out _).mono ?_;rintro e w' ⟨rfl,rfl⟩;go_wp2
   go_quiet ((go_at_call 153;exact Calls.quiet_of_same ((CA.out _).mono fun _ _ h=>⟨h.1,h.2.symm⟩)))
   have hz1:Blk (w0.drewN nq) w.heap.size 86 #[.int .i64 kind,.slice aa args.length ac,.bool neg,.slice na num.length nc,.slice da den.length dc]:=hz;have hb1:=below_drewN hb0 nq;clear z0 z1 z2 z3 z4 hz hb0 CA;revert hz1 hb1;generalize w0.drewN nq=w1;intro hz1 hb1;obtain ⟨z0,z1,z2,z3,z4⟩:=cq5 hz1;go_wp2
   go_loop [6,21] (fun _ i=>∃ k:Nat,k<=args.length/\i=.int .i64 k/\Hid ((args.take k).any (qa3 n)=false)) (fun _ i=>args.length-(intOf i).toNat)
   case atStart=>exact ⟨0,by omega,rfl,rfl⟩
   case round =>
    obtain ⟨k,hk,rfl,hno⟩:=hrel;by_cases hlt:k<args.length
    ·
     obtain ⟨x,hx⟩:=qac hlt;obtain ⟨b,off,rfl,hc⟩:=(HI.out.ext (xbw hb1)).2.2 k x hx;have hc1:w1.cell? ⟨b,off+k,none⟩=some (.int .i64 x):=by simpa using hc.1
     obtain ⟨hx1,hx2⟩:=HIn.out x (List.mem_of_getElem? hx);have HX:=Hd hx;clear hc hx;by_cases hbad:x<0\/n<=x
     ·
      have hr:res=2:=by
       have hany:args.any (qa3 n)=true:=qkh HX.out (by unfold qa3;exact decide_eq_true hbad);rw [<- HRES.out,if_neg H0.out,if_neg (by simpa using H1.out),if_pos hany]
      subst hr;by_cases hx0:x<0
      ·
       clear hbad;go_wp2;go_ret;exact ⟨rfl,hb1⟩
      ·
       have hge:n<=x:=by omega
       clear hbad;go_wp2;go_ret;exact ⟨rfl,hb1⟩
     ·
      have hx0:0<=x:=by omega
      have hxn:x<n:=by omega
      have hbf:qa3 n x=false:=by unfold qa3;exact decide_eq_false hbad
      have HBF:=Hd hbf;clear hbad hbf;go_wp2
      go_round
      case rel=>exact ⟨k+1,by omega,by go_num,by show _=_;rw [qgn HX.out,hno.out,HBF.out];rfl⟩
      case measure=>simp [intOf];omega
    ·
     have hany:args.any (qa3 n)=false:=by
      have:=hno.out
      rwa [qfb hlt] at this
     have hres2:(if kind=9/\br=false then (1:Int) else if kind≠9/\bn=false then 1 else 0)=res:=by
      have:=HRES.out;rw [if_neg H0.out,if_neg (by simpa using H1.out),if_neg (by rw [hany];simp)] at this;exact this
     have HR2:=Hd hres2;clear hres2 hany;by_cases hk9:kind=9
     ·
      have hke:(kind==9)=true:=by simpa using hk9
      have hkn:(kind != 9)=false:=by simpa using hk9
      have HK9:=Hd hk9;clear hk9
      cases br
      ·
       have hr:res=1:=by rw [<- HR2.out,if_pos ⟨HK9.out,rfl⟩]
       subst hr;go_wp2_with fail;refine (CR.out _ hb1).mono ?_;exact zz64
      ·
       have hr:res=0:=by rw [<- HR2.out,if_neg (by simp),if_neg (by simp [HK9.out])]
       subst hr;go_wp2_with fail;refine (CR.out _ hb1).mono ?_;rintro e w2 ⟨rfl,hb2⟩;have hb3:=bth hb1 hb2;have hz2:=hz1.below' hb2;have y0:=hz2.cell 0;clear hb2 hz2;go_wp2;go_ret;exact ⟨rfl,hb3⟩
     ·
      have hke:(kind==9)=false:=by simpa using hk9
      have hkn:(kind != 9)=true:=by simpa using hk9
      have HK9:=Hd hk9;clear hk9
      cases bn
      ·
       have hr:res=1:=by rw [<- HR2.out,if_neg (fun h=>HK9.out h.1),if_pos ⟨HK9.out,rfl⟩]
       subst hr;go_wp2_with fail;refine (CN.out _).mono ?_;exact zz64
      ·
       have hr:res=0:=by rw [<- HR2.out,if_neg (fun h=>HK9.out h.1),if_neg (by simp)]
       subst hr;go_wp2_with fail;refine (CN.out _).mono ?_;exact zz64
  ·
   have he1:((args.length:Int) != ar)=true:=by simpa using h1
   have hr:res=1:=by rw [<- HRES.out,if_neg H0.out,if_pos h1]
   subst hr;clear h1;go_enter Tryz.func78,Tryz.ntmps78;go_wp2_with fail;revert hz hb0;generalize w.alloc (.cells #[.int .i64 kind,.slice aa args.length ac,.bool neg,.slice na num.length nc,.slice da den.length dc] 86)=w0;intro hz hb0;obtain ⟨z0,z1,z2,z3,z4⟩:=cq5 hz;refine (CA.out _).mono ?_;rintro e w' ⟨rfl,rfl⟩;go_wp2
   go_quiet ((go_at_call 153;exact Calls.quiet_of_same ((CA.out _).mono fun _ _ h=>⟨h.1,h.2.symm⟩)))
   go_wp2;go_ret;exact ⟨rfl,below_drewN hb0 _⟩
theorem zz65 {P:Prop} (h:P:=by
 rintro e w2 ⟨rfl,hb2⟩;have hb3:=bth hb1 hb2;go_wp2;go_ret;exact ⟨rfl,hb3⟩
 ):P:=h
theorem qqw (f:Fct) (n:Int) (p:RA) (w:World) (h:qb8 w p f.args f.ratio) (hq:f.ratio.few) (hn:InInt n) (hk:InInt f.kind) :
  Calls Tryz.prog 83 #[f.val p.aa p.ac p.na p.nc p.da p.dc,.int .i64 n] w fun e w'=>e=.returned (.int .i64 (qcn f n))/\Below w.heap.size w w':=by
 obtain ⟨kind,args,r⟩:=f;obtain ⟨aa,ac,na,nc,da,dc⟩:=p;obtain ⟨hI,hN,hD⟩:=h;dsimp only at hI hN hD hq hk;obtain ⟨res,hres⟩:∃ x,qcn ⟨kind,args,r⟩ n=x:=⟨_,rfl⟩
 rw [hres];unfold qcn at hres;dsimp only at hres;have CA:=qq8 kind;have hA:=qj2 kind;have CR:=fun W (hW:Below w.heap.size w W)=>qjm r na nc da dc W (hN.ext (xbw hW)) (hD.ext (xbw hW)) hq.1 hq.2
 have CN:=fun W=>qsb r na nc da dc W hq.1 hq.2
 have hlen:=hI.len;have hIn:∀ a∈args,InInt a:=fun a ha=>by
  obtain ⟨k,hk⟩:=List.mem_iff_getElem?.1 ha;obtain ⟨b,off,_,hc,hw⟩:=hI.2.2 k a hk;exact qed hw
 have HI:=Hd hI;have HIn:=Hd hIn;revert CA hA hres CR CN;generalize qb2 kind=ar;generalize r.right=br;generalize r.none=bn;intro hres CA hA CR CN;replace CA:=Hd CA;replace CR:=Hd CR;replace CN:=Hd CN;have HRES:=Hd hres;obtain ⟨hn1,hn2⟩:=hn;obtain ⟨hk1,hk2⟩:=hk;obtain ⟨neg,num,den⟩:=r;unfold Rt.val at CR CN;unfold Fct.val;dsimp only at CR CN ⊢;clear hres hI hN hD hIn hq;have hz:=Blk.new w 86 #[.int .i64 kind,.slice aa args.length ac,.bool neg,.slice na num.length nc,.slice da den.length dc];have hb0:Below w.heap.size w (w.alloc (.cells #[.int .i64 kind,.slice aa args.length ac,.bool neg,.slice na num.length nc,.slice da den.length dc] 86)):=brf.alloc (nlr _) _;by_cases h0:ar=0
 ·
  have he:(ar==0)=true:=by simpa using h0
  have hr:res=8:=by rw [<- HRES.out,if_pos h0]
  subst hr;clear h0 hz;go_enter Tryz.func83,Tryz.ntmps83;go_wp2_with (go_at_call 165;refine (CA.out _).mono ?_;rintro e w' ⟨rfl,rfl⟩);go_ret;exact ⟨rfl,hb0⟩
 ·
  have he:(ar==0)=false:=by simpa using h0
  have H0:=Hd h0;clear h0;by_cases h1:(args.length:Int)=ar
  ·
   have he1:((args.length:Int) != ar)=false:=by simpa using h1
   have H1:=Hd h1;clear h1;go_enter Tryz.func83,Tryz.ntmps83;go_wp2_with fail;revert hz hb0;generalize w.alloc (.cells #[.int .i64 kind,.slice aa args.length ac,.bool neg,.slice na num.length nc,.slice da den.length dc] 86)=w0;intro hz hb0;obtain ⟨z0,z1,z2,z3,z4⟩:=cq5 hz;refine (CA.out _).mono ?_;rintro e w' ⟨rfl,rfl⟩;obtain ⟨w1,rfl⟩:∃ w1:World,w1=w0:=⟨_,rfl⟩
   have hz1:=hz;have hb1:=hb0;clear hz hb0 CA;go_wp2
   go_loop [7,21] (fun _ i=>∃ k:Nat,k<=args.length/\i=.int .i64 k/\Hid ((args.take k).any (qa3 n)=false)) (fun _ i=>args.length-(intOf i).toNat)
   case atStart=>exact ⟨0,by omega,rfl,rfl⟩
   case round =>
    obtain ⟨k,hk,rfl,hno⟩:=hrel;by_cases hlt:k<args.length
    ·
     obtain ⟨x,hx⟩:=qac hlt;obtain ⟨b,off,rfl,hc⟩:=(HI.out.ext (xbw hb1)).2.2 k x hx;have hc1:w1.cell? ⟨b,off+k,none⟩=some (.int .i64 x):=by simpa using hc.1
     obtain ⟨hx1,hx2⟩:=HIn.out x (List.mem_of_getElem? hx);have HX:=Hd hx;clear hc hx;by_cases hbad:x<0\/n<=x
     ·
      have hr:res=2:=by
       have hany:args.any (qa3 n)=true:=qkh HX.out (by unfold qa3;exact decide_eq_true hbad);rw [<- HRES.out,if_neg H0.out,if_neg (by simpa using H1.out),if_pos hany]
      subst hr;by_cases hx0:x<0
      ·
       clear hbad;go_wp2;go_ret;exact ⟨rfl,hb1⟩
      ·
       have hge:n<=x:=by omega
       clear hbad;go_wp2;go_ret;exact ⟨rfl,hb1⟩
     ·
      have hx0:0<=x:=by omega
      have hxn:x<n:=by omega
      have hbf:qa3 n x=false:=by unfold qa3;exact decide_eq_false hbad
      have HBF:=Hd hbf;clear hbad hbf;go_wp2
      go_round
      case rel=>exact ⟨k+1,by omega,by go_num,by show _=_;rw [qgn HX.out,hno.out,HBF.out];rfl⟩
      case measure=>simp [intOf];omega
    ·
     have hany:args.any (qa3 n)=false:=by
      have:=hno.out
      rwa [qfb hlt] at this
     have hres2:(if kind=9/\br=false then (1:Int) else if kind≠9/\bn=false then 1 else 0)=res:=by
      have:=HRES.out;rw [if_neg H0.out,if_neg (by simpa using H1.out),if_neg (by rw [hany];simp)] at this;exact this
     have HR2:=Hd hres2;clear hres2 hany;by_cases hk9:kind=9
     ·
      have hke:(kind==9)=true:=by simpa using hk9
      have hkn:(kind != 9)=false:=by simpa using hk9
      have HK9:=Hd hk9;clear hk9
      cases br
      ·
       have hr:res=1:=by rw [<- HR2.out,if_pos ⟨HK9.out,rfl⟩]
       subst hr;go_wp2_with fail;refine (CR.out _ hb1).mono ?_;exact zz65
      ·
       have hr:res=0:=by rw [<- HR2.out,if_neg (by simp),if_neg (by simp [HK9.out])]
       subst hr;go_wp2_with fail;refine (CR.out _ hb1).mono ?_;rintro e w2 ⟨rfl,hb2⟩;have hb3:=bth hb1 hb2;have hz2:=hz1.below' hb2;have y0:=hz2.cell 0;clear hb2 hz2;go_wp2;go_ret;exact ⟨rfl,hb3⟩
     ·
      have hke:(kind==9)=false:=by simpa using hk9
      have hkn:(kind != 9)=true:=by simpa using hk9
      have HK9:=Hd hk9;clear hk9
      cases bn
      ·
       have hr:res=1:=by rw [<- HR2.out,if_neg (fun h=>HK9.out h.1),if_pos ⟨HK9.out,rfl⟩]
       subst hr;go_wp2_with fail;refine (CN.out _).mono ?_;exact zz65
      ·
       have hr:res=0:=by rw [<- HR2.out,if_neg (fun h=>HK9.out h.1),if_neg (by simp)]
       subst hr;go_wp2_with fail;refine (CN.out _).mono ?_;exact zz65
  ·
   have he1:((args.length:Int) != ar)=true:=by simpa using h1
   have hr:res=1:=by rw [<- HRES.out,if_neg H0.out,if_pos h1]
   subst hr;clear h1;go_enter Tryz.func83,Tryz.ntmps83;go_wp2_with fail;revert hz hb0;generalize w.alloc (.cells #[.int .i64 kind,.slice aa args.length ac,.bool neg,.slice na num.length nc,.slice da den.length dc] 86)=w0;intro hz hb0;obtain ⟨z0,z1,z2,z3,z4⟩:=cq5 hz;refine (CA.out _).mono ?_;rintro e w' ⟨rfl,rfl⟩;go_wp2;go_ret;exact ⟨rfl,hb0⟩
theorem qhw (c:Int) (w:World) (h0:0<=c) (h1:c<=255) :
  Calls Tryz.prog 218 #[.int .u8 c] w fun e w'=>e=.returned (.bool (letB c))/\w=w':=by
 obtain ⟨b,hb⟩:∃ b,letB c=b:=⟨_,rfl⟩
 have hb2:=hb;unfold letB at hb2;rw [hb];have HB:=Hd hb2;clear hb hb2;by_cases h2:65<=c <;> by_cases h3:c<=90 <;> by_cases h4:97<=c <;> by_cases h5:c<=122 <;> first | (exfalso;omega) | skip
 all_goals
  go_enter Tryz.func218,Tryz.ntmps218;go_wp2;go_ret;refine ⟨qbg ?_,rfl⟩;rw [<- HB.out]
  first | (symm;apply decide_eq_true;omega) | (symm;apply decide_eq_false;omega)
theorem qo1 (c:Int) (w:World) (h0:0<=c) (h1:c<=255) :
  Calls Tryz.prog 219 #[.int .u8 c] w fun e w'=>e=.returned (.bool (digB c))/\w=w':=by
 obtain ⟨b,hb⟩:∃ b,digB c=b:=⟨_,rfl⟩
 have hb2:=hb;unfold digB at hb2;rw [hb];have HB:=Hd hb2;clear hb hb2;by_cases h2:48<=c <;> by_cases h3:c<=57 <;> first | (exfalso;omega) | skip
 all_goals
  go_enter Tryz.func219,Tryz.ntmps219;go_wp2;go_ret;refine ⟨qbg ?_,rfl⟩;rw [<- HB.out]
  first | (symm;apply decide_eq_true;omega) | (symm;apply decide_eq_false;omega)
theorem qkw (w:World):Calls Tryz.prog 220 #[] w fun e w'=>e=.returned (.slice (some ⟨w.heap.size,0,none⟩) 29 29)/\w.alloc (.cells (qbd.map Value.string).toArray 9)=w':=by
 go_enter Tryz.func220,Tryz.ntmps220;go_wp2;go_ret;exact ⟨rfl,rfl⟩
theorem qnp (w:World):Calls Tryz.prog 226 #[] w fun e w'=>e=.returned (.slice (some ⟨w.heap.size,0,none⟩) 29 29)/\w.alloc (.cells (qbd.map Value.string).toArray 9)=w':=by
 go_enter Tryz.func226,Tryz.ntmps226;go_wp2;go_ret;exact ⟨rfl,rfl⟩
theorem qlt {s:ByteArray} {k:Nat} {x:ByteArray} (h:qbd[k]? = some x):((qbd.take (k+1)).any fun k=>decide (s=k))=(((qbd.take k).any fun k=>decide (s=k))||decide (s=x)):=by
 rw [qa7 h,List.any_append];simp
theorem qnb {s x:ByteArray} {k:Nat} (h:qbd[k]? = some x) (e:s=x):keyB s=true:=by
 unfold keyB;rw [List.any_eq_true];exact ⟨x,List.mem_of_getElem? h,by simp [e]⟩
theorem qnz (s:ByteArray) (w:World) (hs:s.size<=9223372036854775807) :
  Calls Tryz.prog 152 #[.string s] w fun e w'=>e=.returned (.bool (qbt s))/\Below w.heap.size w w':=by
 obtain ⟨r,hr⟩:∃ r,qbt s=r:=⟨_,rfl⟩
 rw [hr];have HR:=Hd hr;clear hr;by_cases h0:s.size=0
 ·
  have e:=qft.1 h0;subst e;have hr:r=false:=by rw [<- HR.out];exact qg4
  subst hr;clear h0 hs;go_enter Tryz.func152,Tryz.ntmps152;go_wp2;go_ret;exact ⟨rfl,Below.refl _ _⟩
 ·
  have hse:s.toList.isEmpty=false:=by rw [qc9];simp;exact fun e=>h0 (qft.2 e)
  have hse2:s.toList≠[]:=by intro e;rw [e] at hse;cases hse
  have H0:=Hd h0;clear h0;by_cases h20:s.size<=20
  ·
   have hp:0<s.size:=by have:=H0.out;omega
   have CL:=qhw ((s[0]'hp).toNat:Nat) w (by omega) (by have:=(s[0]'hp).toNat_lt;omega);rw [<- qja hp] at CL;obtain ⟨b,hb⟩:∃ b,headB s=b:=⟨_,rfl⟩
   rw [hb] at CL;replace CL:=Hd CL;have HB:=Hd hb;clear hb
   cases b
   ·
    have hr:r=false:=by rw [<- HR.out];simp [qbt,HB.out]
    subst hr;go_enter Tryz.func152,Tryz.ntmps152;go_wp2_with (go_at_call 218;refine CL.out.mono ?_;rintro e w' ⟨rfl,rfl⟩);go_ret;exact ⟨rfl,Below.refl _ _⟩
   ·
    go_enter Tryz.func152,Tryz.ntmps152;go_wp2_with (go_at_call 218;refine CL.out.mono ?_;rintro e w' ⟨rfl,rfl⟩);have hi0:=World.iter_heap w s 0;have hb0:Below w.heap.size w (w.iter s 0):=(Below.refl _ w).alloc (nlr _) _;revert hi0 hb0;generalize w.iter s 0=w0;intro hi0 hb0;clear CL
    go_loopg [3] s.size (fun g _ wr=>∃ pos:Nat,pos+g=s.size/\Itr wr w.heap.size s pos/\Below w.heap.size w wr/\(s.data.toList.take pos).all wordB=true)
    case atStart=>exact ⟨0,by omega,hi0,hb0,rfl⟩
    case round =>
     obtain ⟨pos,hpos,hi,hb,hall⟩:=hrel;clear hi0 hb0;have HA:=Hd hall;have HP:=Hd hpos;have hsz:=hi.lt;clear hall;by_cases hlt:pos<s.size
     ·
      obtain ⟨rr,n,hnx,hn1⟩:=qni (P:=Tryz.prog) wr w.heap.size s pos hi hlt;have CL:=fun W=>qhw ((s[pos]'hlt).toNat:Nat) W (by omega) (by have:=(s[pos]'hlt).toNat_lt;omega)
      have CD:=fun W=>qo1 ((s[pos]'hlt).toNat:Nat) W (by omega) (by have:=(s[pos]'hlt).toNat_lt;omega)
      have hw:wordB (s[pos]'hlt)=(letB ((s[pos]'hlt).toNat:Nat)||digB ((s[pos]'hlt).toNat:Nat)):=rfl;have hasc:wordB (s[pos]'hlt)=true->(s[pos]'hlt).toNat<128:=by
       intro h;simp only [wordB,letB,digB,Bool.or_eq_true,decide_eq_true_eq] at h
       omega
      have hgl:=qip hlt;have hnot:wordB (s[pos]'hlt)=false->qbt s=false:=by
       intro h;have:s.data.toList.all wordB=false:=by
        rw [List.all_eq_false];exact ⟨_,List.mem_of_getElem? hgl,by simp [h]⟩
       simp [qbt,this]
      obtain ⟨bl,hbl⟩:∃ b,letB ((s[pos]'hlt).toNat:Nat)=b:=⟨_,rfl⟩
      obtain ⟨bd,hbd⟩:∃ b,digB ((s[pos]'hlt).toNat:Nat)=b:=⟨_,rfl⟩
      rw [hbl,hbd] at hw;rw [hbl] at CL;rw [hbd] at CD;have HW:=Hd hw;have HN1:=Hd hn1;have HASC:=Hd hasc;have HNOT:=Hd hnot;have HGL:=Hd hgl;replace CL:=Hd CL;replace CD:=Hd CD;have hnb:Below w.heap.size w (qcp wr w.heap.size s (pos+n)):=qnx hb (nlr _) _ _;have hni:Itr (qcp wr w.heap.size s (pos+n)) w.heap.size s (pos+n):=hi.set _;clear hw hn1 hasc hnot hgl hbl hbd hi hb hpos;revert hnb hni hnx;generalize qcp wr w.heap.size s (pos+n)=w2;intro hnx hnb hni
      cases bl
      ·
       cases bd
       ·
        have hr:r=false:=by rw [<- HR.out];exact HNOT.out HW.out
        subst hr;go_wp2_with (first | (go_at_call 218;refine (CL.out _).mono ?_;rintro e w' ⟨rfl,rfl⟩) | (go_at_call 219;refine (CD.out _).mono ?_;rintro e w' ⟨rfl,rfl⟩));go_ret;exact ⟨rfl,hnb⟩
       ·
        go_wp2_with (first | (go_at_call 218;refine (CL.out _).mono ?_;rintro e w' ⟨rfl,rfl⟩) | (go_at_call 219;refine (CD.out _).mono ?_;rintro e w' ⟨rfl,rfl⟩));have e1:=HN1.out (HASC.out HW.out);subst e1;go_roundg (gk-1)
        case rel=>exact ⟨pos+1,by have:=HP.out;omega,hni,hnb,by rw [qa7 HGL.out,List.all_append,HA.out];simp [HW.out]⟩
        case measure=>have:=HP.out;omega
      ·
       go_wp2_with (first | (go_at_call 218;refine (CL.out _).mono ?_;rintro e w' ⟨rfl,rfl⟩) | (go_at_call 219;refine (CD.out _).mono ?_;rintro e w' ⟨rfl,rfl⟩));have hwt:wordB (s[pos]'hlt)=true:=by rw [HW.out];rfl
       have e1:=HN1.out (HASC.out hwt);subst e1;go_roundg (gk-1)
       case rel=>exact ⟨pos+1,by have:=HP.out;omega,hni,hnb,by rw [qa7 HGL.out,List.all_append,HA.out];simp [hwt]⟩
       case measure=>have:=HP.out;omega
     ·
      obtain ⟨wo,rfl⟩:∃ wo:World,wo=wr:=⟨_,rfl⟩
      have hnx:=fun ty=>ql6 (P:=Tryz.prog) wo w.heap.size s pos ty hi hlt
      have hall:s.data.toList.all wordB=true:=by
       have:=HA.out
       rwa [List.take_of_length_le (by simp;omega)] at this
      have HALL:=Hd hall;have HK:r = !keyB s:=by rw [<- HR.out];simp [qbt,HB.out,hall,h20]
      replace HK:=Hd HK;have hk0:=Blk.new wo 9 (qbd.map Value.string).toArray;have hkb:Below w.heap.size w (wo.alloc (.cells (qbd.map Value.string).toArray 9)):=hb.alloc hb.size _;have CK:=qkw wo;replace CK:=Hd CK;clear hall hi hpos HA;go_wp2_with (go_at_call 220;refine CK.out.mono ?_;rintro e w' ⟨rfl,rfl⟩);revert hk0 hkb;generalize wo.alloc (.cells (qbd.map Value.string).toArray 9)=w3;intro hk0 hkb;clear CK
      go_loopg [5,38] 29 (fun g _ i wv=>∃ k:Nat,k+g=29/\i=.int .i64 k/\Blk wv wo.heap.size 9 (qbd.map Value.string).toArray/\Below w.heap.size w wv/\((qbd.take k).any fun k=>decide (s=k))=false)
      case atStart=>exact ⟨0,by omega,rfl,hk0,hkb,rfl⟩
      case round =>
       obtain ⟨k,hkg,rfl,hk,hbv,hno⟩:=hrel;have HNO:=Hd hno;have HKG:=Hd hkg;have HKB:=Hd hk;have hsz3:=hk.lt;clear hk0 hkb hno hkg hk;by_cases hlt2:k<29
       ·
        obtain ⟨x,hx⟩:=qac (xs:=qbd) (k:=k) (by rw [qd8];exact hlt2);have hc:wr.cell? ⟨wo.heap.size,k,none⟩=some (.string x):=by rw [HKB.out.cell];simp [hx]
        have HX:=Hd hx;clear hx;by_cases he:s=x
        ·
         have hbe:(s.toList==x.toList)=true:=by rw [qef];simpa using he
         have HE:=Hd he;clear he;go_wp2;go_ret;exact ⟨qbg (by rw [HK.out,qnb HX.out HE.out];rfl),hbv⟩
        ·
         have hbe:(s.toList==x.toList)=false:=by rw [qef];simpa using he
         have HE:=Hd he;clear he;go_wp2;go_roundg (gk-1)
         case rel=>exact ⟨k+1,by have:=HKG.out;omega,by go_num,HKB.out,hbv,by rw [qlt HX.out,HNO.out];simp [HE.out]⟩
         case measure=>have:=HKG.out;omega
       ·
        go_wp2;go_ret;refine ⟨qbg ?_,hbv⟩;have:=HNO.out;rw [List.take_of_length_le (by rw [qd8];omega)] at this;rw [HK.out,keyB,this];rfl
  ·
   have hr:r=false:=by rw [<- HR.out];simp [qbt];omega
   subst hr;go_enter Tryz.func152,Tryz.ntmps152;go_wp2;go_ret;exact ⟨rfl,Below.refl _ _⟩
def kindB (c:Int):Int:=if c=32\/c=9\/c=13\/c=10 then 1 else if letB c=true then 2 else if digB c=true then 3 else if c=40\/c=41\/c=44\/c=59\/c=47\/c=45 then 4 else if c=58 then 5 else if c=35 then 6 else 0
theorem ql2 (c:Int):(kindB c=2)↔letB c=true:=by
 unfold kindB letB
 constructor
 ·
  intro h
  split at h
  · omega
  split at h
  · assumption
  split at h
  · omega
  split at h
  · omega
  split at h
  · omega
  split at h <;> omega
 ·
  intro h;simp only [decide_eq_true_eq] at h;rw [if_neg (by omega),if_pos (by simpa using h)]
theorem qst (c:Int):(kindB c=3)↔digB c=true:=by
 unfold kindB letB digB
 constructor
 ·
  intro h
  split at h
  · omega
  split at h
  · omega
  split at h
  · assumption
  split at h
  · omega
  split at h
  · omega
  split at h <;> omega
 ·
  intro h;simp only [decide_eq_true_eq] at h;rw [if_neg (by omega),if_neg (by simp only [decide_eq_true_eq];omega),if_pos (by simpa using h)]
theorem qc6 {a b:Int} (h:¬ a=b):(a==b)=false:=by simpa using h
theorem qju (c:Int) (w:World) (h0:0<=c) (h1:c<=255) :
  Calls Tryz.prog 224 #[.int .u8 c] w fun e w'=>e=.returned (.int .i64 (kindB c))/\w=w':=by
 by_cases hlit:c=32\/c=9\/c=13\/c=10\/c=40\/c=41\/c=44\/c=59\/c=47\/c=45\/c=58\/c=35
 ·
  clear h0 h1;rcases hlit with rfl | rfl | rfl | rfl | rfl | rfl | rfl | rfl | rfl | rfl | rfl | rfl
  all_goals
   go_enter Tryz.func224,Tryz.ntmps224;go_wp2;go_ret;exact ⟨qcg (by decide),rfl⟩
 ·
  have e1:=qc6 (a:=c) (b:=32) (by omega);have e2:=qc6 (a:=c) (b:=9) (by omega);have e3:=qc6 (a:=c) (b:=13) (by omega);have e4:=qc6 (a:=c) (b:=10) (by omega);have e5:=qc6 (a:=c) (b:=40) (by omega);have e6:=qc6 (a:=c) (b:=41) (by omega);have e7:=qc6 (a:=c) (b:=44) (by omega);have e8:=qc6 (a:=c) (b:=59) (by omega);have e9:=qc6 (a:=c) (b:=47) (by omega);have e10:=qc6 (a:=c) (b:=45) (by omega);have e11:=qc6 (a:=c) (b:=58) (by omega);have e12:=qc6 (a:=c) (b:=35) (by omega);obtain ⟨r,hr⟩:∃ r,kindB c=r:=⟨_,rfl⟩
  have hr2:=hr;unfold kindB letB digB at hr2;rw [hr];have HR:=Hd hr2;have HLIT:=Hd hlit;clear hr hr2 hlit;have hc:c<48\/(48<=c/\c<=57)\/(58<=c/\c<65)\/(65<=c/\c<=90)\/(91<=c/\c<97)\/(97<=c/\c<=122)\/122<c:=by omega
  rcases hc with hc | ⟨hc,hd⟩ | ⟨hc,hd⟩ | ⟨hc,hd⟩ | ⟨hc,hd⟩ | ⟨hc,hd⟩ | hc
  all_goals
   go_enter Tryz.func224,Tryz.ntmps224;go_wp2;go_ret;refine ⟨qcg ?_,rfl⟩;rw [<- HR.out];have hl:=HLIT.out;simp only [decide_eq_true_eq]
   repeat (first | rw [if_neg (by omega)] | rw [if_pos (by omega)])
def qbq (s:ByteArray) (k:Nat):Nat:=k+((s.data.toList.drop k).takeWhile wordB).length
theorem qo2 {s:ByteArray} {k:Nat} (h:k<s.size) (hw:wordB (s[k]'h)=true):qbq s k=qbq s (k+1):=by
 have hg:=qip h;have hk:k<s.data.toList.length:=by simpa using h
 unfold qbq;rw [List.drop_eq_getElem_cons hk];have e:s.data.toList[k]=s[k]'h:=by rw [List.getElem?_eq_getElem hk] at hg;exact Option.some.inj hg
 rw [e,List.takeWhile_cons,if_pos hw,List.length_cons]
 omega
theorem qqy {s:ByteArray} {k:Nat} (h:k<s.size) (hw:wordB (s[k]'h)=false):qbq s k=k:=by
 have hg:=qip h;have hk:k<s.data.toList.length:=by simpa using h
 unfold qbq;rw [List.drop_eq_getElem_cons hk];have e:s.data.toList[k]=s[k]'h:=by rw [List.getElem?_eq_getElem hk] at hg;exact Option.some.inj hg
 rw [e,List.takeWhile_cons,if_neg (by simp [hw])]
 rfl
theorem qo4 {s:ByteArray} {k:Nat} (h:¬ k<s.size):qbq s k=k:=by
 unfold qbq;rw [List.drop_eq_nil_of_le (by simp;omega)]
 rfl
theorem qoy (s:ByteArray):qbq s 0=s.size↔s.data.toList.all wordB=true:=by
 unfold qbq;have hl:s.data.toList.length=s.size:=by simp
 rw [List.drop_zero,Nat.zero_add,<- hl];generalize s.data.toList=l
 induction l with
 | nil=>simp
 | cons x l ih =>
  rw [List.takeWhile_cons,List.all_cons]
  cases hw:wordB x
  · simp
  · simp [ih]
theorem qrw (s:ByteArray) (k:Nat) (h:k<=s.size):qbq s k<=s.size:=by
 unfold qbq;have:=(List.takeWhile_prefix wordB (l:=s.data.toList.drop k)).length_le;have hl:s.data.toList.length=s.size:=by simp
 rw [List.length_drop,hl] at this
 omega
theorem qpg (s:ByteArray) (k0:Nat) (w:World) (hs:s.size<=9223372036854775806) (hk0:k0<=s.size) :
  Calls Tryz.prog 225 #[.string s,.int .i64 k0,.bool true] w fun e w'=>e=.returned (.int .i64 (qbq s k0:Nat))/\w=w':=by
 obtain ⟨r,hr⟩:∃ r,qbq s k0=r:=⟨_,rfl⟩
 rw [hr];have HR:=Hd hr;clear hr;go_enter Tryz.func225,Tryz.ntmps225;go_wp2
 go_loop [1] (fun q=>∃ k:Nat,k<=s.size/\q=.int .i64 k/\Hid (qbq s k=r)) (fun q=>s.size-(intOf q).toNat)
 case atStart=>exact ⟨k0,hk0,rfl,HR.out⟩
 case round =>
  obtain ⟨k,hk,rfl,hw⟩:=hrel;by_cases hlt:k<s.size
  ·
   have C:=qju ((s[k]'hlt).toNat:Nat) w (by omega) (by have:=(s[k]'hlt).toNat_lt;omega);have h2:=ql2 ((s[k]'hlt).toNat:Nat);have h3:=qst ((s[k]'hlt).toNat:Nat);have hwb:wordB (s[k]'hlt)=(letB ((s[k]'hlt).toNat:Nat)||digB ((s[k]'hlt).toNat:Nat)):=rfl;have hy:=fun h=>qo2 hlt h
   have hn:=fun h=>qqy hlt h
   revert C h2 h3;generalize kindB ((s[k]'hlt).toNat:Nat)=q;intro C h2 h3;replace C:=Hd C;by_cases hq3:q=3
   ·
    have e3:(q==3)=true:=by simpa using hq3
    have hnx:qbq s (k+1)=r:=by rw [<- hy (by rw [hwb,h3.1 hq3];simp)];exact hw.out
    have HNX:=Hd hnx;clear hq3 h2 h3 hwb hy hn hnx;go_wp2_with (go_at_call 224;refine C.out.mono ?_;rintro e w' ⟨rfl,rfl⟩)
    go_round
    case rel=>exact ⟨k+1,by omega,by go_num,HNX.out⟩
    case measure=>simp [intOf];omega
   ·
    have e3:(q==3)=false:=by simpa using hq3
    by_cases hq2:q=2
    ·
     have e2:(q==2)=true:=by simpa using hq2
     have hnx:qbq s (k+1)=r:=by rw [<- hy (by rw [hwb,h2.1 hq2];simp)];exact hw.out
     have HNX:=Hd hnx;clear hq3 hq2 h2 h3 hwb hy hn hnx;go_wp2_with (go_at_call 224;refine C.out.mono ?_;rintro e w' ⟨rfl,rfl⟩)
     go_round
     case rel=>exact ⟨k+1,by omega,by go_num,HNX.out⟩
     case measure=>simp [intOf];omega
    ·
     have e2:(q==2)=false:=by simpa using hq2
     have hfin:k=r:=by
      rw [<- hw.out,hn];rw [hwb];have n2:letB ((s[k]'hlt).toNat:Nat)=false:=by
       cases hb:letB ((s[k]'hlt).toNat:Nat)
       · rfl
       · exact absurd (h2.2 hb) hq2
      have n3:digB ((s[k]'hlt).toNat:Nat)=false:=by
       cases hb:digB ((s[k]'hlt).toNat:Nat)
       · rfl
       · exact absurd (h3.2 hb) hq3
      rw [n2,n3];rfl
     have HF:=Hd hfin;clear hq3 hq2 h2 h3 hwb hy hn hfin;go_wp2_with (go_at_call 224;refine C.out.mono ?_;rintro e w' ⟨rfl,rfl⟩);go_ret;exact ⟨qcg (by have:=HF.out;omega),rfl⟩
  ·
   have hfin:k=r:=by rw [<- hw.out,qo4 hlt]
   have HF:=Hd hfin;clear hfin;go_wp2;go_ret;exact ⟨qcg (by have:=HF.out;omega),rfl⟩
theorem qp9 (s:ByteArray) (w:World) (hs:s.size<=9223372036854775807) :
  Calls Tryz.prog 162 #[.string s] w fun e w'=>e=.returned (.bool (qbt s))/\Below w.heap.size w w':=by
 obtain ⟨r,hr⟩:∃ r,qbt s=r:=⟨_,rfl⟩
 rw [hr];have HR:=Hd hr;clear hr;by_cases h0:s.size=0
 ·
  have e:=qft.1 h0;subst e;have hr:r=false:=by rw [<- HR.out];exact qg4
  subst hr;clear h0 hs;go_enter Tryz.func162,Tryz.ntmps162;go_wp2;go_ret;exact ⟨rfl,Below.refl _ _⟩
 ·
  have hse:s.toList.isEmpty=false:=by rw [qc9];simp;exact fun e=>h0 (qft.2 e)
  have hse2:s.toList≠[]:=by intro e;rw [e] at hse;cases hse
  have H0:=Hd h0;clear h0;by_cases h20:s.size<=20
  ·
   have hp:0<s.size:=by have:=H0.out;omega
   have CK:=qju ((s[0]'hp).toNat:Nat) w (by omega) (by have:=(s[0]'hp).toNat_lt;omega);have h2:=ql2 ((s[0]'hp).toNat:Nat);rw [<- qja hp] at h2;have CE:=qpg s 0 w (by omega) (by omega);have hend:=qoy s;have hle:=qrw s 0 (by omega);revert CK h2 CE hend hle;generalize kindB ((s[0]'hp).toNat:Nat)=q;generalize qbq s 0=en;intro CK h2 CE hend hle;replace CK:=Hd CK;replace CE:=Hd CE;have HEND:=Hd hend;by_cases hq:q=2
   ·
    have eq:(q != 2)=false:=by simpa using hq
    have hb:=h2.1 hq;have HB:=Hd hb;clear h2 hq hb hend;by_cases hlt:en<s.size
    ·
     have hall:s.data.toList.all wordB=false:=by
      cases h:s.data.toList.all wordB
      · rfl
      · have:=HEND.out.2 h;omega
     have hr:r=false:=by rw [<- HR.out];simp [qbt,hall]
     subst hr;clear hall;go_enter Tryz.func162,Tryz.ntmps162;go_wp2_with (first | (go_at_call 224;refine CK.out.mono ?_;rintro e w' ⟨rfl,rfl⟩) | (go_at_call 225;refine CE.out.mono ?_;rintro e w' ⟨rfl,rfl⟩));go_ret;exact ⟨rfl,Below.refl _ _⟩
    ·
     have hall:s.data.toList.all wordB=true:=HEND.out.1 (by omega);have HK:r = !keyB s:=by rw [<- HR.out];simp [qbt,HB.out,hall,h20]
     replace HK:=Hd HK;have CW:=qnp w;replace CW:=Hd CW;have hk0:=Blk.new w 9 (qbd.map Value.string).toArray;have hkb:Below w.heap.size w (w.alloc (.cells (qbd.map Value.string).toArray 9)):=brf.alloc (nlr _) _;clear hall;go_enter Tryz.func162,Tryz.ntmps162;go_wp2_with (first | (go_at_call 224;refine CK.out.mono ?_;rintro e w' ⟨rfl,rfl⟩) | (go_at_call 225;refine CE.out.mono ?_;rintro e w' ⟨rfl,rfl⟩) | (go_at_call 226;refine CW.out.mono ?_;rintro e w' ⟨rfl,rfl⟩));revert hk0 hkb;generalize w.alloc (.cells (qbd.map Value.string).toArray 9)=w3;intro hk0 hkb;clear CK CE CW
     go_loopg [4,27] 29 (fun g _ i wv=>∃ k:Nat,k+g=29/\i=.int .i64 k/\Blk wv w.heap.size 9 (qbd.map Value.string).toArray/\Below w.heap.size w wv/\((qbd.take k).any fun k=>decide (s=k))=false)
     case atStart=>exact ⟨0,by omega,rfl,hk0,hkb,rfl⟩
     case round =>
      obtain ⟨k,hkg,rfl,hk,hbv,hno⟩:=hrel;have HNO:=Hd hno;have HKG:=Hd hkg;have HKB:=Hd hk;have hsz3:=hk.lt;clear hk0 hkb hno hkg hk;by_cases hlt2:k<29
      ·
       obtain ⟨x,hx⟩:=qac (xs:=qbd) (k:=k) (by rw [qd8];exact hlt2);have hc:wr.cell? ⟨w.heap.size,k,none⟩=some (.string x):=by rw [HKB.out.cell];simp [hx]
       have HX:=Hd hx;clear hx;by_cases he:s=x
       ·
        have hbe:(x.toList==s.toList)=true:=by rw [qef];simpa using he.symm
        have HE:=Hd he;clear he;go_wp2;go_ret;exact ⟨qbg (by rw [HK.out,qnb HX.out HE.out];rfl),hbv⟩
       ·
        have hbe:(x.toList==s.toList)=false:=by rw [qef];simpa using fun e=>he e.symm
        have HE:=Hd he;clear he;go_wp2;go_roundg (gk-1)
        case rel=>exact ⟨k+1,by have:=HKG.out;omega,by go_num,HKB.out,hbv,by rw [qlt HX.out,HNO.out];simp [HE.out]⟩
        case measure=>have:=HKG.out;omega
      ·
       go_wp2;go_ret;refine ⟨qbg ?_,hbv⟩;have:=HNO.out;rw [List.take_of_length_le (by rw [qd8];omega)] at this;rw [HK.out,keyB,this];rfl
   ·
    have eq:(q != 2)=true:=by simpa using hq
    have hb:headB s=false:=by
     cases h:headB s
     · rfl
     · exact absurd (h2.2 h) hq
    have hr:r=false:=by rw [<- HR.out];simp [qbt,hb]
    subst hr;clear h2 hq hb hend;go_enter Tryz.func162,Tryz.ntmps162;go_wp2_with (go_at_call 224;refine CK.out.mono ?_;rintro e w' ⟨rfl,rfl⟩);go_ret;exact ⟨rfl,Below.refl _ _⟩
  ·
   have hr:r=false:=by rw [<- HR.out];simp [qbt];omega
   subst hr;go_enter Tryz.func162,Tryz.ntmps162;go_wp2;go_ret;exact ⟨rfl,Below.refl _ _⟩
def idxB {α:Type} (p:α->Bool) (i:Nat):List α->Int
 | []=>-1
 | s :: r=>if p s=true then (i:Int) else idxB p (i+1) r
theorem qp3 {α:Type} {p:α->Bool} {l:List α} {k:Nat} {x:α} (h:l[k]? = some x):idxB p k (l.drop k)=if p x=true then (k:Int) else idxB p (k+1) (l.drop (k+1)):=by
 have hk:=qas h;rw [List.drop_eq_getElem_cons hk];have:l[k]=x:=by rw [List.getElem?_eq_getElem hk] at h;exact Option.some.inj h
 rw [this,idxB]
theorem qix {α:Type} (p:α->Bool):∀ (l:List α) (i:Nat),decide (0<=idxB p i l)=l.any p
 | [],i=>by simp [idxB]
 | x :: r,i=>by
  have ih:=qix p r (i+1);rw [idxB,List.any_cons];by_cases h:p x=true
  · rw [if_pos h,h];simp
  · rw [if_neg h,ih];simp [h]
theorem SlR.taken {α:Type} {sz:Nat} {E:World->Nat->Nat->α->Prop} {w:World} {a:Option Addr} {c:Nat} {l:List α} (h:SlR sz E w a c l) (k:Nat):SlR sz E w a c (l.take k):=by
 refine ⟨by have:=h.1;simp;omega,h.2.1,fun j x hx=>?_⟩;rw [List.getElem?_take] at hx
 split at hx
 · exact h.2.2 j x hx
 · cases hx
theorem qu1 (a:Int) (i g:Nat) (w:World) (hg:w.cell? ⟨g,0,none⟩=some (.int .i64 i)) :
  Calls Tryz.prog 159 #[.int .i64 a,.pointer (some ⟨g,0,none⟩)] w fun r w'=>r=.returned (.bool (qa3 i a))/\w=w':=by
 unfold qa3;by_cases h0:a<0
 ·
  have hr:decide (a<0\/(i:Int)<=a)=true:=by simp [h0]
  rw [hr];clear hr;go_enter Tryz.func159,Tryz.ntmps159;go_wp2;go_ret;exact ⟨rfl,rfl⟩
 ·
  have hr:decide (a<0\/(i:Int)<=a)=decide ((i:Int)<=a):=by simp [h0]
  rw [hr];clear hr;go_enter Tryz.func159,Tryz.ntmps159;go_wp2;go_ret;exact ⟨rfl,rfl⟩
theorem qnr (l:List Int) (i g:Nat) (la:Option Addr) (lc:Nat) (w:World) (h:IntsR w la lc l) (hg:w.cell? ⟨g,0,none⟩=some (.int .i64 i)) :
  Calls Tryz.prog 222 #[.slice la l.length lc,.func (Fn.func 159) #[] #[.pointer (some ⟨g,0,none⟩)]] w fun r w'=>r=.returned (.int .i64 (idxB (qa3 i) 0 l))/\w=w':=by
 have HL:=Hd h;have HG:=Hd hg;have hll:=h.len;obtain ⟨R,hR⟩:∃ q,idxB (qa3 i) 0 l=q:=⟨_,rfl⟩
 rw [hR];have HR:Hid (idxB (qa3 i) 0 (l.drop 0)=R):=Hd hR;clear h hR hg;go_enter Tryz.func222,Tryz.ntmps222;go_wp2;obtain ⟨wo,rfl⟩:∃ wo:World,wo=w:=⟨_,rfl⟩
 go_loopg [5,8] l.length (fun m _ q wr=>∃ k:Nat,k+m=l.length/\q=.int .i64 k/\wo=wr/\idxB (qa3 i) k (l.drop k)=R)
 case atStart=>exact ⟨0,by omega,rfl,rfl,HR.out⟩
 case round =>
  obtain ⟨k,hkg,rfl,rfl,ha⟩:=hrel;have HKG:=Hd hkg;have HA:=Hd ha;clear hkg ha;by_cases hlt:k<l.length
  ·
   obtain ⟨x,hx⟩:=qac hlt;obtain ⟨bx,ox,rfl,hcx⟩:=HL.out.2.2 k x hx;have u0:wo.cell? ⟨bx,ox+k,none⟩=some (.int .i64 x):=by simpa [IntE] using hcx.1
   have hax:=HA.out;rw [qp3 hx] at hax;have CD:=qu1 x i g wo HG.out;obtain ⟨bv,hb⟩:∃ q,qa3 i x=q:=⟨_,rfl⟩
   rw [hb] at CD hax;have HAX:=Hd hax;replace CD:=Hd CD;clear hx hcx hax hb HA;go_wp2_with fail;refine CD.out.mono ?_;rintro r w1 ⟨rfl,rfl⟩;clear CD u0
   cases bv
   ·
    have HAX2:Hid (idxB (qa3 i) (k+1) (l.drop (k+1))=R):=Hd (by simpa using HAX.out);clear HAX;go_wp2;go_roundg (gk-1)
    case rel=>exact ⟨k+1,by have:=HKG.out;omega,by go_num,rfl,HAX2.out⟩
    case measure=>have:=HKG.out;omega
   ·
    have hkR:(k:Int)=R:=by simpa using HAX.out
    subst hkR;clear HAX;go_wp2;go_ret;exact ⟨rfl,rfl⟩
  ·
   have hr:(-1:Int)=R:=by rw [<- HA.out,List.drop_eq_nil_of_le (by omega)];rfl
   subst hr;go_wp2;go_ret;exact ⟨rfl,rfl⟩
theorem qqn (l:List Int) (i g:Nat) (la:Option Addr) (lc:Nat) (w:World) (h:IntsR w la lc l) (hg:w.cell? ⟨g,0,none⟩=some (.int .i64 i)) :
  Calls Tryz.prog 158 #[.slice la l.length lc,.func (Fn.func 159) #[] #[.pointer (some ⟨g,0,none⟩)]] w fun r w'=>r=.returned (.bool (l.any (qa3 i)))/\w=w':=by
 have CI:=qnr l i g la lc w h hg;have hf:=qix (qa3 i) l 0;revert CI hf;generalize idxB (qa3 i) 0 l=q;intro CI hf;rw [<- hf];clear h hf hg;replace CI:=Hd CI;go_enter Tryz.func158,Tryz.ntmps158;go_wp2_with fail;refine CI.out.mono ?_;rintro e w1 ⟨rfl,rfl⟩;go_wp2;go_ret;exact ⟨rfl,rfl⟩
theorem qtd (s:Step) (p:RA) (n:ByteArray) (g:Nat) (w:World) (hg:w.cell? ⟨g,1,none⟩=some (.string n)) :
  Calls Tryz.prog 164 #[s.val p.aa p.ac p.na p.nc p.da p.dc,.pointer (some ⟨g,0,none⟩)] w fun r w'=>r=.returned (.bool (decide (s.point=n)))/\Below w.heap.size w w':=by
 unfold Step.val;have hb0:Below w.heap.size w (w.alloc (.cells #[.int .i64 s.kind,.string s.point,.slice p.aa s.args.length p.ac,.bool s.ratio.neg,.slice p.na s.ratio.num.length p.nc,.slice p.da s.ratio.den.length p.dc] 53)):=brf.alloc (nlr _) _;have hk:=held hg;have hgl:g<w.heap.size:=World.block_lt_of_cell? w _ hg;have hgl2:g<w.heap.size+1:=by omega
 obtain ⟨b,hb⟩:∃ b,(s.point.toList==n.toList)=b:=⟨_,rfl⟩
 have hb2:=qef s.point n;rw [hb] at hb2;rw [<- hb2];clear hb2;go_enter Tryz.func164,Tryz.ntmps164;go_wp2;go_ret;exact ⟨rfl,hb0⟩
theorem qmb (l:List Step) (n:ByteArray) (g:Nat) (la:Option Addr) (lc:Nat) (w:World) (h:qco w la lc l) (hg:w.cell? ⟨g,1,none⟩=some (.string n)) :
  Calls Tryz.prog 227 #[.slice la l.length lc,.func (Fn.func 164) #[] #[.pointer (some ⟨g,0,none⟩)]] w fun r w'=>r=.returned (.int .i64 (idxB (fun t:Step=>decide (t.point=n)) 0 l))/\Below w.heap.size w w':=by
 have HL:=Hd h;have hll:=h.len;obtain ⟨R,hR⟩:∃ q,idxB (fun t:Step=>decide (t.point=n)) 0 l=q:=⟨_,rfl⟩
 rw [hR];have HR:Hid (idxB (fun t:Step=>decide (t.point=n)) 0 (l.drop 0)=R):=Hd hR;have HG:=Hd hg;clear h hR hg;go_enter Tryz.func227,Tryz.ntmps227;go_wp2;obtain ⟨wo,rfl⟩:∃ wo:World,wo=w:=⟨_,rfl⟩
 go_loopg [5,8] l.length (fun m _ q wr=>∃ k:Nat,k+m=l.length/\q=.int .i64 k/\Below wo.heap.size wo wr/\idxB (fun t:Step=>decide (t.point=n)) k (l.drop k)=R)
 case atStart=>exact ⟨0,by omega,rfl,Below.refl _ _,HR.out⟩
 case round =>
  obtain ⟨k,hkg,rfl,hwr,ha⟩:=hrel;have HKG:=Hd hkg;have HA:=Hd ha;clear hkg ha;by_cases hlt:k<l.length
  ·
   obtain ⟨x,hx⟩:=qac hlt;obtain ⟨bx,ox,rfl,p,hC,hP,_,_⟩:=(HL.out.ext (xbw hwr)).2.2 k x hx;obtain ⟨c0,c1,c2,c3,c4,c5⟩:=hC;have hax:=HA.out;rw [qp3 hx] at hax;have CD:=qtd x p n g wr (xbw hwr _ _ HG.out);obtain ⟨b,hb⟩:∃ q,decide (x.point=n)=q:=⟨_,rfl⟩
   rw [hb] at CD hax;unfold Step.val at CD;have HAX:=Hd hax;replace CD:=Hd CD;clear hx hP hax hb HA;go_wp2_with fail;refine CD.out.mono ?_;rintro r w1 ⟨rfl,hb1⟩;have hw1:=bth hwr hb1;clear c0 c1 c2 c3 c4 c5 CD
   cases b
   ·
    have HAX2:Hid (idxB (fun t:Step=>decide (t.point=n)) (k+1) (l.drop (k+1))=R):=Hd (by simpa using HAX.out);clear HAX;go_wp2;go_roundg (gk-1)
    case rel=>exact ⟨k+1,by have:=HKG.out;omega,by go_num,hw1,HAX2.out⟩
    case measure=>have:=HKG.out;omega
   ·
    have hkR:(k:Int)=R:=by simpa using HAX.out
    subst hkR;clear HAX;go_wp2;go_ret;exact ⟨rfl,hw1⟩
  ·
   have hr:(-1:Int)=R:=by rw [<- HA.out,List.drop_eq_nil_of_le (by omega)];rfl
   subst hr;go_wp2;go_ret;exact ⟨rfl,hwr⟩
theorem qph (l:List Step) (n:ByteArray) (g:Nat) (la:Option Addr) (lc:Nat) (w:World) (h:qco w la lc l) (hg:w.cell? ⟨g,1,none⟩=some (.string n)) :
  Calls Tryz.prog 163 #[.slice la l.length lc,.func (Fn.func 164) #[] #[.pointer (some ⟨g,0,none⟩)]] w fun r w'=>r=.returned (.bool (l.any fun t=>decide (t.point=n)))/\Below w.heap.size w w':=by
 have CI:=qmb l n g la lc w h hg;have hf:=qix (fun t:Step=>decide (t.point=n)) l 0;revert CI hf;generalize idxB (fun t:Step=>decide (t.point=n)) 0 l=q;intro CI hf;rw [<- hf];clear h hf hg;replace CI:=Hd CI;go_enter Tryz.func163,Tryz.ntmps163;go_wp2_with fail;refine CI.out.mono ?_;rintro e w1 ⟨rfl,hb1⟩;go_wp2;go_ret;exact ⟨rfl,hb1⟩
theorem qmn (l:List Step) (i:Nat) (s:Step) (a:Option Addr) (c:Nat) (w:World) (h:qco w a c l) (hs:l[i]? = some s) (hq:s.ratio.few) :
  Calls Tryz.prog 77 #[.slice a l.length c,.int .i64 i] w fun e w'=>e=.returned (.int .i64 (qbi l s i))/\Below w.heap.size w w':=by
 have hlen:=h.len;have hi:=qas hs;obtain ⟨b,off,rfl,p,hC,hP,hkind,hpt⟩:=h.2.2 i s hs;obtain ⟨kind,point,args,r⟩:=s;obtain ⟨aa,ac,na,nc,da,dc⟩:=p;obtain ⟨hI,hN,hD⟩:=hP;dsimp only at hI hN hD hq hkind hpt;obtain ⟨c0,c1,c2,c3,c4,c5⟩:=hC;dsimp only at c0 c1 c2 c3 c4 c5;obtain ⟨res,hres⟩:∃ x,qbi l ⟨kind,point,args,r⟩ i=x:=⟨_,rfl⟩
 rw [hres];unfold qbi at hres;dsimp only at hres;have CA:=qo3 kind;have hA:=qjg kind;have CR:=fun W (hW:Below w.heap.size w W)=>qig r na nc da dc W (hN.ext (xbw hW)) (hD.ext (xbw hW)) hq.1 hq.2
 have CN:=fun W=>qqv r na nc da dc W hq.1 hq.2
 have CI:=fun W=>qnz point W hpt
 have hlena:=hI.len;have hIn:∀ a∈args,InInt a:=fun a ha=>by
  obtain ⟨k,hk⟩:=List.mem_iff_getElem?.1 ha;obtain ⟨b,off,_,hc,hw⟩:=hI.2.2 k a hk;exact qed hw
 have HI:=Hd hI;have HIn:=Hd hIn;have HS:=Hd h;revert CA hA hres CR CN CI;generalize qbc kind=ar;generalize r.right=br;generalize r.none=bn;generalize qbt point=bi;intro hres CA hA CR CN CI;replace CA:=Hd CA;replace CR:=Hd CR;replace CN:=Hd CN;replace CI:=Hd CI;have HRES:=Hd hres;obtain ⟨hk1,hk2⟩:=hkind;obtain ⟨neg,num,den⟩:=r;unfold Rt.val at CR CN;dsimp only at CR CN c0 c1 c2 c3 c4 c5 ⊢;have HL:=Hd hs;clear hres hI hN hD hIn hq h hs;have hz:=Blk.new w 53 #[.int .i64 kind,.string point,.slice aa args.length ac,.bool neg,.slice na num.length nc,.slice da den.length dc];have hb0:Below w.heap.size w (w.alloc (.cells #[.int .i64 kind,.string point,.slice aa args.length ac,.bool neg,.slice na num.length nc,.slice da den.length dc] 53)):=brf.alloc (nlr _) _;by_cases h0:ar<0
 ·
  have he:decide (ar<0)=true:=by simpa using h0
  have hr:res=8:=by rw [<- HRES.out,if_pos h0]
  subst hr;clear h0 hz;go_enter Tryz.func77,Tryz.ntmps77;go_wp2_with (go_at_call 150;refine (CA.out _).mono ?_;rintro e w' ⟨rfl,rfl⟩);go_ret;exact ⟨rfl,hb0⟩
 ·
  have he:decide (ar<0)=false:=by simpa using h0
  have H0:=Hd h0;clear h0;by_cases h1:(args.length:Int)=ar
  ·
   have he1:((args.length:Int) != ar)=false:=by simpa using h1
   have H1:=Hd h1;clear h1;go_enter Tryz.func77,Tryz.ntmps77;go_wp2_with fail;revert hz hb0;generalize w.alloc (.cells #[.int .i64 kind,.string point,.slice aa args.length ac,.bool neg,.slice na num.length nc,.slice da den.length dc] 53)=w0;intro hz hb0;obtain ⟨z0,z1,z2,z3,z4,z5⟩:=cq6 hz;refine (CA.out _).mono ?_;rintro e w' ⟨rfl,rfl⟩;go_wp2
   go_quiet ((go_at_call 150;exact Calls.quiet_of_same ((CA.out _).mono fun _ _ h=>⟨h.1,h.2.symm⟩)))
   have hz1:Blk (w0.drewN nq) w.heap.size 53 #[.int .i64 kind,.string point,.slice aa args.length ac,.bool neg,.slice na num.length nc,.slice da den.length dc]:=hz;have hb1:=below_drewN hb0 nq;clear z0 z1 z2 z3 z4 z5 hz hb0 CA c0 c1 c2 c3 c4 c5;revert hz1 hb1;generalize w0.drewN nq=w1;intro hz1 hb1;obtain ⟨z0,z1,z2,z3,z4,z5⟩:=cq6 hz1;go_wp2
   go_loop [7,28] (fun _ q=>∃ k:Nat,k<=args.length/\q=.int .i64 k/\Hid ((args.take k).any (qa3 i)=false)) (fun _ i=>args.length-(intOf i).toNat)
   case atStart=>exact ⟨0,by omega,rfl,rfl⟩
   case round =>
    obtain ⟨k,hk,rfl,hno⟩:=hrel;by_cases hlt:k<args.length
    ·
     obtain ⟨x,hx⟩:=qac hlt;obtain ⟨b2,off2,rfl,hc⟩:=(HI.out.ext (xbw hb1)).2.2 k x hx;have hc1:w1.cell? ⟨b2,off2+k,none⟩=some (.int .i64 x):=by simpa using hc.1
     obtain ⟨hx1,hx2⟩:=HIn.out x (List.mem_of_getElem? hx);have HX:=Hd hx;clear hc hx;by_cases hbad:x<0\/(i:Int)<=x
     ·
      have hr:res=2:=by
       have hany:args.any (qa3 i)=true:=qkh HX.out (by unfold qa3;exact decide_eq_true hbad);rw [<- HRES.out,if_neg (by have:=H0.out;omega),if_neg (by simpa using H1.out),if_pos hany]
      subst hr;by_cases hx0:x<0
      ·
       clear hbad;go_wp2;go_ret;exact ⟨rfl,hb1⟩
      ·
       have hge:(i:Int)<=x:=by omega
       clear hbad;go_wp2;go_ret;exact ⟨rfl,hb1⟩
     ·
      have hx0:0<=x:=by omega
      have hxn:x<(i:Int):=by omega
      have hbf:qa3 i x=false:=by unfold qa3;exact decide_eq_false hbad
      have HBF:=Hd hbf;clear hbad hbf;go_wp2
      go_round
      case rel=>exact ⟨k+1,by omega,by go_num,by show _=_;rw [qgn HX.out,hno.out,HBF.out];rfl⟩
      case measure=>simp [intOf];omega
    ·
     have hany:args.any (qa3 i)=false:=by
      have:=hno.out
      rwa [qfb hlt] at this
     have HR2:=HRES.out;rw [if_neg (by have:=H0.out;omega),if_neg (by simpa using H1.out),if_neg (by rw [hany];simp)] at HR2;replace HR2:=Hd HR2;clear hany HRES;by_cases hb2:kind=2/\br=false
     ·
      obtain ⟨hk2,rfl⟩:=hb2;have hr:res=1:=by rw [<- HR2.out,if_pos ⟨hk2,rfl⟩]
      subst hr;have hke:(kind==2)=true:=by simpa using hk2
      have hkn:(kind != 2)=false:=by simpa using hk2
      clear hk2;go_wp2_with fail;refine (CR.out _ hb1).mono ?_;rintro e w2 ⟨rfl,hb2⟩;have hb3:=bth hb1 hb2;go_wp2;go_ret;exact ⟨rfl,hb3⟩
     ·
      by_cases hb2':kind≠2/\bn=false
      ·
       have hr:res=1:=by rw [<- HR2.out,if_neg hb2,if_pos hb2']
       subst hr;obtain ⟨hk2,rfl⟩:=hb2';have hke:(kind==2)=false:=by simpa using hk2
       have hkn:(kind != 2)=true:=by simpa using hk2
       clear hk2 hb2;go_wp2_with fail;refine (CN.out _).mono ?_;rintro e w2 ⟨rfl,hb2⟩;have hb3:=bth hb1 hb2;go_wp2;go_ret;exact ⟨rfl,hb3⟩
      ·
       have hgood:(kind=2/\br=true)\/(kind≠2/\bn=true):=by
        by_cases hk2:kind=2
        ·
         left;refine ⟨hk2,?_⟩;cases br
         · exact absurd ⟨hk2,rfl⟩ hb2
         · rfl
        ·
         right;refine ⟨hk2,?_⟩;cases bn
         · exact absurd ⟨hk2,rfl⟩ hb2'
         · rfl
       have HR3:=HR2.out;rw [if_neg hb2,if_neg hb2'] at HR3;replace HR3:=Hd HR3;clear hb2 hb2' HR2;rcases hgood with ⟨hk2,rfl⟩ | ⟨hk2,rfl⟩
       all_goals
        first
         | have hke:(kind==2)=true:=by simpa using hk2
         | have hke:(kind==2)=false:=by simpa using hk2
        first
         | have hkn:(kind != 2)=false:=by simpa using hk2
         | have hkn:(kind != 2)=true:=by simpa using hk2
        clear hk2;go_wp2_with fail
        first
         | refine (CR.out _ hb1).mono ?_
         | refine (CN.out _).mono ?_
        rintro e w2 ⟨rfl,hb2⟩;have hz2:=hz1.below' hb2;have hw2:=bth hb1 hb2;clear hb2 z0 z1 z2 z3 z4 z5 hz1 hb1 CR CN HI HIn;obtain ⟨z0,z1,z2,z3,z4,z5⟩:=cq6 hz2;by_cases hpe:point=⟨#[]⟩
        ·
         have hr:res=0:=by rw [<- HR3.out,if_pos hpe]
         subst hr;subst hpe;go_wp2;go_ret;exact ⟨rfl,hw2⟩
        ·
         have hse:point.toList.isEmpty=false:=by rw [qc9];simpa using hpe
         have HPE:=Hd hpe;have HR4:=HR3.out;rw [if_neg hpe] at HR4;replace HR4:=Hd HR4;clear hpe HR3
         cases bi
         ·
          have hr:res=6:=by rw [<- HR4.out,if_pos rfl]
          subst hr;go_wp2_with fail;refine (CI.out _).mono ?_;rintro e w3 ⟨rfl,hb3⟩;have hw3:=bth hw2 hb3;go_wp2;go_ret;exact ⟨rfl,hw3⟩
         ·
          have HR5:=HR4.out;rw [if_neg (by simp)] at HR5;replace HR5:=Hd HR5;clear HR4;go_wp2_with fail;refine (CI.out _).mono ?_;rintro e w3 ⟨rfl,hb3⟩;have hw3:=bth hw2 hb3;have hz3:=hz2.below' hb3;clear hb3 z0 z1 z2 z3 z4 z5 hz2 hw2 CI;have hcap:=HS.out.1;have hcm:=HS.out.2.1;unfold maxLen at hcm;go_wp2
          go_loopg [9,71] i (fun g _ q wr=>∃ k:Nat,k+g=i/\q=.int .i64 k/\Below w.heap.size w wr/\Blk wr w.heap.size 53 #[.int .i64 kind,.string point,.slice aa args.length ac,.bool neg,.slice na num.length nc,.slice da den.length dc] /\
           (l.take k).any (fun t=>decide (t.point=point))=false)
          case atStart=>exact ⟨0,by omega,rfl,hw3,hz3,rfl⟩
          case round =>
           obtain ⟨k2,hkg,rfl,hwr,hzr,hno2⟩:=hrel;have HKG:=Hd hkg;have HNO:=Hd hno2;have HZR:=Hd hzr;have z1:=hzr.cell 1;have hzl:=hzr.lt;clear hw3 hz3 hno hno2 hkg hzr;by_cases hlt2:k2<i
           ·
            obtain ⟨t,ht⟩:=qac (xs:=l) (k:=k2) (by omega);obtain ⟨b3,off3,hbo,pt,hCt,hPt,_,_⟩:=(HS.out.ext (xbw hwr)).2.2 k2 t ht;injection hbo with hbo
            injection hbo with hbo1 hbo2
            subst hbo1 hbo2;obtain ⟨t0,t1,t2,t3,t4,t5⟩:=hCt;have HT:=Hd ht;clear ht hPt;by_cases he:t.point=point
            ·
             have hr:res=7:=by
              have hany:(l.take i).any (fun t=>decide (t.point=point))=true:=by
               rw [List.any_eq_true];refine ⟨t,?_,by simpa using he⟩;apply List.mem_of_getElem? (i:=k2);rw [List.getElem?_take,if_pos hlt2];exact HT.out
              have:=HR5.out;rw [if_pos hany] at this;exact this.symm
             subst hr;have hbe:(t.point.toList==point.toList)=true:=by rw [qef];simpa using he
             clear he;have hw4:=hwr.alloc hwr.size (.cells #[.int .i64 t.kind,.string t.point,.slice pt.aa t.args.length pt.ac,.bool t.ratio.neg,.slice pt.na t.ratio.num.length pt.nc,.slice pt.da t.ratio.den.length pt.dc] 53);go_wp2;go_ret;exact ⟨rfl,hw4⟩
            ·
             have hbe:(t.point.toList==point.toList)=false:=by rw [qef];simpa using he
             have HE:=Hd he;clear he;have hw4:=hwr.alloc hwr.size (.cells #[.int .i64 t.kind,.string t.point,.slice pt.aa t.args.length pt.ac,.bool t.ratio.neg,.slice pt.na t.ratio.num.length pt.nc,.slice pt.da t.ratio.den.length pt.dc] 53);go_wp2;go_roundg (gk-1)
             case rel=>exact ⟨k2+1,by have:=HKG.out;omega,by go_num,hw4,HZR.out.alloc _,by rw [qgn HT.out,HNO.out];simp [HE.out]⟩
             case measure=>have:=HKG.out;omega
           ·
            have hr:res=0:=by
             have hany:(l.take i).any (fun t=>decide (t.point=point))=false:=by
              have:=HNO.out
              rwa [show k2=i by have:=HKG.out;omega] at this
             have:=HR5.out;rw [if_neg (by rw [hany];simp)] at this;exact this.symm
            subst hr;go_wp2;go_ret;exact ⟨rfl,hwr⟩
  ·
   have he1:((args.length:Int) != ar)=true:=by simpa using h1
   have hr:res=1:=by rw [<- HRES.out,if_neg (by have:=H0.out;omega),if_pos h1]
   subst hr;clear h1;go_enter Tryz.func77,Tryz.ntmps77;go_wp2_with fail;revert hz hb0;generalize w.alloc (.cells #[.int .i64 kind,.string point,.slice aa args.length ac,.bool neg,.slice na num.length nc,.slice da den.length dc] 53)=w0;intro hz hb0;obtain ⟨z0,z1,z2,z3,z4,z5⟩:=cq6 hz;refine (CA.out _).mono ?_;rintro e w' ⟨rfl,rfl⟩;go_wp2
   go_quiet ((go_at_call 150;exact Calls.quiet_of_same ((CA.out _).mono fun _ _ h=>⟨h.1,h.2.symm⟩)))
   go_wp2;go_ret;exact ⟨rfl,below_drewN hb0 _⟩
end Go.Proofs.YtfaalkneigpcnaaGreatDoor
