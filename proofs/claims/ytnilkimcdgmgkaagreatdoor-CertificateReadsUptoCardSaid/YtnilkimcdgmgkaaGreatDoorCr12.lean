/- Names of variables: plain, and the walks of both sides. -/
import Derived.Test.YtnilkimcdgmgkaaGreatDoorProg
import Derived.Ground.NamesProg
import Derived.Test.YtnilkimcdgmgkaaGreatDoorCr1
import Derived.Shelf.Lays
import Derived.Shelf.Strings.BuilderK
import Derived.Test.YtnilkimcdgmgkaaGreatDoorCr11
import Derived.Test.YtnilkimcdgmgkaaGreatDoorCr2
import Derived.Test.YtnilkimcdgmgkaaGreatDoorCr7
import Derived.Test.YtnilkimcdgmgkaaGreatDoorCr3
import Derived.Test.YtnilkimcdgmgkaaGreatDoorCr8
import Derived.Test.YtnilkimcdgmgkaaGreatDoorCr4
import Derived.Test.YtnilkimcdgmgkaaGreatDoorCr9
import Derived.Shelf.Strings.OnBuilder
import Derived.Laws.RangeString
import Derived.Laws.RangeAny
set_option linter.all false
set_option maxRecDepth 100000
set_option maxHeartbeats 4000000
namespace Go.Proofs
open Go.Shelf
def Tryz.lays166_ren:Go.Shelf.Ren:=⟨fun | 166=>53 | 240=>106 | 276=>158 | n=>n,fun | 0=>0 | 3=>3 | 4=>4 | 5=>5 | 9=>9 | 20=>20 | 37=>100 | 70=>99 | 72=>102 | 75=>63 | 80=>104 | 164=>187 | n=>n,fun n=>n⟩
theorem Tryz.lays166:Lays.n166 Tryz.prog Tryz.lays166_ren where
 mixed:=by kernel_rfl
 f166:=Tryz.func53.trans (congrArg some (by kernel_rfl))
 f240:=Tryz.func106.trans (congrArg some (by kernel_rfl))
 f276:=Tryz.func158.trans (congrArg some (by kernel_rfl))
 t0:=Tryz.underlying0
 a0:=Tryz.isAgg0
 z0:=Tryz.sizeOf0
 v0:=Tryz.zeroValue0
 t3:=Tryz.underlying3
 a3:=Tryz.isAgg3
 z3:=Tryz.sizeOf3
 v3:=Tryz.zeroValue3
 t4:=Tryz.underlying4
 a4:=Tryz.isAgg4
 z4:=Tryz.sizeOf4
 v4:=Tryz.zeroValue4
 t9:=Tryz.underlying9
 a9:=Tryz.isAgg9
 z9:=Tryz.sizeOf9
 v9:=Tryz.zeroValue9
 t20:=Tryz.underlying20
 a20:=Tryz.isAgg20
 z20:=Tryz.sizeOf20
 v20:=Tryz.zeroValue20
 t37:=Tryz.underlying100
 a37:=Tryz.isAgg100
 z37:=Tryz.sizeOf100
 v37:=Tryz.zeroValue100
 t70:=Tryz.underlying99
 a70:=Tryz.isAgg99
 z70:=Tryz.sizeOf99
 v70:=Tryz.zeroValue99
 t72:=Tryz.underlying102
 a72:=Tryz.isAgg102
 z72:=Tryz.sizeOf102
 v72:=Tryz.zeroValue102
 t75:=Tryz.underlying63
 a75:=Tryz.isAgg63
 z75:=Tryz.sizeOf63
 v75:=Tryz.zeroValue63
 t164:=Tryz.underlying187
 a164:=Tryz.isAgg187
 z164:=Tryz.sizeOf187
 v164:=Tryz.zeroValue187
def Tryz.lays169_ren : Go.Shelf.Ren := ⟨fun | 169 => 55 | n => n, fun | 70 => 99 | 9 => 9 | 0 => 0 | 72 => 102 | 37 => 100 | 127 => 148 | 3 => 3 | 5 => 5 | n => n, fun | n => n⟩
theorem Tryz.lays169 : Go.Proofs.Lays.n169 Tryz.prog Tryz.lays169_ren := {
  mixed := by kernel_rfl
  f169 := Tryz.func55.trans (congrArg some (by kernel_rfl))
  t0 := Tryz.underlying0
  a0 := Tryz.isAgg0
  z0 := Tryz.sizeOf0
  v0 := Tryz.zeroValue0
  t3 := Tryz.underlying3
  a3 := Tryz.isAgg3
  z3 := Tryz.sizeOf3
  v3 := Tryz.zeroValue3
  t9 := Tryz.underlying9
  a9 := Tryz.isAgg9
  z9 := Tryz.sizeOf9
  v9 := Tryz.zeroValue9
  t37 := Tryz.underlying100
  a37 := Tryz.isAgg100
  z37 := Tryz.sizeOf100
  v37 := Tryz.zeroValue100
  t70 := Tryz.underlying99
  a70 := Tryz.isAgg99
  z70 := Tryz.sizeOf99
  v70 := Tryz.zeroValue99
  t72 := Tryz.underlying102
  a72 := Tryz.isAgg102
  z72 := Tryz.sizeOf102
  v72 := Tryz.zeroValue102
  t127 := Tryz.underlying148
  a127 := Tryz.isAgg148
  z127 := Tryz.sizeOf148
  v127 := Tryz.zeroValue148 }
theorem Tryz.Extra166:Builder.Extra Tryz.prog Tryz.lays166_ren where
 sizeBuilder:=by kernel_rfl
 liesBuilder:=by kernel_rfl
 t5:=Tryz.underlying5
 a5:=Tryz.isAgg5
 z5:=Tryz.sizeOf5
 v5:=Tryz.zeroValue5
 infoByte:=by kernel_rfl
 cellsByte:=by kernel_rfl
 sizeByte:=by kernel_rfl
 neB5:=by decide
theorem Tryz.Extra169:Builder.Extra Tryz.prog Tryz.lays169_ren where
 sizeBuilder:=by kernel_rfl
 liesBuilder:=by kernel_rfl
 t5:=Tryz.underlying5
 a5:=Tryz.isAgg5
 z5:=Tryz.sizeOf5
 v5:=Tryz.zeroValue5
 infoByte:=by kernel_rfl
 cellsByte:=by kernel_rfl
 sizeByte:=by kernel_rfl
 neB5:=by decide
def Tryz.lays167_ren:Go.Shelf.Ren:=⟨fun | 167=>201 | 240=>106 | 276=>158 | n=>n,fun | 0=>0 | 4=>4 | 5=>5 | 9=>9 | 20=>20 | 37=>100 | 70=>99 | 72=>102 | 75=>63 | 80=>104 | 164=>187 | n=>n,fun n=>n⟩
theorem Tryz.lays167:Lays.n167 Tryz.prog Tryz.lays167_ren where
 mixed:=by kernel_rfl
 f167:=Tryz.func201.trans (congrArg some (by kernel_rfl))
 f240:=Tryz.func106.trans (congrArg some (by kernel_rfl))
 f276:=Tryz.func158.trans (congrArg some (by kernel_rfl))
 t0:=Tryz.underlying0
 a0:=Tryz.isAgg0
 z0:=Tryz.sizeOf0
 v0:=Tryz.zeroValue0
 t4:=Tryz.underlying4
 a4:=Tryz.isAgg4
 z4:=Tryz.sizeOf4
 v4:=Tryz.zeroValue4
 t5:=Tryz.underlying5
 a5:=Tryz.isAgg5
 z5:=Tryz.sizeOf5
 v5:=Tryz.zeroValue5
 t9:=Tryz.underlying9
 a9:=Tryz.isAgg9
 z9:=Tryz.sizeOf9
 v9:=Tryz.zeroValue9
 t20:=Tryz.underlying20
 a20:=Tryz.isAgg20
 z20:=Tryz.sizeOf20
 v20:=Tryz.zeroValue20
 t37:=Tryz.underlying100
 a37:=Tryz.isAgg100
 z37:=Tryz.sizeOf100
 v37:=Tryz.zeroValue100
 t70:=Tryz.underlying99
 a70:=Tryz.isAgg99
 z70:=Tryz.sizeOf99
 v70:=Tryz.zeroValue99
 t72:=Tryz.underlying102
 a72:=Tryz.isAgg102
 z72:=Tryz.sizeOf102
 v72:=Tryz.zeroValue102
 t75:=Tryz.underlying63
 a75:=Tryz.isAgg63
 z75:=Tryz.sizeOf63
 v75:=Tryz.zeroValue63
 t164:=Tryz.underlying187
 a164:=Tryz.isAgg187
 z164:=Tryz.sizeOf187
 v164:=Tryz.zeroValue187
def Tryz.lays170_ren:Go.Shelf.Ren:=⟨fun | 170=>200 | n=>n,fun | 0=>0 | 3=>3 | 5=>5 | 37=>100 | 70=>99 | 72=>102 | n=>n,fun n=>n⟩
theorem Tryz.lays170:Lays.n170 Tryz.prog Tryz.lays170_ren where
 mixed:=by kernel_rfl
 f170:=Tryz.func200.trans (congrArg some (by kernel_rfl))
 t0:=Tryz.underlying0
 a0:=Tryz.isAgg0
 z0:=Tryz.sizeOf0
 v0:=Tryz.zeroValue0
 t3:=Tryz.underlying3
 a3:=Tryz.isAgg3
 z3:=Tryz.sizeOf3
 v3:=Tryz.zeroValue3
 t37:=Tryz.underlying100
 a37:=Tryz.isAgg100
 z37:=Tryz.sizeOf100
 v37:=Tryz.zeroValue100
 t70:=Tryz.underlying99
 a70:=Tryz.isAgg99
 z70:=Tryz.sizeOf99
 v70:=Tryz.zeroValue99
 t72:=Tryz.underlying102
 a72:=Tryz.isAgg102
 z72:=Tryz.sizeOf102
 v72:=Tryz.zeroValue102
theorem Tryz.Extra167:Builder.Extra Tryz.prog Tryz.lays167_ren where
 sizeBuilder:=by kernel_rfl
 liesBuilder:=by kernel_rfl
 t5:=Tryz.underlying5
 a5:=Tryz.isAgg5
 z5:=Tryz.sizeOf5
 v5:=Tryz.zeroValue5
 infoByte:=by kernel_rfl
 cellsByte:=by kernel_rfl
 sizeByte:=by kernel_rfl
 neB5:=by decide
end Go.Proofs
namespace Go.Proofs.YtnilkimcdgmgkaaGreatDoor
open Go.RowKit
def Bld (b:Nat) (l:List UInt8) (w:World):Prop:=Lib.IsBuilderF 102 5 b b (Lib.byteCells l) w
theorem Bld.new (w:World):Bld w.heap.size [] (w.alloc (.cells #[.pointer none,.slice none 0 0] 102)):=by
 refine .inl ⟨nlr _,.slice none 0 0,Blk.new w _ _,World.ownsRowF_nil _ _ _ _,by simp [Value.ownBlock]⟩
theorem Bld.lt {b:Nat} {l:List UInt8} {w:World} (h:Bld b l w):b<w.heap.size:=by
 rcases h with h | h <;> exact h.lt
theorem Bld.below {b:Nat} {l:List UInt8} {w w':World} (h:Bld b l w) (hb:Below w.heap.size w w'):Bld b l w':=by
 have key:∀ p,Lib.BuilderAtF 102 5 b b p (Lib.byteCells l) w->Lib.BuilderAtF 102 5 b b p (Lib.byteCells l) w':=by
  rintro p ⟨h1,v,h2,h3,h4⟩;refine ⟨h1,v,(hb.block b (Array.getElem?_eq_some_iff.1 h2).1).trans h2,⟨h3.1,?_⟩,h4⟩;rcases h3.2 with hn | ⟨g,cap,cur,fz,e,hg,hh,rest⟩
  · exact .inl hn
  · exact .inr ⟨g,cap,cur,fz,e,hg,(hb.block g (Array.getElem?_eq_some_iff.1 hh).1).trans hh,rest⟩
 rcases h with h | h
 · exact .inl (key _ h)
 · exact .inr (key _ h)
def Oth (b:Nat) (w w':World):Prop:=Lib.OthersKept 5 (some b) w w'
theorem Oth.blk {b:Nat} {w w':World} (h:Oth b w w') {g:Nat} {t:TypeId} {cs:Array Value} (hz:Blk w g t cs) (hg:g≠b) (ht:t≠5):Blk w' g t cs:=by
 unfold Blk at hz ⊢;exact h g _ hz (by simpa using hg) (fun c fz e=>ht (by injection e))
theorem qhb (b:Nat) (l:List UInt8) (s:ByteArray) (w:World) (h:Bld b l w) (hl:l.length+s.size<=70368744177664) :
  Calls Tryz.prog 53 #[.pointer (some ⟨b,0,none⟩),.string s] w fun e w'=>(∃ v,e=.returned v)/\Bld b (l++s.data.toList) w'/\Below b w w'/\Oth b w w':=by
 refine (Any.Builder_WriteString_k Tryz.lays166 Tryz.Extra166 b b (Lib.byteCells l) s w h (by simp [Lib.byteCells];omega) (Nat.le_of_lt h.lt)).mono ?_;rintro e w' ⟨rfl,h1,h2,h3⟩;refine ⟨⟨_,rfl⟩,.inr ?_,h2,h3⟩;have e2:Lib.byteCells (l++s.data.toList)=Lib.byteCells l++Lib.strCells s:=by simp [Lib.byteCells,Lib.strCells]
 rw [e2];exact h1
theorem ql9 (b:Nat) (l:List UInt8) (w:World) (h:Bld b l w) :
  Calls Tryz.prog 55 #[.pointer (some ⟨b,0,none⟩)] w fun e w'=>e=.returned (.string ⟨l.toArray⟩)/\Below b w w'/\Oth b w w':=by
 refine (Any.Builder_String_any_k Tryz.lays169 Tryz.Extra169 b b l w h (Nat.le_of_lt h.lt)).mono ?_;rintro e w' ⟨rfl,_,h2,h3⟩;exact ⟨rfl,h2,h3⟩
theorem byteC (c:UInt8):Lib.byteCells [c]=[.int .u8 (c.toNat:Int)]:=by simp [Lib.byteCells]
theorem qpi (b:Nat) (l:List UInt8) (c:UInt8) (w:World) (h:Bld b l w) (hl:l.length+1<=70368744177664) :
  Calls Tryz.prog 201 #[.pointer (some ⟨b,0,none⟩),.int .u8 (c.toNat:Int)] w fun e w'=>e=.returned .nilIface/\Bld b (l++[c]) w'/\Below b w w'/\Oth b w w':=by
 refine (Any.Builder_WriteByte_k Tryz.lays167 Tryz.Extra167 b b (Lib.byteCells l) (c.toNat:Int) w h (by simp [Lib.byteCells];omega) (Nat.le_of_lt h.lt)).mono ?_;rintro e w' ⟨rfl,h1,h2,h3⟩;refine ⟨rfl,.inr ?_,h2,h3⟩;have e2:Lib.byteCells (l++[c])=Lib.byteCells l++[.int .u8 (c.toNat:Int)]:=by rw [<- byteC];simp [Lib.byteCells]
 rw [e2];exact h1
theorem qt1 (b:Nat) (l:List UInt8) (w:World) (h:Bld b l w) :
  Calls Tryz.prog 200 #[.pointer (some ⟨b,0,none⟩)] w fun e w'=>e=.returned (.int .i64 l.length)/\w'=w:=by
 refine (Any.Builder_Len_f Tryz.lays170 b b (Lib.byteCells l) w h).mono ?_;rintro e w' ⟨rfl,rfl⟩;exact ⟨by simp [Lib.byteCells],rfl⟩
end Go.Proofs.YtnilkimcdgmgkaaGreatDoor
namespace Go.Proofs.YtnilkimcdgmgkaaGreatDoor
open Go.RowKit
theorem qzg (n j:Nat):U16 (grpN n j):=fun x hx=>by
 unfold grpN at hx;obtain ⟨i,_,rfl⟩:=List.mem_map.1 hx
 omega
theorem zz29 {P:Prop} (h:P:=by
 clear h1;go_wp2_with fail;refine CL.out.mono ?_;rintro e w3 ⟨rfl,rfl⟩;go_wp2_with fail;refine CW.out.mono ?_;rintro e w4 ⟨rfl,hB4,hb4,_⟩;have hw4:=hw3.trans hb4;clear CW CL hB3 hcell;go_wp2;go_roundg t
 case rel=>exact ⟨L3++[(48+s).toUInt8],by rw [hE.out],by omega,hB4,by show _=_;rw [<- e3.out,hy.out],hw4⟩
 case measure=>omega
 ):P:=h
theorem qnz (l:List Int) (n:Nat) (a:Option Addr) (c:Nat) (w:World) (h:NatR w a c l) (hn:val l=n) (hl:l.length<=1000000) :
  Calls Tryz.prog 161 #[.slice a l.length c] w fun e w'=>e=.returned (.string (ofL (textN n)))/\Below w.heap.size w w':=by
 have C1:=qdc l a c w h (by omega);rw [hn] at C1;have hln:(limbs n).length<=1000000:=by have:=qaf h.u16;rw [hn] at this;omega
 have hlt:∀ j,n / 10000 ^ j≠0->j<2*1000000:=fun j hj=>ltl (qur n _ j (qa0 n) hj) (Nat.mul_le_mul_left 2 hln)
 have HFEW:=Hd hlt;have HLEN:=Hd (qdk n (by omega));replace C1:=Hd C1;clear h hn hlt;go_enter Tryz.func161,Tryz.ntmps161;go_wp2_with fail;refine C1.out.mono ?_;rintro e w1 ⟨a1,c1,rfl,hV1,hb1⟩;have R1:=Hd hV1;clear hV1 C1;by_cases h0:n=0
 ·
  subst h0;rw [qai];clear HFEW HLEN R1 hln;go_wp2;go_ret;exact ⟨rfl,hb1⟩
 have hp:(((limbs n).length:Int)==0)=false:=by have:=qap.2 (show 0<n by omega);rw [beq_eq_false_iff_ne];omega
 go_wp2
 go_loopg [0,3,4,5,17] n (fun g s0 s3 _ _ _ wr=>∃ (j:Nat) (ax ag:Option Addr) (cx cg:Nat),Hid (g=n / 10000 ^ j)/\Hid (j<=2000000)/\s0=.slice ax (limbs g).length cx/\s3=.slice ag (grpN n j).length cg/\(∀ V,New w.heap.size wr V->NatR V ax cx (limbs g))/\OwnN w.heap.size wr ag cg (grpN n j) /\
  (limbs g).length<=1000000/\Below w.heap.size w wr)
 case atStart=>exact ⟨0,a1,none,c1,0,by show _=_;simp,by show _<=_;omega,rfl,rfl,R1.out,Own.nil,hln,hb1⟩
 case round =>
  obtain ⟨j,ax,ag,cx,cg,hg,hjl,rfl,rfl,hx,hG,hlx,hb'⟩:=hrel;have HX:=Hd hx;have HG:=Hd hG;clear hx hG hb1 R1 hp;by_cases hz:gk=0
  ·
   subst hz;have hz0:decide (0<(limbs 0).length)=false:=by rw [qai];rfl
   rw [qpq];clear HX;obtain ⟨wo,rfl⟩:∃ wo:World,wo=wr:=⟨_,rfl⟩
   have HR:=Hd (fun W (hW:Below wo.heap.size wo W)=>(HG.out.reads1 (qzg n j)).ext (xbw hW));have hz1:=hg.out;replace hz1:=Hd hz1.symm;have hjm:=hjl.out;clear HG hlx hg hjl;go_wp2;have hB0:=Bld.new wo;have hw0:Below wo.heap.size wo (wo.alloc (.cells #[.pointer none,.slice none 0 0] 102)):=brf.alloc (nlr _) _;revert hB0 hw0;generalize wo.alloc (.cells #[.pointer none,.slice none 0 0] 102)=wb;intro hB0 hw0
   go_loopg [7,8] j (fun g s7 _ w2=>∃ (L:List UInt8),s7=.int .i64 ((g:Int)-1)/\g<=j/\Bld wo.heap.size L w2/\Hid (L=digs (n / 10000 ^ g))/\Below wo.heap.size wo w2)
   case atStart=>exact ⟨[],rfl,nlr _,hB0,by show _=_;rw [hz1.out,qcq],hw0⟩
   case round =>
    clear hB0 hw0;obtain ⟨w2,rfl⟩:∃ w2:World,w2=wr:=⟨_,rfl⟩
    obtain ⟨L,rfl,hgj,hB,hL,hw⟩:=hrel;by_cases g0:gk=0
    ·
     subst g0;have hLn:textN n=L:=by rw [hL.out];unfold textN;rw [if_neg h0];simp
     have CS:=Hd (ql9 _ L w2 hB);clear hL HR hz1;go_wp2_with fail;refine CS.out.mono ?_;rintro e w3 ⟨rfl,hb3,_⟩;go_wp2;go_ret;exact ⟨qe7 (by rw [hLn];rfl),bth hb' (hw.trans hb3)⟩
    ·
     obtain ⟨i,rfl⟩:∃ i,gk=i+1:=⟨gk-1,by omega⟩
     obtain ⟨x,hx⟩:∃ x,n / 10000 ^ i % 10000=x:=⟨_,rfl⟩
     obtain ⟨m,hm⟩:∃ m,n / 10000 ^ (i+1)=m:=⟨_,rfl⟩
     have hx4:x<10000:=by omega
     have hge:=qwj n i;have hat:=qaf8 n j i (by omega);rw [hx] at hge hat;rw [hm] at hge hL;have hmn:m*10000+x<=n:=by rw [hge];exact Nat.div_le_self _ _
     have HLL:=Hd (fun h=>Nat.le_trans (qvn (Nat.le_trans (qah0 m x h) hmn)) (by have:=HLEN.out;unfold textN at this;rwa [if_neg h0] at this));replace hge:=Hd hge;replace hat:=Hd hat;have e1:(((i+1:Nat):Int)-1)=(i:Int):=by omega
     rw [e1];clear hx hm e1 hmn;go_wp2
     go_loopg [8] 4 (fun h s8 w3=>∃ (L3:List UInt8),s8=.int .u16 ((pw10 h:Nat):Int)/\h<=4/\Bld wo.heap.size L3 w3/\Hid (L3=digs (topN m x h))/\Below wo.heap.size wo w3)
     case atStart=>exact ⟨L,rfl,nlr _,hB,by show _=_;rw [quf m x hx4];exact hL.out,hw⟩
     case round =>
      obtain ⟨L3,rfl,hg4,hB3,hL3,hw3⟩:=hrel;clear hB hw hL;by_cases g0:gk=0
      ·
       subst g0;have hLn:=hL3.out;rw [qzd,hge.out] at hLn;have d0:decide (((pw10 0:Nat):Int) > 0)=false:=rfl;replace hLn:=Hd hLn;clear hL3;go_wp2;go_roundg i
       case rel=>exact ⟨L3,rfl,by omega,hB3,hLn,hw3⟩
       case measure=>omega
      ·
       obtain ⟨t,rfl⟩:∃ t,gk=t+1:=⟨gk-1,by omega⟩
       have ht3:t<=3:=by omega
       have hc1:=qxq m x t ht3;have hc2:=qxa m x t ht3;have hc3:=qvr m x t ht3;have hps:=qvp t ht3;have hpd:pw10 (t+1)=10 ^ t:=rfl;have hp0:0<10 ^ t:=Nat.pow_pos (by omega);have hp1:10 ^ t<=1000:=Nat.le_trans (Nat.pow_le_pow_right (by omega) ht3) (by omega);rw [<- hL3.out] at hc1 hc2 hc3;have hl3:L3.length<=10000000:=by rw [hL3.out];exact HLL.out _
       obtain ⟨y,hy⟩:∃ y,topN m x t=y:=⟨_,rfl⟩
       rw [hy] at hc1 hc2 hc3;rw [hpd] at hps ⊢;obtain ⟨D,hD⟩:∃ D,10 ^ t=D:=⟨_,rfl⟩
       rw [hD] at hc1 hc2 hps hp0 hp1 ⊢;obtain ⟨E,hE⟩:∃ E,pw10 t=E:=⟨_,rfl⟩
       rw [hE] at hps;have hdE:(D:Int).tdiv 10=(E:Int):=by rw [<- hps];rfl
       have hDi:(0:Int)<(D:Int):=by omega
       have CL:=Hd (qt1 _ L3 wr hB3);replace hy:=Hd hy;replace hc1:=Hd hc1;replace hc2:=Hd hc2;replace hc3:=Hd hc3;replace hE:=Hd hE;obtain ⟨bg,og,rfl,hcell⟩:=(HR.out wr hw3).cell hat.out;clear hpd hL3 hD;have hs10:x / D % 10<10:=Nat.mod_lt _ (by omega);have hq1:(x:Int).tdiv (D:Int)=((x / D:Nat):Int):=rfl;have hq2:((x / D:Nat):Int).tmod 10=((x / D % 10:Nat):Int):=rfl;obtain ⟨u,hu⟩:∃ u,x / D=u:=⟨_,rfl⟩
       rw [hu] at hq1 hq2 hs10 hc2;obtain ⟨s,hs⟩:∃ s,u % 10=s:=⟨_,rfl⟩
       rw [hs] at hq2 hs10 hc2;have hsi:(s:Int)<10:=by omega
       have CW:=qpi _ L3 (48+s).toUInt8 wr hB3 (by omega);rw [show (((48+s).toUInt8.toNat:Nat):Int)=48+(s:Int) by have e:(48+s).toUInt8.toNat=48+s:=by { simp;omega };rw [e];omega] at CW;replace CW:=Hd CW;have hE16:E<65536:=by rw [<- hps];exact Nat.lt_of_le_of_lt (Nat.div_le_self _ _) (by omega)
       have hwE:IntKind.u16.wrap (E:Int)=(E:Int):=by rw [qbt,Nat.mod_eq_of_lt hE16]
       have hD0:((D:Int)==0)=false:=by simp;omega
       have hu9:u<65536:=by rw [<- hu];exact Nat.lt_of_le_of_lt (Nat.div_le_self _ _) (by omega)
       have hw1:IntKind.u16.wrap (u:Int)=(u:Int):=by rw [qbt,Nat.mod_eq_of_lt hu9]
       have hw2:IntKind.u16.wrap (48+(s:Int))=48+(s:Int):=by
        have:=qbt (48+s);rw [Nat.mod_eq_of_lt (by omega)] at this;simpa using this
       have hw3':(48+(s:Int)) % 256=48+(s:Int):=by omega
       clear hu hs hps hE16 hu9;by_cases hy0:y=0
       ·
        have h1:¬ (0<L3.length\/D<=x):=fun h=>hc1.out.1 h hy0
        have n0:decide (0<L3.length)=false:=decide_eq_false fun h=>h1 (.inl h)
        have n1:decide (D<=x)=false:=decide_eq_false fun h=>h1 (.inr h)
        have e3:=Hd (hc3.out hy0);have hy1:=Hd hy0;clear h1 CW hq1 hq2 hy0;go_wp2_with fail;refine CL.out.mono ?_;rintro e w3 ⟨rfl,rfl⟩;go_wp2;go_roundg t
        case rel=>exact ⟨L3,by rw [hE.out],by omega,hB3,by show _=_;rw [e3.out,hy.out],hw3⟩
        case measure=>omega
       ·
        have h1:0<L3.length\/D<=x:=hc1.out.2 hy0;have e3:=Hd (hc2.out hy0);clear hy0;by_cases hl0:0<L3.length
        ·
         have n0:decide (0<L3.length)=true:=decide_eq_true hl0;exact zz29
        ·
         have n0:decide (0<L3.length)=false:=decide_eq_false hl0;have n1:decide (D<=x)=true:=decide_eq_true (h1.resolve_left hl0);exact zz29
  ·
   have hz1:decide (0<(limbs gk).length)=true:=by have:=qap (n:=gk);simp;omega
   have CB:=qlx (limbs gk) gk 10000 ax cx wr (HX.out wr (New.refl _ _)) (qaa _) (by omega) (by omega) (by omega);have hjj:j<2*1000000:=HFEW.out j (by rw [<- hg.out];exact hz);have hgs:=qym n j;have hgq:gk / 10000=n / 10000 ^ (j+1):=by rw [hg.out,Nat.pow_succ,Nat.div_div_eq_div_mul]
   rw [<- hg.out] at hgs;have hlq:(limbs (gk / 10000)).length<=1000000:=Nat.le_trans (qaj (Nat.div_le_self _ _)) hlx;have hlt:gk / 10000<gk:=by omega
   obtain ⟨q,hq⟩:∃ q,gk / 10000=q:=⟨_,rfl⟩
   obtain ⟨r,hr⟩:∃ r,gk % 10000=r:=⟨_,rfl⟩
   rw [hq] at CB hgq hlq hlt;rw [hr] at CB hgs;replace CB:=Hd CB;replace hgs:=Hd hgs;replace hgq:=Hd hgq;clear hq hr hz;go_wp2_with fail;refine CB.out.mono ?_;rintro e w2 ⟨a2,c2,rfl,hV2,hb2⟩;have HG2:=Hd (HG.out.below hb2);have HV2:=Hd hV2;have hw2:=bth hb' hb2;have HLE:Hid ((grpN n j++[(r:Int)]).length<=16777216):=Hd (by rw [List.length_append,qpq];simp;omega);clear hV2 CB HX hb2;go_wp2_with (at_builtin;go_must (refine qa8 rfl (.tmp 22) (.tmp 24) 71 rfl Tryz.underlying71 infoN rfl (by omega) (by omega) qeb ag cg rfl (HG2.out.alloc _) (r:Int) (qld _) w2.heap.size 1 rfl (qnp (by simp)) (grpN n j++[(r:Int)]) rfl HLE.out (by have:=hw2.size;simp;omega) ?_);intro a3 c3 w3 ho3 hg3 hx3);have hw3:=qav (hw2.alloc hw2.size _) (HG2.out.alloc _) hg3
   have hV3:∀ V,New w.heap.size w3 V->NatR V a2 c2 (limbs q):=fun V hV=>HV2.out V (qdo.fresh (B:=w.heap.size) (hV.but a3) hb'.size (brf.alloc (nlr _) _) hg3 hx3 (fun g e=>(HG.out.lt e).2))
   replace ho3:=Hd ho3;replace hV3:=Hd hV3;replace hw3:=Hd hw3;clear hx3 hg3 HG2 HV2 hw2 HG;go_roundg q
   case rel=>exact ⟨j+1,a2,a3,c2,c3,hgq,by show _<=_;omega,rfl,by rw [hgs.out,List.length_append];rfl,hV3.out,by rw [hgs.out];exact ho3.out,hlq,hw3.out⟩
   case measure=>exact hlt
def textF (t:Bool × Nat × Nat):List UInt8:=if t.2.2=1 then textZ t.1 t.2.1 else textZ t.1 t.2.1++47 :: textN t.2.2
theorem qk3 (neg:Bool) (n d:Nat):((qao neg n d).1&&decide (0<(qao neg n d).2.1))=(qao neg n d).1:=by
 unfold qao
 split
 · rfl
 ·
  dsimp only
  cases neg <;> simp
theorem qi8 (neg:Bool) (n d:Nat):(qao neg n d).2.1<=n/\(qao neg n d).2.2<=d+1:=by
 unfold qao
 split
 · simp
 · exact ⟨Nat.div_le_self _ _,Nat.le_trans (Nat.div_le_self _ _) (by omega)⟩
theorem qh9 (d:Nat):(limbs (d+1)).length<=(limbs d).length+1:=by
 have:=qcm d 1;have h1:(limbs 1).length=1:=by rw [quw];rfl
 rcases Nat.eq_zero_or_pos d with h | h
 · subst h;rw [h1];omega
 · have:=qap.2 h;omega
theorem qjv (neg:Bool) (n:Nat) (h:(limbs n).length<=2000000):(textZ neg n).length<=10000001:=by
 have:=qdk n h;unfold textZ
 split <;> simp <;> omega
theorem qvc (neg:Bool) (l m:List Int) (n d:Nat) (a b:Option Addr) (c d0:Nat) (w:World) (h:NatR w a c l) (h':NatR w b d0 m) (hn:val l=n) (hk:val m=d) (hl:l.length<=1000000) (hm:m.length<=1000000) :
  Calls Tryz.prog 31 #[.agg #[.bool neg,.slice a l.length c,.slice b m.length d0]] w fun e w'=>e=.returned (.string (ofL (textF (qao neg n d))))/\Below w.heap.size w w':=by
 have CN:=fun W (hW:Below w.heap.size w W)=>qcw neg l m n d a b c d0 W (h.ext (xbw hW)) (h'.ext (xbw hW)) hn hk (by omega) (by omega)
 have hz:Blk (w.alloc (.cells #[.bool neg,.slice a l.length c,.slice b m.length d0] 76)) w.heap.size 76 #[.bool neg,.slice a l.length c,.slice b m.length d0]:=Blk.new w _ _;have hb0:Below w.heap.size w (w.alloc (.cells #[.bool neg,.slice a l.length c,.slice b m.length d0] 76)):=brf.alloc (nlr _) _;have hsg:=qk3 neg n d;obtain ⟨hN1,hD1⟩:=qi8 neg n d;have hln:(limbs n).length<=1000000:=by have:=qaf h.u16;rw [hn] at this;omega
 have hld:(limbs d).length<=1000000:=by have:=qaf h'.u16;rw [hk] at this;omega
 obtain ⟨t,ht⟩:∃ t,qao neg n d=t:=⟨_,rfl⟩
 simp only [ht] at CN hsg hN1 hD1 ⊢;obtain ⟨s,N,D⟩:=t;have hlN:(limbs N).length<=1000000:=Nat.le_trans (qaj hN1) hln;have hlD:(limbs D).length<=1000001:=Nat.le_trans (qaj hD1) (Nat.le_trans (qh9 d) (by omega));unfold RetF RetQ at CN;unfold textF;dsimp only at CN hsg ⊢;replace CN:=Hd CN;clear h h' hn hk ht hN1 hD1;go_enter Tryz.func31,Tryz.ntmps31;go_wp2_with fail;revert hz hb0;generalize w.alloc (.cells #[.bool neg,.slice a l.length c,.slice b m.length d0] 76)=w0;intro hz hb0;refine (CN.out _ hb0).mono ?_;rintro e w1 ⟨a1,c1,a2,c2,rfl,hV1,hV2,hb1⟩;have hw1:=bth hb0 hb1;have hz1:=hz.below' hb1;have hlt:=hz.lt;have HV1:=Hd hV1;have HV2:=Hd hV2;have hs0:=hb0.size;obtain ⟨z0,z1,z2⟩:=cq3 hz1;obtain ⟨f0,f1,f2⟩:=fq3 hz1;clear hV1 hV2;have R1:=fun x y z=>HV1.out (((w1.setCell ⟨w.heap.size,0,none⟩ x).setCell ⟨w.heap.size,1,none⟩ y).setCell ⟨w.heap.size,2,none⟩ z) (back3 (New.refl _ _) hs0 hlt)
 have R2:=fun x y z=>HV2.out (((w1.setCell ⟨w.heap.size,0,none⟩ x).setCell ⟨w.heap.size,1,none⟩ y).setCell ⟨w.heap.size,2,none⟩ z) (back3 (New.refl _ _) hs0 hlt)
 replace R1:=Hd R1;replace R2:=Hd R2;have HF:=fun x y z=>blk3 (x:=x) (y:=y) (z:=z) hz1
 have HB:=fun x y z=>qbw (x:=x) (y:=y) (z:=z) hw1 (nlr w.heap.size)
 replace HF:=Hd HF;replace HB:=Hd HB;go_wp2;refine qak (fun W=>Blk W w.heap.size 76 #[.bool s,.slice a1 (limbs N).length c1,.slice a2 (limbs D).length c2]/\Below w.heap.size w W/\NatR W a1 c1 (limbs N)/\NatR W a2 c2 (limbs D)) ⟨HF.out _ _ _,HB.out _ _ _,R1.out _ _ _,R2.out _ _ _⟩ ?_;clear HF HB R1 R2 z0 z1 z2 f0 f1 f2 hz1 hw1 HV1 HV2 hb1 hz hb0 hlt hs0;rintro w2 ⟨hz,hw,r1,r2⟩;have R1:=Hd r1;have R2:=Hd r2;clear r1 r2;have z0:=fun w' (hw':Below w2.heap.size w2 w')=>(hz.below' hw').cell 0
 have z1:=fun w' (hw':Below w2.heap.size w2 w')=>(hz.below' hw').cell 1
 have z2:=fun w' (hw':Below w2.heap.size w2 w')=>(hz.below' hw').cell 2
 have C1:=fun W=>qbs 1 W (by omega)
 have CS:=fun a' c' W (hW:Below w2.heap.size w2 W) (h':NatR W a' c' (limbs 1))=>ql8 (limbs D) (limbs 1) a2 a' c2 c' W (R2.out.ext (xbw hW)) h'
 have CT1:=fun W (hW:Below w2.heap.size w2 W)=>qup s (limbs N) N a1 c1 W (R1.out.ext (xbw hW)) (qaa _) (by omega)
 rw [hsg] at CT1;have CT2:=fun W (hW:Below w2.heap.size w2 W)=>qi0 (limbs D) D a2 c2 W (R2.out.ext (xbw hW)) (qaa _) (by omega)
 have hD:decide (limbs D=limbs 1)=decide (D=1):=by rw [Bool.eq_iff_iff];simp [qoe]
 rw [hD] at CS;replace C1:=Hd C1;replace CS:=Hd CS;replace CT1:=Hd CT1;replace CT2:=Hd CT2;have HSG:=Hd hsg;clear hz hD hsg;have s0:Below w2.heap.size w2 w2.drew:=brf.drew;by_cases h1:D=1
 ·
  subst h1;simp only [decide_true] at CS;refine wrx (S:=Below w2.heap.size w2) [(0,.q),(1,.q),(2,.l),(3,.t)] (s0) ?_
  iterate 2 (refine qab rfl rfl fun K hK=>xq ?_;go_simp;refine hK _ _ ?_;clear hK K)
  refine qal rfl rfl (fun K hK=>?_);go_simp;refine (C1.out _).mono ?_;rintro r w3 ⟨a3,c3,rfl,hV3,hb3⟩;dsimp only;refine hK.out _ _ (bth s0 hb3) (fun _=>?_);clear hK K;have s3:=bth s0 hb3;have CS3:=CS.out a3 c3 w3 s3 (hV3 w3 (New.refl _ _));replace CS3:=Hd CS3;clear hV3;refine qam rfl rfl (fun K hK=>?_);go_simp;refine (CS3.out).mono ?_;rintro r w4 ⟨rfl,hb4⟩;dsimp only;refine hK.out _ _ ?_;clear hK K;have s4:=bth s3 hb4;refine qac ?_;have y0:=z0 w4 s4;have y1:=z1 w4 s4;have y2:=z2 w4 s4;go_wp2_with fail;refine (CT1.out w4 s4).mono ?_;rintro e w5 ⟨rfl,hb5⟩;go_wp2;go_ret;exact ⟨rfl,bth hw (bth s4 hb5)⟩
 ·
  have hd1:decide (D=1)=false:=by simpa using h1
  rw [hd1] at CS;have HNE:=Hd h1;have hsz1:(ofL (textZ s N)).size<=10000001:=by rw [qa4];exact qjv s N (by omega)
  have hsz2:(ofL (textN D)).size<=10000000:=by rw [qa4];exact qdk D (by omega)
  have hsz3:(ofL (textZ s N)).size+1<=10000002:=by omega
  have hsz4:(ofL (textZ s N)).size+1+(ofL (textN D)).size<=20000002:=by omega
  have hn3:¬ 9223372036854775807<(ofL (textZ s N)).size+1:=by omega
  have hn4:¬ 9223372036854775807<(ofL (textZ s N)).size+1+(ofL (textN D)).size:=by omega
  have hfin:ofL (textZ s N)++⟨#[47]⟩++ofL (textN D)=ofL (textZ s N++47 :: textN D):=by
   show ofL (textZ s N)++ofL [47]++ofL (textN D)=_
   rw [qc6,qc6,List.append_assoc];rfl
  have HFIN:=Hd hfin;clear hd1 hfin h1;refine wrx (S:=Below w2.heap.size w2) [(0,.q),(1,.q),(2,.l),(3,.t)] (s0) ?_
  iterate 2 (refine qab rfl rfl fun K hK=>xq ?_;go_simp;refine hK _ _ ?_;clear hK K)
  refine qal rfl rfl (fun K hK=>?_);go_simp;refine (C1.out _).mono ?_;rintro r w3 ⟨a3,c3,rfl,hV3,hb3⟩;dsimp only;refine hK.out _ _ (bth s0 hb3) (fun _=>?_);clear hK K;have s3:=bth s0 hb3;have CS3:=CS.out a3 c3 w3 s3 (hV3 w3 (New.refl _ _));replace CS3:=Hd CS3;clear hV3;refine qam rfl rfl (fun K hK=>?_);go_simp;refine (CS3.out).mono ?_;rintro r w4 ⟨rfl,hb4⟩;dsimp only;refine hK.out _ _ ?_;clear hK K;have s4:=bth s3 hb4;refine qac ?_;have y0:=z0 w4 s4;have y1:=z1 w4 s4;have y2:=z2 w4 s4;go_wp2;have t4:Below w2.heap.size w2 w4.drew:=s4.drew;clear y0 y1 y2;refine wrx (S:=Below w2.heap.size w2) [(0,.q),(1,.q),(4,.q),(5,.q),(2,.l),(3,.q),(6,.l),(7,.p),(8,.p)] (t4) ?_
  iterate 4 (refine qab rfl rfl fun K hK=>xq ?_;go_simp;refine hK _ _ ?_;clear hK K)
  refine qal rfl rfl (fun K hK=>?_);go_simp;refine (CT1.out _ t4).mono ?_;rintro r w5 ⟨rfl,hb5⟩;dsimp only;refine hK.out _ _ (bth t4 hb5) (fun _=>?_);clear hK K;have t5:=bth t4 hb5
  iterate 1 (refine qab rfl rfl fun K hK=>xq ?_;go_simp;refine hK _ _ ?_;clear hK K)
  refine qal rfl rfl (fun K hK=>?_);go_simp;refine (CT2.out _ t5).mono ?_;rintro r w6 ⟨rfl,hb6⟩;dsimp only;refine hK.out _ _ (bth t5 hb6) (fun _=>?_);clear hK K;have t6:=bth t5 hb6
  iterate 2 (refine qae rfl rfl fun K hK=>xp ?_;go_simp;refine hK _ _ ?_;clear hK K)
  refine qac ?_;go_wp2;go_ret;exact ⟨qe7 HFIN.out,bth hw t6⟩
theorem qzu (neg:Bool) (n:Nat):decide (sgnZ neg n<0)=(neg&&decide (0<n)):=by
 unfold sgnZ;by_cases h:n=0
 · subst h;simp
 ·
  rw [if_neg h,decide_eq_true (show 0<n by omega),Bool.and_true]
  cases neg <;> simp
theorem qx7 (neg:Bool) (l:List Int) (n:Nat) (a:Option Addr) (c:Nat) (w:World) (h:NatR w a c l) (hn:val l=n) (hl:l.length<=1000000) :
  Calls Tryz.prog 160 #[.agg #[.bool neg,.slice a l.length c]] w fun e w'=>e=.returned (.string (ofL (textZ (neg&&decide (0<n)) n)))/\Below w.heap.size w w':=by
 have CS:=fun W (hW:Below w.heap.size w W)=>qei neg l n a c W (h.ext (xbw hW)) hn (by omega)
 have CT:=fun W (hW:Below w.heap.size w W)=>qnz l n a c W (h.ext (xbw hW)) hn hl
 have hsg:=qzu neg n;obtain ⟨b,hb⟩:∃ b,(neg&&decide (0<n))=b:=⟨_,rfl⟩
 rw [hb] at hsg ⊢;obtain ⟨s,hs⟩:∃ s,sgnZ neg n=s:=⟨_,rfl⟩
 simp only [hs] at CS hsg;have hsz:(textN n).length<=10000000:=qdk n (by have:=qaf h.u16;rw [hn] at this;omega);replace CS:=Hd CS;replace CT:=Hd CT;clear h hn hb hs;go_enter Tryz.func160,Tryz.ntmps160;go_wp2_with fail;refine qah (fun W=>Blk W w.heap.size 74 #[.bool neg,.slice a l.length c]/\Below w.heap.size w W) ⟨by ((with_reducible repeat first|assumption|(apply bF;focus omega)|apply bS|(apply bN;focus (simp;done))|apply bA|apply bD);all_goals rfl),by go_grown⟩ ?_;rintro w0 ⟨h0,hw0⟩;refine (CS.out w0 hw0).mono ?_;rintro e w1 ⟨rfl,hb1⟩;have hw1:=bth hw0 hb1;replace h0:=h0.below' hb1;obtain ⟨x0,x1⟩:=cq2 h0;clear hw0 hb1 CS
 cases b
 ·
  go_wp2_with fail;refine (CT.out w1 hw1).mono ?_;rintro e w2 ⟨rfl,hb2⟩;go_wp2;go_ret;exact ⟨rfl,bth hw1 hb2⟩
 ·
  go_wp2_with fail;refine (CT.out w1 hw1).mono ?_;rintro e w2 ⟨rfl,hb2⟩;rw [<- qa4] at hsz;have e45:(⟨#[45]⟩:ByteArray)++ofL (textN n)=ofL (45 :: textN n):=qc6 [45] _;replace e45:=Hd e45;go_wp2;go_ret;exact ⟨qe7 e45.out,bth hw1 hb2⟩
theorem qxj (neg:Bool) (l m:List Int) (n d:Nat) (a b:Option Addr) (c d0:Nat) (w:World) (h:NatR w a c l) (h':NatR w b d0 m) (hn:val l=n) (hk:val m=d) (hl:l.length<=1000000) (hm:m.length<=999999) (hd:d≠0) :
  Calls Tryz.prog 108 #[.agg #[.bool neg,.slice a l.length c,.slice b m.length d0]] w fun e w'=>e=.returned (.string (ofL (textF (qao neg n d))))/\Below w.heap.size w w':=by
 have CP:=fun W (hW:Below w.heap.size w W)=>qcs neg l m a b c d0 W (h'.ext (xbw hW)) (by rw [hk];exact hd) (by omega)
 have CN:=fun W (hW:Below w.heap.size w W)=>qdi neg l m n d a b c d0 W (h.ext (xbw hW)) (h'.ext (xbw hW)) hn hk (by omega) (by omega)
 have hsg:=qk3 neg n d;obtain ⟨hN1,hD1⟩:=qi8 neg n d;have hln:(limbs n).length<=1000000:=by have:=qaf h.u16;rw [hn] at this;omega
 have hld:(limbs d).length<=999999:=by have:=qaf h'.u16;rw [hk] at this;omega
 obtain ⟨t,ht⟩:∃ t,qao neg n d=t:=⟨_,rfl⟩
 simp only [ht] at CN hsg hN1 hD1 ⊢;obtain ⟨s,N,D⟩:=t;have hlN:(limbs N).length<=1000000:=Nat.le_trans (qaj hN1) hln;have hlD:(limbs D).length<=1000000:=Nat.le_trans (qaj hD1) (Nat.le_trans (qh9 d) (by omega));unfold RetF RetQ at CN;unfold textF;dsimp only at CN hsg ⊢;replace CN:=Hd CN;replace CP:=Hd CP;clear h h' hn hk ht hN1 hD1 hd;go_enter Tryz.func108,Tryz.ntmps108;go_wp2_with fail;refine qah (fun W=>Below w.heap.size w W) (by go_grown) ?_;rintro w0 hw0;refine (CP.out w0 hw0).mono ?_;rintro e w1 ⟨rfl,hb1⟩;have hw1:=bth hw0 hb1;clear CP hw0 hb1;have hs1:=hw1.size;go_wp2_with fail;refine qah (fun W=>Below w.heap.size w W) (by go_grown) ?_;rintro w2 hw2;refine (CN.out w2 hw2).mono ?_;rintro e w3 ⟨na,nc,da,dc,rfl,hV1,hV2,hb3⟩;have hw3:=bth hw2 hb3;have K1:=fun (V:World) (hV:Below w3.heap.size w3 V)=>hV1 V ((New.refl _ V).below hV)
 have K2:=fun (V:World) (hV:Below w3.heap.size w3 V)=>hV2 V ((New.refl _ V).below hV)
 have CO:=fun V hV=>qd1 (limbs D) da dc V (K2 V hV)
 have CT1:=fun V hV=>qx7 s (limbs N) N na nc V (K1 V hV) (qaa _) hlN
 have CT2:=fun V hV=>qnz (limbs D) D da dc V (K2 V hV) (qaa _) hlD
 rw [hsg] at CT1;rw [qc7] at CO;replace CO:=Hd CO;replace CT1:=Hd CT1;replace CT2:=Hd CT2;clear CN hw2 hb3 hV1 hV2 K1 K2 hs1;have hs3:=hw3.size;go_wp2_with fail;refine qah (fun W=>Blk W w3.heap.size 76 #[.bool s,.slice na (limbs N).length nc,.slice da (limbs D).length dc]/\Below w3.heap.size w3 W) ⟨by ((with_reducible repeat first|assumption|(apply bF;focus omega)|apply bS|(apply bN;focus (simp;done))|apply bA|apply bD);all_goals rfl),by go_grown⟩ ?_;rintro w4 ⟨h4,hw4⟩;refine (CO.out w4 hw4).mono ?_;rintro e w5 ⟨rfl,hb5⟩;have hw5:=bth hw4 hb5;replace h4:=h4.below' hb5;obtain ⟨x0,x1,x2⟩:=cq3 h4;clear hw4 hb5 CO;by_cases h1:D=1
 ·
  have d1:decide (D=1)=true:=decide_eq_true h1;have HD:=Hd h1;clear h1;go_wp2_with fail;refine (CT1.out w5 hw5).mono ?_;rintro e w6 ⟨rfl,hb6⟩;go_wp2;go_ret;exact ⟨rfl,bth hw3 (bth hw5 hb6)⟩
 ·
  have d1:decide (D=1)=false:=decide_eq_false h1;have HD:=Hd h1;have k0:=held x0;have k1:=held x1;have k2:=held x2;have hsz1:(ofL (textZ s N)).size<=10000001:=by rw [qa4];exact qjv s N (by omega)
  have hsz2:(ofL (textN D)).size<=10000000:=by rw [qa4];exact qdk D (by omega)
  have hsz3:(ofL (textZ s N)).size+1<=10000002:=by omega
  have hsz4:(ofL (textZ s N)).size+1+(ofL (textN D)).size<=20000002:=by omega
  have hn3:¬ 9223372036854775807<(ofL (textZ s N)).size+1:=by omega
  have hn4:¬ 9223372036854775807<(ofL (textZ s N)).size+1+(ofL (textN D)).size:=by omega
  have hfin:ofL (textZ s N)++⟨#[47]⟩++ofL (textN D)=ofL (textZ s N++47 :: textN D):=by
   show ofL (textZ s N)++ofL [47]++ofL (textN D)=_
   rw [qc6,qc6,List.append_assoc];rfl
  have HFIN:=Hd hfin;clear hfin h1 x0 x1 x2;go_wp2;have t0:Below w5.heap.size w5 w5.drew:=brf.drew;refine wrx (S:=Below w5.heap.size w5) [(0,.q),(1,.q),(4,.q),(5,.q),(2,.l),(3,.q),(6,.l),(7,.p),(8,.p)] (t0) ?_
  iterate 4 (refine qab rfl rfl fun K hK=>xq ?_;go_simp;refine hK _ _ ?_;clear hK K)
  refine qal rfl rfl (fun K hK=>?_);go_simp;refine (CT1.out _ (bth hw5 t0)).mono ?_;rintro r w6 ⟨rfl,hb6⟩;dsimp only;refine hK.out _ _ (bth t0 hb6) (fun _=>?_);clear hK K;have t6:=bth t0 hb6
  iterate 1 (refine qab rfl rfl fun K hK=>xq ?_;go_simp;refine hK _ _ ?_;clear hK K)
  refine qal rfl rfl (fun K hK=>?_);go_simp;refine (CT2.out _ (bth hw5 t6)).mono ?_;rintro r w7 ⟨rfl,hb7⟩;dsimp only;refine hK.out _ _ (bth t6 hb7) (fun _=>?_);clear hK K;have t7:=bth t6 hb7
  iterate 2 (refine qae rfl rfl fun K hK=>xp ?_;go_simp;refine hK _ _ ?_;clear hK K)
  refine qac ?_;go_wp2;go_ret;exact ⟨qe7 HFIN.out,bth hw3 (bth hw5 t7)⟩
def Rt.q (r:Rt):Rat:=qv r.neg (Go.Proofs.YtnilkimcdgmgkaaGreatDoor.val r.num) (Go.Proofs.YtnilkimcdgmgkaaGreatDoor.val r.den)
def RtZ (w:World) (r:Rt) (z:QA):Prop:=z.neg=r.neg/\z.n=r.num.length/\z.m=r.den.length/\NatR w z.a z.c r.num/\NatR w z.b z.d r.den
theorem qep {r:Rt} (h:r.right=true):r.neg=decide (r.q.num<0)/\limbs r.q.num.natAbs=r.num/\limbs r.q.den=r.den:=by
 unfold Rt.right qcn qcb at h;simp only [Bool.and_eq_true,decide_eq_true_eq,Bool.not_eq_true',Bool.and_eq_false_iff,decide_eq_false_iff_not] at h;obtain ⟨⟨⟨⟨h1,h2⟩,h3⟩,h4⟩,h5⟩:=h;have e:=qbo r.neg (Go.Proofs.YtnilkimcdgmgkaaGreatDoor.val r.num) (Go.Proofs.YtnilkimcdgmgkaaGreatDoor.val r.den);have hd:Go.Proofs.YtnilkimcdgmgkaaGreatDoor.val r.den≠0:=by
  intro e0;rw [e0,qai] at h3;rw [<- h3] at h5;simp at h5
 have e2:qao r.neg (Go.Proofs.YtnilkimcdgmgkaaGreatDoor.val r.num) (Go.Proofs.YtnilkimcdgmgkaaGreatDoor.val r.den)=(r.neg,Go.Proofs.YtnilkimcdgmgkaaGreatDoor.val r.num,Go.Proofs.YtnilkimcdgmgkaaGreatDoor.val r.den):=by
  by_cases h0:Go.Proofs.YtnilkimcdgmgkaaGreatDoor.val r.num=0
  ·
   have hn:r.num.length=0:=by rw [<- h1,h0,qai];rfl
   have hneg:r.neg=false:=by
    rcases h2 with h2 | h2
    · exact h2
    · exact (h2 hn).elim
   have hd1:Go.Proofs.YtnilkimcdgmgkaaGreatDoor.val r.den=1:=by rw [h0,Nat.gcd_zero_left] at h4;exact h4
   rw [h0,hneg,hd1]
   rfl
  · exact qid h0 hd h4
 rw [e2] at e;unfold trip at e;simp only [Prod.mk.injEq] at e;unfold Rt.q;refine ⟨e.1,?_,?_⟩
 · rw [<- e.2.1,h1]
 · rw [<- e.2.2,h3]
theorem RtZ.qac {w:World} {r:Rt} {z:QA} (h:RtZ w r z) (hr:r.right=true):QAc w z r.q/\qsz r.q=max r.num.length r.den.length:=by
 obtain ⟨e1,e2,e3⟩:=qep hr;obtain ⟨z1,z2,z3,z4,z5⟩:=h;refine ⟨⟨by rw [z1,e1],by rw [z2,e2],by rw [z3,e3],by rw [e2];exact z4,by rw [e3];exact z5⟩,?_⟩;unfold qsz;rw [e2,e3]
def absQ (q:Rat):Rat:=if q<0 then -q else q
def textQ (q:Rat):List UInt8:=textF (trip q)
def QA.pos (x:QA):QA:=⟨false,x.n,x.a,x.c,x.m,x.b,x.d⟩
theorem qkw {q:Rat}:q.num<0↔q<0:=by
 rw [<- Rat.not_le,<- Rat.num_nonneg];omega
theorem QK.abs {k:Nat} {w:World} {x:QA} {q:Rat} (h:QK k w x q):QK k w x.pos (absQ q):=by
 obtain ⟨⟨h1,h2,h3,h4,h5⟩,h6⟩:=h;unfold absQ
 split
 ·
  next hn =>
  have hnn:=qkw.2 hn;refine ⟨⟨?_,by simpa [QA.pos] using h2,by simpa [QA.pos] using h3,by simpa [QA.pos] using h4,by simpa [QA.pos] using h5⟩,by rw [qfb];exact h6⟩
  show false=decide ((-q).num<0)
  rw [Rat.neg_num,decide_eq_false]
  omega
 ·
  next hn =>
  have hnn:¬ q.num<0:=fun h=>hn (qkw.1 h)
  refine ⟨⟨?_,h2,h3,h4,h5⟩,h6⟩
  show false=decide (q.num<0)
  rw [decide_eq_false hnn]
theorem qkq (q:Rat):qao (decide (q.num<0)) q.num.natAbs q.den=trip q:=by rw [qbo,qb2]
theorem qai9 (x:QA) (q:Rat) (k:Nat) (w:World) (H:QK k w x q) (hk:k<=100000):Calls Tryz.prog 108 #[.agg #[.bool x.neg,.slice x.a x.n x.c,.slice x.b x.m x.d]] w fun e w'=>e=.returned (.string (ofL (textQ q)))/\Below w.heap.size w w':=by
 obtain ⟨s1,n1,a1,c1,m1,b1,d1⟩:=x;obtain ⟨⟨e1,e2,e3,r1,r2⟩,z1⟩:=H;dsimp only at e1 e2 e3 r1 r2 ⊢;subst e1 e2 e3;have l1:=qbm q;have l2:=qbj q;have:=qxj (decide (q.num<0)) (limbs q.num.natAbs) (limbs q.den) q.num.natAbs q.den a1 b1 c1 d1 w r1 r2 (qaa _) (qaa _) (by omega) (by omega) q.den_nz
 rwa [qkq] at this
theorem qhz (x:QA) (q:Rat) (k:Nat) (w:World) (H:QK k w x q) (hk:k<=100000):Calls Tryz.prog 31 #[.agg #[.bool x.neg,.slice x.a x.n x.c,.slice x.b x.m x.d]] w fun e w'=>e=.returned (.string (ofL (textQ q)))/\Below w.heap.size w w':=by
 obtain ⟨s1,n1,a1,c1,m1,b1,d1⟩:=x;obtain ⟨⟨e1,e2,e3,r1,r2⟩,z1⟩:=H;dsimp only at e1 e2 e3 r1 r2 ⊢;subst e1 e2 e3;have l1:=qbm q;have l2:=qbj q;have:=qvc (decide (q.num<0)) (limbs q.num.natAbs) (limbs q.den) q.num.natAbs q.den a1 b1 c1 d1 w r1 r2 (qaa _) (qaa _) (by omega) (by omega)
 rwa [qkq] at this
theorem qxm (x:QA) (q:Rat) (k:Nat) (w:World) (H:QK k w x q) (hk:k<=100000):Calls Tryz.prog 67 #[.agg #[.bool x.neg,.slice x.a x.n x.c,.slice x.b x.m x.d]] w (RetQK k (-q) w):=by
 have hz:=H.2;obtain ⟨s1,n1,a1,c1,m1,b1,d1⟩:=x;obtain ⟨⟨e1,e2,e3,r1,r2⟩,z1⟩:=H;dsimp only at e1 e2 e3 r1 r2 ⊢;subst e1 e2 e3;have l1:=qbm q;have l2:=qbj q;have:=qxn (decide (q.num<0)) (limbs q.num.natAbs) (limbs q.den) q.num.natAbs q.den a1 b1 c1 d1 w r1 r2 (qaa _) (qaa _) (by omega) (by omega);refine this.mono fun e w' h=>qd6 (by rw [qfb];exact hz) ?_
 have e1:qao (!(decide (q.num<0))) q.num.natAbs q.den=trip (-q):=by
  rw [qbo];congr 1;rw [qxw,qb2]
 rwa [e1] at h
theorem qpn:qao (decide ((1:Int)<0)) (1:Int).natAbs 1=trip 1:=by
 have:=qgv 1 1;rw [this]
 rfl
theorem qk8:qsz 1<=1:=qjs (qan (by decide)) (qan (by decide))
theorem qwi (w:World):Calls Tryz.prog 99 #[.int .i64 1] w (RetQK 1 1 w):=by
 have:=qp4 1 w ⟨by omega,by omega⟩;rw [qpn] at this;exact this.mono fun _ _ h=>qd6 qk8 h
theorem qm9 (w:World):Calls Tryz.prog 32 #[.int .i64 1] w (RetQK 1 1 w):=by
 have:=qo8 1 w ⟨by omega,by omega⟩;rw [qpn] at this;exact this.mono fun _ _ h=>qd6 qk8 h
theorem zz30 {P:Prop} (h:P:=by
 go_wp2_with fail;refine qah (fun W=>Below w.heap.size w W) (by go_grown) ?_;rintro w0 hw0;refine (CC.out w0 hw0).mono ?_;rintro e w1 ⟨rfl,hb⟩;go_wp2;go_ret;exact ⟨qbg hz.out,bth hw0 hb⟩
 ):P:=h
theorem qad2 (x y:QA) (p q:Rat) (k:Nat) (w:World) (H1:QK k w x p) (H2:QK k w y q) (hk:k<=100000):Calls Tryz.prog 107 #[.agg #[.bool x.neg,.slice x.a x.n x.c,.slice x.b x.m x.d],.agg #[.bool y.neg,.slice y.a y.n y.c,.slice y.b y.m y.d]] w fun e w'=>e=.returned (.bool (decide (p=q)))/\Below w.heap.size w w':=by
 have CC:=fun W (hW:Below w.heap.size w W)=>cmp_q x y p q k k W (H1.ext (xbw hW)) (H2.ext (xbw hW)) hk hk
 have hz:(cmpQ p q==0)=decide (p=q):=by rw [Bool.eq_iff_iff,beq_iff_eq,decide_eq_true_eq];exact qke
 replace CC:=Hd CC;obtain ⟨r,hr⟩:∃ r,cmpQ p q=r:=⟨_,rfl⟩
 rw [hr] at hz;simp only [hr] at CC;replace CC:=Hd CC.out;replace hz:=Hd hz;clear H1 H2 hr;go_enter Tryz.func107,Tryz.ntmps107;exact zz30
theorem qp5 (x y:QA) (p q:Rat) (k:Nat) (w:World) (H1:QK k w x p) (H2:QK k w y q) (hk:k<=100000):Calls Tryz.prog 126 #[.agg #[.bool x.neg,.slice x.a x.n x.c,.slice x.b x.m x.d],.agg #[.bool y.neg,.slice y.a y.n y.c,.slice y.b y.m y.d]] w fun e w'=>e=.returned (.bool (decide (p=q)))/\Below w.heap.size w w':=by
 have CC:=fun W (hW:Below w.heap.size w W)=>qxd x y p q k k W (H1.ext (xbw hW)) (H2.ext (xbw hW)) hk hk
 have hz:(cmpQ p q==0)=decide (p=q):=by rw [Bool.eq_iff_iff,beq_iff_eq,decide_eq_true_eq];exact qke
 replace CC:=Hd CC;obtain ⟨r,hr⟩:∃ r,cmpQ p q=r:=⟨_,rfl⟩
 rw [hr] at hz;simp only [hr] at CC;replace CC:=Hd CC.out;replace hz:=Hd hz;clear H1 H2 hr;go_enter Tryz.func126,Tryz.ntmps126;exact zz30
end Go.Proofs.YtnilkimcdgmgkaaGreatDoor
namespace Go.Proofs
open Go.Shelf
def Tryz.lays156_ren : Go.Shelf.Ren := ⟨fun | 156 => 109 | 165 => 162 | 166 => 53 | 169 => 55 | 240 => 106 | 241 => 202 | 276 => 158 | 277 => 215 | n => n, fun | 31 => 22 | 9 => 9 | 3 => 3 | 4 => 4 | 0 => 0 | 20 => 20 | 72 => 102 | 76 => 64 | 70 => 99 | 37 => 100 | 75 => 63 | 127 => 148 | 164 => 187 | 5 => 5 | 80 => 104 | n => n, fun | n => n⟩
theorem Tryz.lays156 : Go.Proofs.Lays.n156 Tryz.prog Tryz.lays156_ren := {
  mixed := by kernel_rfl
  f156 := Tryz.func109.trans (congrArg some (by kernel_rfl))
  f165 := Tryz.func162.trans (congrArg some (by kernel_rfl))
  f166 := Tryz.func53.trans (congrArg some (by kernel_rfl))
  f169 := Tryz.func55.trans (congrArg some (by kernel_rfl))
  f240 := Tryz.func106.trans (congrArg some (by kernel_rfl))
  f241 := Tryz.func202.trans (congrArg some (by kernel_rfl))
  f276 := Tryz.func158.trans (congrArg some (by kernel_rfl))
  f277 := Tryz.func215.trans (congrArg some (by kernel_rfl))
  t0 := Tryz.underlying0
  a0 := Tryz.isAgg0
  z0 := Tryz.sizeOf0
  v0 := Tryz.zeroValue0
  t3 := Tryz.underlying3
  a3 := Tryz.isAgg3
  z3 := Tryz.sizeOf3
  v3 := Tryz.zeroValue3
  t4 := Tryz.underlying4
  a4 := Tryz.isAgg4
  z4 := Tryz.sizeOf4
  v4 := Tryz.zeroValue4
  t9 := Tryz.underlying9
  a9 := Tryz.isAgg9
  z9 := Tryz.sizeOf9
  v9 := Tryz.zeroValue9
  t20 := Tryz.underlying20
  a20 := Tryz.isAgg20
  z20 := Tryz.sizeOf20
  v20 := Tryz.zeroValue20
  t31 := Tryz.underlying22
  a31 := Tryz.isAgg22
  z31 := Tryz.sizeOf22
  v31 := Tryz.zeroValue22
  t37 := Tryz.underlying100
  a37 := Tryz.isAgg100
  z37 := Tryz.sizeOf100
  v37 := Tryz.zeroValue100
  t70 := Tryz.underlying99
  a70 := Tryz.isAgg99
  z70 := Tryz.sizeOf99
  v70 := Tryz.zeroValue99
  t72 := Tryz.underlying102
  a72 := Tryz.isAgg102
  z72 := Tryz.sizeOf102
  v72 := Tryz.zeroValue102
  t75 := Tryz.underlying63
  a75 := Tryz.isAgg63
  z75 := Tryz.sizeOf63
  v75 := Tryz.zeroValue63
  t76 := Tryz.underlying64
  a76 := Tryz.isAgg64
  z76 := Tryz.sizeOf64
  v76 := Tryz.zeroValue64
  t127 := Tryz.underlying148
  a127 := Tryz.isAgg148
  z127 := Tryz.sizeOf148
  v127 := Tryz.zeroValue148
  t164 := Tryz.underlying187
  a164 := Tryz.isAgg187
  z164 := Tryz.sizeOf187
  v164 := Tryz.zeroValue187 }
theorem Tryz.Extra156:Builder.Extra Tryz.prog Tryz.lays156_ren where
 sizeBuilder:=by kernel_rfl
 liesBuilder:=by kernel_rfl
 t5:=Tryz.underlying5
 a5:=Tryz.isAgg5
 z5:=Tryz.sizeOf5
 v5:=Tryz.zeroValue5
 infoByte:=by kernel_rfl
 cellsByte:=by kernel_rfl
 sizeByte:=by kernel_rfl
 neB5:=by decide
end Go.Proofs
namespace Go.Proofs.YtnilkimcdgmgkaaGreatDoor
open Go.RowKit
def joinB (l:List ByteArray) (sep:ByteArray):ByteArray:=⟨(Lib.join (l.map (·.data.toList)) sep.data.toList).toArray⟩
theorem qab9 (l:List ByteArray) (sep:ByteArray) (a:Option Addr) (c:Nat) (w:World) (h:StrsR w a c l) (hN:l.length<=140737488355328) (hlen:(joinB l sep).size<=140737488355328) :
  Calls Tryz.prog 109 #[.slice a l.length c,.string sep] w fun e w'=>e=.returned (.string (joinB l sep))/\Below w.heap.size w w':=by
 have hlen2:(Lib.join (l.map (·.data.toList)) sep.data.toList).length<=140737488355328:=by
  have:(joinB l sep).size=(Lib.join (l.map (·.data.toList)) sep.data.toList).length:=by show Array.size _=_;simp
  omega
 cases l with
 | nil=>exact (Any.strings_Join_none Tryz.lays156 Tryz.Extra156 a c sep w).mono fun e w' ⟨he,hw⟩=>⟨he,hw ▸ Below.refl _ _⟩
 | cons x r =>
  obtain ⟨b,o,rfl,h0⟩:=h.2.2 0 x rfl;have hb:b<w.heap.size:=World.block_lt_of_cell? w _ h0;refine Any.strings_Join Tryz.lays156 Tryz.Extra156 b o c (x :: r) sep w (fun j y hy=>?_) hb hN h.1 hlen2;obtain ⟨b2,o2,e,h2⟩:=h.2.2 j y hy;injection e with e
  injection e with e1 e2
  subst e1 e2;simpa [StrE] using h2
end Go.Proofs.YtnilkimcdgmgkaaGreatDoor
namespace Go.Proofs.YtnilkimcdgmgkaaGreatDoor
open Go.RowKit
def starB:ByteArray:=⟨#[42]⟩
def nameA (names:List ByteArray) (v:Nat):ByteArray:=names.getD v ⟨#[]⟩
def facP (names:List ByteArray) (v:Nat) (x:Int):List ByteArray:=if x=1 then [nameA names v] else if 1<x then [nameA names v++⟨#[94]⟩++ofL (textN x.toNat)] else []
def cofP (q:Rat) (m:List Int):List ByteArray:=if m.length=0\/absQ q≠1 then [ofL (textQ (absQ q))] else []
def qaz (q:Rat) (m:List Int) (names:List ByteArray) (k:Nat):List ByteArray:=cofP q m++(List.range k).flatMap fun v=>facP names v (expAt m v)
def termB (q:Rat) (m:List Int) (names:List ByteArray):ByteArray:=joinB (qaz q m names m.length) starB
theorem qc0 (q:Rat) (m:List Int) (names:List ByteArray):qaz q m names 0=cofP q m:=by simp [qaz]
theorem qkt {q:Rat} {m:List Int} {names:List ByteArray} {k:Nat} {x:Int} (h:m[k]? = some x):qaz q m names (k+1)=qaz q m names k++facP names k x:=by
 have hx:expAt m k=x:=by unfold expAt;rw [List.getD_eq_getElem?_getD,h];rfl
 unfold qaz;rw [List.range_succ,List.flatMap_append,List.append_assoc];simp [hx]
theorem qq1 (names:List ByteArray) (v:Nat):facP names v 1=[nameA names v]:=by simp [facP]
theorem qo5 {names:List ByteArray} {v:Nat} {x:Int} (h:1<x):facP names v x=[nameA names v++⟨#[94]⟩++ofL (textN x.toNat)]:=by
 unfold facP;rw [if_neg (by omega),if_pos h]
theorem qnu {names:List ByteArray} {v:Nat} {x:Int} (h:x<1):facP names v x=[]:=by
 unfold facP;rw [if_neg (by omega),if_neg (by omega)]
theorem qzn (names:List ByteArray) (v:Nat) (x:Int):(facP names v x).length<=1:=by unfold facP;split <;> (try split) <;> simp
theorem qgb (q:Rat) (m:List Int) (names:List ByteArray) (k:Nat):(qaz q m names k).length<=k+1:=by
 induction k with
 | zero=>rw [qc0];unfold cofP;split <;> simp
 | succ k ih =>
  unfold qaz at ih ⊢;rw [List.range_succ,List.flatMap_append,<- List.append_assoc,List.length_append];have:=qzn names k (expAt m k);simp at ih this ⊢
  omega
def qlp (L:Nat) (l:List ByteArray):Prop:=∀ s∈l,s.size<=L
theorem qmy (x:Int) (h:x<=1048576):(textN x.toNat).length<=10:=by
 unfold textN
 split
 · simp
 · exact qqd 10 _ (by omega)
theorem quh {names:List ByteArray} {N:Nat} (hn:∀ s∈names,s.size<=N) (v:Nat) (x:Int) (hx:x<=1048576):qlp (N+11) (facP names v x):=by
 have h1:(nameA names v).size<=N:=by
  unfold nameA;rw [List.getD_eq_getElem?_getD]
  cases h:names[v]? with
  | none=>exact Nat.zero_le _
  | some s=>exact hn s (List.mem_of_getElem? h)
 have h2:=qmy x hx;intro s hs;unfold facP at hs
 split at hs
 · simp at hs;subst hs;omega
 ·
  split at hs
  ·
   simp at hs;subst hs;rw [ByteArray.size_append,ByteArray.size_append,qa4];have:(⟨#[94]⟩:ByteArray).size=1:=rfl
   omega
  · cases hs
theorem qgp {q:Rat} {m:List Int} {names:List ByteArray} {N T:Nat} (hn:∀ s∈names,s.size<=N) (hm:∀ x∈m,x<=1048576) (ht:(textQ (absQ q)).length<=T) (k:Nat):qlp (N+11+T) (qaz q m names k):=by
 intro s hs;unfold qaz at hs;rcases List.mem_append.1 hs with hs | hs
 ·
  unfold cofP at hs
  split at hs
  · simp at hs;subst hs;rw [qa4];omega
  · cases hs
 ·
  obtain ⟨v,_,hv⟩:=List.mem_flatMap.1 hs;have hx:expAt m v<=1048576:=by
   unfold expAt;rw [List.getD_eq_getElem?_getD]
   cases h:m[v]? with
   | none=>simp
   | some x=>exact hm x (List.mem_of_getElem? h)
  have:=quh hn v _ hx s hv
  omega
theorem qin {L:Nat}:∀ {l:List ByteArray},qlp L l->(joinB l starB).size<=l.length*(L+1)
 | [],_=>Nat.zero_le _
 | x :: r,h=>by
  have e:(joinB (x :: r) starB).size=(Lib.join ((x :: r).map (·.data.toList)) starB.data.toList).length:=qa4 _;rw [e,List.map_cons,Lib.join_length];have e2:∀ (l:List ByteArray),qlp L l->Lib.lens (l.map (·.data.toList))<=l.length*L:=by
   intro l hl
   induction l with
   | nil=>simp [Lib.lens]
   | cons y t ih =>
    have h1:=hl y (by simp);have h2:=ih fun s hs=>hl s (by simp [hs])
    have h3:y.data.toList.length=y.size:=by show y.data.toList.length=y.data.size;simp
    unfold Lib.lens at h2 ⊢;rw [List.map_cons,List.map_cons,List.sum_cons,List.length_cons,Nat.succ_mul]
    omega
  have e3:=e2 (x :: r) h;have e4:starB.data.toList.length=1:=rfl;rw [List.map_cons] at e3;rw [e4,List.length_map];rw [List.length_cons] at e3 ⊢;rw [Nat.mul_add]
  omega
theorem qe1 {a b:ByteArray} (h:a.data.toList=b.data.toList):a=b:=by
 cases a;cases b
 simp at h;rw [h]
theorem qny (y:ByteArray) (sep:ByteArray):joinB [y] sep=y:=by
 apply qe1;unfold joinB;simp [Lib.join_one]
theorem qtw (l:List ByteArray) (y sep:ByteArray) (h:l≠[]):joinB (l++[y]) sep=joinB l sep++sep++y:=by
 cases l with
 | nil=>exact absurd rfl h
 | cons x r =>
  apply qe1;unfold joinB;rw [List.cons_append,List.map_cons,List.map_cons,Lib.join_cons,Lib.join_cons];unfold Lib.joinTail;simp [ByteArray.data_append]
theorem qzb {l:List ByteArray} (h:l≠[]) (hn:∀ s∈l,s.size≠0) (sep:ByteArray):(joinB l sep).size≠0:=by
 cases l with
 | nil=>exact absurd rfl h
 | cons x r =>
  have e:(joinB (x :: r) sep).size=(Lib.join ((x :: r).map (·.data.toList)) sep.data.toList).length:=qa4 _;have hx:=hn x (by simp);rw [e,List.map_cons,Lib.join_cons,List.length_append];have:x.data.toList.length=x.size:=by show x.data.toList.length=x.data.size;simp
  omega
theorem qxe {q:Rat} {m:List Int} {names:List ByteArray} (hn:∀ s∈names,s.size≠0) (hl:m.length<=names.length) (ht:textQ (absQ q)≠[]) (k:Nat) (hk:k<=m.length):∀ s∈qaz q m names k,s.size≠0:=by
 intro s hs;unfold qaz at hs;rcases List.mem_append.1 hs with hs | hs
 ·
  unfold cofP at hs
  split at hs
  · simp at hs;subst hs;rw [qa4];intro e;exact ht (List.eq_nil_of_length_eq_zero e)
  · cases hs
 ·
  obtain ⟨v,hv0,hv⟩:=List.mem_flatMap.1 hs;have hvk:=List.mem_range.1 hv0;have h1:(nameA names v).size≠0:=by
   unfold nameA;rw [List.getD_eq_getElem?_getD];obtain ⟨y,hy⟩:=qad (show v<names.length by omega);rw [hy];exact hn y (List.mem_of_getElem? hy)
  unfold facP at hv
  split at hv
  · simp at hv;subst hv;exact h1
  ·
   split at hv
   ·
    simp at hv;subst hv;rw [ByteArray.size_append,ByteArray.size_append]
    omega
   · cases hv
theorem qyx (q:Rat):textQ q≠[]:=by
 have h1:∀ n,textN n≠[]:=fun n=>by
  unfold textN
  split
  · simp
  · next h=>intro e;have:=(qjb n).2 h;rw [e] at this;simp at this
 have h2:∀ b n,textZ b n≠[]:=fun b n=>by
  unfold textZ
  split
  · simp
  · exact h1 n
 unfold textQ textF
 split
 · exact h2 _ _
 · intro e;exact h2 _ _ (List.append_eq_nil_iff.1 e).1
def seenB (p:List Trm) (v:Nat):Bool:=p.any fun t=>!(decide (expAt t.mono v=0))
def seenC (S:Nat->Bool):Array Value:=((List.range 64).map fun v=>Value.bool (S v)).toArray
theorem qf0 (S:Nat->Bool):(seenC S).size=64:=by simp [seenC]
theorem qgt (S:Nat->Bool) (v:Nat) (h:v<64):(seenC S)[v]? = some (.bool (S v)):=by simp [seenC,h]
theorem qw2 (S:Nat->Bool) (v:Nat):(seenC S).setIfInBounds v (.bool true)=seenC (fun u=>decide (u=v)||S u):=by
 apply Array.ext_getElem?;intro i;rw [Array.getElem?_setIfInBounds];by_cases h:v=i
 ·
  subst h;by_cases h2:v<64
  · rw [if_pos rfl,if_pos (by rw [qf0];exact h2),qgt _ _ h2];simp
  · rw [if_pos rfl,if_neg (by rw [qf0];exact h2)];simp [seenC,h2]
 ·
  rw [if_neg h];by_cases h2:i<64
  · rw [qgt _ _ h2,qgt _ _ h2,decide_eq_false (fun e=>h e.symm)];rfl
  · simp [seenC,h2]
theorem qfg {S S':Nat->Bool} (h:∀ v,S v=S' v):seenC S=seenC S':=by rw [show S=S' from funext h]
theorem qvd {l:List Trm} {k:Nat} {t:Trm} (h:l[k]? = some t) (v:Nat):seenB (l.take (k+1)) v=(seenB (l.take k) v || !(decide (expAt t.mono v=0))):=by
 unfold seenB;rw [qbc h,List.any_append];simp
def seenT (m:List Int) (j v:Nat):Bool:=decide (v<j) && !(decide (expAt m v=0))
theorem qx3 (m:List Int) (v:Nat):seenT m m.length v = !(decide (expAt m v=0)):=by
 unfold seenT;by_cases h:v<m.length
 · rw [decide_eq_true h];rfl
 ·
  have:expAt m v=0:=by unfold expAt;rw [List.getD_eq_getElem?_getD,List.getElem?_eq_none (by omega)];rfl
  rw [this];simp
theorem que {m:List Int} {j:Nat} {x:Int} (h:m[j]? = some x) (v:Nat):seenT m (j+1) v=(if x=0 then seenT m j v else (decide (v=j)||seenT m j v)):=by
 have hx:expAt m j=x:=by unfold expAt;rw [List.getD_eq_getElem?_getD,h];rfl
 unfold seenT;by_cases hv:v=j
 ·
  subst hv;rw [hx,decide_eq_true (show v<v+1 by omega),decide_eq_false (show ¬ v<v by omega)];by_cases h0:x=0 <;> simp [h0]
 ·
  rw [show decide (v<j+1)=decide (v<j) by rw [decide_eq_decide];omega,decide_eq_false hv]
  split <;> simp
def varsI (p:List Trm) (i:Nat):List Int:=((List.range i).filter (seenB p)).map fun (v:Nat)=>(v:Int)
theorem qmq (p:List Trm) (i:Nat):varsI p (i+1)=if seenB p i=true then varsI p i++[(i:Int)] else varsI p i:=by
 unfold varsI;rw [List.range_succ,List.filter_append,List.map_append];by_cases h:seenB p i=true
 · rw [if_pos h];simp [h]
 · rw [if_neg h];simp [h]
theorem qos (p:List Trm) (i:Nat):(varsI p i).length<=i:=by
 unfold varsI;rw [List.length_map];exact Nat.le_trans (List.length_filter_le _ _) (by simp)
theorem qqi (p:List Trm) (i:Nat):∀ x∈varsI p i,0<=x/\x<i:=fun x hx=>by
 unfold varsI at hx;obtain ⟨v,hv,rfl⟩:=List.mem_map.1 hx;have:=List.mem_range.1 (List.mem_filter.1 hv).1
 omega
theorem qu1 (w:World) (S:Nat->Bool) (i:Nat) (h:i<64):(Instr.index 143 (.agg (seenC S)) (.int .i64 i)).run Tryz.prog w=.ok (.bool (S i)) w:=by
 have h1:0<=(i:Int)/\(i:Int)<((64:Nat):Int):=by omega
 simp [Instr.index,run_underlying Tryz.underlying143,asIntOf,h1,go_sem];rw [if_pos h,qgt S i h]
 rfl
theorem qaa5 (l:List Trm) (a:Option Addr) (c:Nat) (w:World) (h:PolyR w a c l) (hl:l.length<=1000000) (hm:∀ t∈l,t.mono.length<=64) :
  Calls Tryz.prog 51 #[.slice a l.length c] w fun e w'=>∃ a' c',e=.returned (.slice a' (varsI l 64).length c')/\IntsR w' a' c' (varsI l 64)/\Below w.heap.size w w':=by
 have HL:=Hd h;have HM:=Hd hm;clear h hm;go_enter Tryz.func51,Tryz.ntmps51;go_wp2;refine qak (fun W=>Blk W w.heap.size 143 (seenC fun _=>false)/\Below w.heap.size w W) ⟨Blk.new w _ _,by go_grown⟩ ?_;rintro w0 ⟨hz,hw0⟩;obtain ⟨g0,hg0⟩:∃ g,g=w.heap.size:=⟨_,rfl⟩
 rw [<- hg0] at hz ⊢;have hgw:w.heap.size<=g0:=by omega
 replace hg0:=Hd hg0
 go_loopg [5,6,7,13] l.length (fun n _ _ _ s13 wr=>∃ k:Nat,Hid (k+n=l.length)/\s13=.int .i64 k/\Blk wr g0 143 (seenC (seenB (l.take k)))/\Below w.heap.size w wr)
 case atStart=>exact ⟨0,by show _=_;omega,rfl,hz,hw0⟩
 case round =>
  clear hz hw0;obtain ⟨k,hk,rfl,hz,hwr⟩:=hrel;by_cases hlt:k<l.length
  ·
   obtain ⟨t,ht⟩:=qad hlt;obtain ⟨b,o,rfl,p,hC,hR⟩:=HL.out.2.2 k t ht;obtain ⟨c0,c1,c2,c3⟩:=hC;have d0:=held c0 wr hwr;have d1:=held c1 wr hwr;have d2:=held c2 wr hwr;have d3:=held c3 wr hwr;have hbl:b<wr.heap.size:=World.block_lt_of_cell? wr _ d0;have hml:=HM.out t (List.mem_of_getElem? ht);have HI:=Hd (fun W (hW:Below w.heap.size w W)=>hR.1.ext (xbw hW));have ht2:=Hd ht;have hzl:=hz.lt;obtain ⟨wo,rfl⟩:∃ wo:World,wo=wr:=⟨_,rfl⟩
   obtain ⟨go,rfl⟩:∃ n,n=gk:=⟨_,rfl⟩
   clear c0 c1 c2 c3 hR ht;go_wp2;refine qak (fun W=>Blk W g0 143 (seenC fun v=>seenB (l.take k) v||seenT t.mono 0 v)/\Below w.heap.size w W) ⟨by rw [qfg (S':=seenB (l.take k)) (fun v=>by simp [seenT])];exact hz.alloc _,hwr.alloc hwr.size _⟩ ?_;rintro w1 ⟨hz1,hw1⟩;clear hz hwr d0 d1 d2 d3 hbl hzl
   go_loopg [6,7,20] t.mono.length (fun n _ _ s20 w3=>∃ j:Nat,Hid (j+n=t.mono.length)/\s20=.int .i64 j/\Blk w3 g0 143 (seenC fun v=>seenB (l.take k) v||seenT t.mono j v)/\Below w.heap.size w w3)
   case atStart=>exact ⟨0,by show _=_;omega,rfl,hz1,hw1⟩
   case round =>
    clear hz1 hw1;obtain ⟨j,hj,rfl,hz,hwr⟩:=hrel;by_cases hjt:j<t.mono.length
    ·
     obtain ⟨x,hx⟩:=qad hjt;obtain ⟨bm,om,hpa,hcx,hxw⟩:=(HI.out wr hwr).2.2 j x hx;simp only [Nat.mul_one] at hcx;have hj64:(j:Int)<64:=by omega
     have hj64n:j<64:=by omega
     have hsu:=Hd (fun v=>que hx v);have hzc:=hz.cell j;have hzf:=hz.frozen j;rw [qgt _ _ hj64n] at hzc;have HZ:=Hd hz;clear hxw hx hz;by_cases hx0:x=0
     ·
      have hx1:(x != 0)=false:=by simp [hx0]
      have hS:Blk wr g0 143 (seenC fun v=>seenB (l.take k) v||seenT t.mono (j+1) v):=by
       rw [qfg (S':=fun v=>seenB (l.take k) v||seenT t.mono j v) (fun v=>by rw [hsu.out v,if_pos hx0])];exact HZ.out
      replace hS:=Hd hS;clear hx0 HZ;go_wp2;go_roundg (gk-1)
      case rel=>exact ⟨j+1,by have:=hj.out;show _=_;omega,by go_num,hS.out,hwr⟩
      case measure=>have:=hj.out;omega
     ·
      have hx1:(x != 0)=true:=by simp [hx0]
      have hS:=(HZ.out.set_ j (.bool true))
      rw [qw2] at hS;rw [qfg (S':=fun v=>seenB (l.take k) v||seenT t.mono (j+1) v) (fun v=>by rw [hsu.out v,if_neg hx0];cases decide (v=j) <;> simp)] at hS;replace hS:=Hd hS;clear hx0;go_wp2;go_roundg (gk-1)
      case rel=>exact ⟨j+1,by have:=hj.out;show _=_;omega,by go_num,hS.out,hwr.setCell (by simpa using hgw) _⟩
      case measure=>have:=hj.out;omega
    ·
     have hjl:j=t.mono.length:=by have:=hj.out;omega
     subst hjl;have hS:Blk wr g0 143 (seenC (seenB (l.take (k+1)))):=by
      rw [qfg (S':=fun v=>seenB (l.take k) v||seenT t.mono t.mono.length v) (fun v=>by rw [qvd ht2.out,qx3])];exact hz
     replace hS:=Hd hS;clear hz;go_wp2;go_roundg (go-1)
     case rel=>exact ⟨k+1,by have:=hk.out;show _=_;omega,by go_num,hS.out,hwr⟩
     case measure=>have:=hk.out;omega
  ·
   have hkl:k=l.length:=by have:=hk.out;omega
   subst hkl;rw [List.take_length] at hz;have HZ:=Hd hz;obtain ⟨wo,rfl⟩:∃ wo:World,wo=wr:=⟨_,rfl⟩
   clear hz;go_wp2_with (refine wpList_load_row rfl 143 _ rfl g0 rfl 143 _ (0,0) _ HZ.out Tryz.underlying143 rfl (by rw [qf0];kernel_rfl) ?_)
   go_loopg [8,9,10,36] 64 (fun n s8 _ _ s36 w3=>∃ (i:Nat) (a2:Option Addr) (c2:Nat),Hid (i+n=64)/\s36=.int .i64 i/\s8=.slice a2 (varsI l i).length c2/\OwnI w.heap.size w3 a2 c2 (varsI l i)/\Below w.heap.size w w3)
   case atStart=>exact ⟨0,none,0,by show _=_;omega,rfl,rfl,Own.nil,hwr⟩
   case round =>
    clear hwr HZ;obtain ⟨i,a2,c2,hi,rfl,rfl,hO,hwr⟩:=hrel;have HO:=Hd hO;have hin:=qos l i;by_cases hi64:i<64
    ·
     have hidx:=qu1 wr (seenB l) i hi64;have hii:(i:Int)<64:=by omega
     have hsu:=qmq l i;have hsz:=qf0 (seenB l)
     cases hsb:seenB l i
     ·
      rw [hsb] at hidx hsu;have hs2:=Hd hsu;clear hsb hsu hO;have hi2:varsI l (i+1)=varsI l i:=by rw [hs2.out];rfl
      replace hi2:=Hd hi2;go_wp2;go_roundg (gk-1)
      case rel=>exact ⟨i+1,a2,c2,by have:=hi.out;show _=_;omega,by go_num,by rw [hi2.out],by rw [hi2.out];exact HO.out,hwr⟩
      case measure=>have:=hi.out;omega
     ·
      rw [hsb] at hidx hsu;have hs2:=Hd hsu;clear hsb hsu hO;have hi2:varsI l (i+1)=varsI l i++[(i:Int)]:=by rw [hs2.out];rfl
      replace hi2:=Hd hi2;have HLE:Hid ((varsI l i++[(i:Int)]).length<=16777216):=Hd (by rw [List.length_append];simp;omega);go_wp2_with (at_builtin;go_must (refine qe2 rfl (.tmp 41) (.tmp 43) rfl a2 c2 rfl (HO.out.alloc _) (i:Int) wr.heap.size 1 rfl (by simp) (varsI l i++[(i:Int)]) rfl HLE.out (by have:=hwr.size;simp;omega) ?_);intro a3 c3 w4 ho3 hg3 hx3);have hw4:=qav (hwr.alloc hwr.size _) (HO.out.alloc _) hg3;replace ho3:=Hd ho3;replace hw4:=Hd hw4;clear hx3 hg3 HO;go_roundg (gk-1)
      case rel=>exact ⟨i+1,a3,c3,by have:=hi.out;show _=_;omega,by go_num,by rw [hi2.out,List.length_append];rfl,by rw [hi2.out];exact ho3.out,hw4.out⟩
      case measure=>have:=hi.out;omega
    ·
     have hi6:i=64:=by have:=hi.out;omega
     subst hi6;have HR:=Hd (hO.reads1 fun s hs=>by have:=qqi l 64 s hs;exact ⟨by omega,by omega⟩);clear hO HO;go_wp2;go_ret;exact ⟨a2,c2,rfl,HR.out,hwr⟩
def Itr (w:World) (g:Nat) (s:ByteArray) (pos:Nat):Prop:=w.heap[g]? = some (.stringIter s pos)
def qc5 (w:World) (g:Nat) (s:ByteArray) (pos:Nat):World:={ w with heap:=w.heap.setIfInBounds g (.stringIter s pos) }
theorem qrh {P:Program} (w:World) (g:Nat) (s:ByteArray) (pos:Nat) (ty:TypeId) (hi:Itr w g s pos) (h:pos<s.size) (ha:(s[pos]'h).toNat<128) :
  (Instr.next (.pointer (some ⟨g,0,none⟩)) true ty).run P w=.ok (.tuple #[.bool true,.int .i64 pos,.int .i32 (s[pos]'h).toNat]) (qc5 w g s (pos+1)):=by
 unfold Itr at hi;simp only [Instr.next,getObj,setObj,Sem.run_bind,Sem.run,hi,Result.andThen,h,if_true,decode_ascii s pos h ha];simp [goInt,qc5]
theorem qpj {P:Program} (w:World) (g:Nat) (s:ByteArray) (pos:Nat) (ty:TypeId) (hi:Itr w g s pos) (h:¬ pos<s.size) :
  (Instr.next (.pointer (some ⟨g,0,none⟩)) true ty).run P w=.ok (.tuple #[.bool false]) w:=by
 unfold Itr at hi;simp [Instr.next,getObj,Sem.run,hi,h]
theorem Itr.lt {w:World} {g:Nat} {s:ByteArray} {pos:Nat} (h:Itr w g s pos):g<w.heap.size:=(Array.getElem?_eq_some_iff.1 h).1
theorem Itr.set {w:World} {g:Nat} {s:ByteArray} {pos:Nat} (h:Itr w g s pos) (pos':Nat):Itr (qc5 w g s pos') g s pos':=by
 unfold Itr qc5;simp [h.lt]
theorem qsh (w:World) (g:Nat) (s:ByteArray) (pos:Nat):(qc5 w g s pos).heap.size=w.heap.size:=by simp [qc5]
theorem qtl (w:World) (g:Nat) (s:ByteArray) (pos:Nat) (k:Nat) (hk:k≠g):(qc5 w g s pos).heap[k]? = w.heap[k]?:=by
 simp [qc5,Ne.symm hk]
theorem qrd {B:Nat} {a w:World} (h:Below B a w) {g:Nat} (hg:B<=g) (s:ByteArray) (pos:Nat):Below B a (qc5 w g s pos) :=
 h.trans ⟨rfl,rfl,rfl,by rw [qsh];exact nlr _,fun k hk=>qtl _ _ _ _ _ (by omega)⟩
theorem qfq {s:ByteArray}:s.size=0↔s=⟨#[]⟩:=by
 constructor
 ·
  intro h
  cases s with
  | mk d=>congr 1;exact Array.eq_empty_of_size_eq_zero h
 · intro h;subst h;rfl
theorem qda {s:ByteArray} {k:Nat} (h:k<s.size):s.data.toList[k]? = some (s[k]'h):=by simp [h];rfl
def letV (c:Int):Bool:=decide (97<=c/\c<=122\/65<=c/\c<=90\/c=95\/c=46\/c=36)
def digV (c:Int):Bool:=decide (48<=c/\c<=57)
def wordV (c:UInt8):Bool:=letV c.toNat||digV c.toNat
def nameV:List UInt8->Bool
 | []=>false
 | c :: r=>letV c.toNat&&r.all wordV
theorem qff (c:Int) (w:World):Calls Tryz.prog 140 #[.int .u8 c] w fun e w'=>e=.returned (.bool (letV c))/\w=w':=by
 go_enter Tryz.func140,Tryz.ntmps140;by_cases h1:97<=c <;> by_cases h2:c<=122 <;> by_cases h3:65<=c <;> by_cases h4:c<=90
 all_goals
  first
  | (exfalso;omega)
  | (go_wp2 <;> (go_ret;exact ⟨qbg (by unfold letV;rw [Bool.eq_iff_iff];(try simp_all) <;> omega),rfl⟩))
theorem qhy (c:Int) (w:World):Calls Tryz.prog 167 #[.int .u8 c] w fun e w'=>e=.returned (.bool (letV c))/\w=w':=by
 go_enter Tryz.func167,Tryz.ntmps167;by_cases h1:97<=c <;> by_cases h2:c<=122 <;> by_cases h3:65<=c <;> by_cases h4:c<=90
 all_goals
  first
  | (exfalso;omega)
  | (go_wp2 <;> (go_ret;exact ⟨qbg (by unfold letV;rw [Bool.eq_iff_iff];(try simp_all) <;> omega),rfl⟩))
theorem qcr (c:Int) (w:World):Calls Tryz.prog 139 #[.int .u8 c] w fun e w'=>e=.returned (.bool (digV c))/\w=w':=by
 go_enter Tryz.func139,Tryz.ntmps139;by_cases h1:48<=c <;> by_cases h2:c<=57
 all_goals (go_wp2 <;> (go_ret;exact ⟨qbg (by unfold digV;rw [Bool.eq_iff_iff];(try simp_all) <;> omega),rfl⟩))
theorem qdx (c:Int) (w:World):Calls Tryz.prog 118 #[.int .u8 c] w fun e w'=>e=.returned (.bool (digV c))/\w=w':=by
 go_enter Tryz.func118,Tryz.ntmps118;by_cases h1:48<=c <;> by_cases h2:c<=57
 all_goals (go_wp2 <;> (go_ret;exact ⟨qbg (by unfold digV;rw [Bool.eq_iff_iff];(try simp_all) <;> omega),rfl⟩))
end Go.Proofs.YtnilkimcdgmgkaaGreatDoor
