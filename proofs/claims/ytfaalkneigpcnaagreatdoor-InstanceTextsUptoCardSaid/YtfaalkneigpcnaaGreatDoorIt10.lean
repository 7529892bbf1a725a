/- Walks: vectors and points by the program: from, plus, times, dot, square. (Printed by ptw.py.) -/
import Derived.Test.YtfaalkneigpcnaaGreatDoorIt9
import Derived.Test.YtfaalkneigpcnaaGreatDoorIt1
import Derived.Test.YtfaalkneigpcnaaGreatDoorRows
import Derived.Deep.QuietTactic
import Derived.BigQuiet
import Derived.Deep.Upon
import Derived.Test.YtfaalkneigpcnaaGreatDoorIt8
import Derived.Test.YtfaalkneigpcnaaGreatDoorIt6
import Derived.Test.YtfaalkneigpcnaaGreatDoorIt3
set_option linter.all false
set_option maxRecDepth 100000
set_option maxHeartbeats 4000000
namespace Go.Proofs.YtfaalkneigpcnaaGreatDoor
open Go.RowKit
theorem qmr {neg:Bool} {num den:List Int} (hI:qcm neg num=true) (hc:qcf den=true) (h0:0<den.length) (h1:decide (den.length=1/\qae den 0=1)=true):Rt.right ⟨neg,num,den⟩=true:=by
 rw [decide_eq_true_eq] at h1;obtain ⟨h1,h2⟩:=h1
 match den,h1 with
 | [x],_ =>
  simp [qae] at h2;subst h2;simp [Rt.right,hI,hc,val]
theorem qmm {neg:Bool} {num den:List Int} (hI:qcm neg num=true) (hc:qcf den=true) (h0:0<den.length):Rt.right ⟨neg,num,den⟩=decide (Nat.gcd (val num) (val den)=1):=by
 simp [Rt.right,hI,hc,h0]
theorem zz25 {P:Prop} (h:P:=by
 go_enter Tryz.func160,Tryz.ntmps160;go_wp2_with fail;refine (CR.out _ hw0).mono ?_;rintro e w1 ⟨rfl,hb⟩;have hw1:=bth hw0 hb;go_wp2;go_ret;exact ⟨rfl,hw1⟩
 ):P:=h
theorem qik (r:Rt) (na:Option Addr) (nc:Nat) (da:Option Addr) (dc:Nat) (w:World) (h:NatR w na nc r.num) (h':NatR w da dc r.den) (hl:r.num.length<=2000000) (hm:r.den.length<=2000000) :
  Calls Tryz.prog 160 #[r.val na nc da dc] w fun e w'=>e=.returned (.bool r.right)/\Below w.heap.size w w':=by
 obtain ⟨neg,num,den⟩:=r;have CR:=fun W (hW:Below w.heap.size w W)=>qpw neg num na nc W (h.ext (xbw hW))
 have CO:=fun W (hW:Below w.heap.size w W)=>qdb den da dc W (h'.ext (xbw hW))
 have CG:=fun W (hW:Below w.heap.size w W)=>qjl num den (val num) (val den) na da nc dc W (h.ext (xbw hW)) (h'.ext (xbw hW)) rfl rfl hl hm
 have CO2:=fun n a c W=>qdb (limbs n) a c W
 simp only [qcp] at CO2;unfold Rt.val;dsimp only;dsimp only at hl hm;obtain ⟨res,hres⟩:∃ q,Rt.right ⟨neg,num,den⟩=q:=⟨_,rfl⟩
 rw [hres];obtain ⟨b1,hb1⟩:∃ b,qcm neg num=b:=⟨_,rfl⟩
 rw [hb1] at CR;replace CR:=Hd CR;replace CO:=Hd CO;replace CG:=Hd CG;replace CO2:=Hd CO2;have hw0:Below w.heap.size w (w.alloc (.cells #[.bool neg,.slice na num.length nc,.slice da den.length dc] 51)):=brf.alloc (nlr _) _;have hz:Blk (w.alloc (.cells #[.bool neg,.slice na num.length nc,.slice da den.length dc] 51)) w.heap.size 51 #[.bool neg,.slice na num.length nc,.slice da den.length dc]:=Blk.new w _ _
 cases b1
 ·
  have hr:res=false:=by rw [<- hres];simp [Rt.right,hb1]
  subst hr;clear hres hb1 h h' hz;exact zz25
 ·
  by_cases h0:den.length=0
  ·
   have hr:res=false:=by rw [<- hres];simp [Rt.right,h0]
   subst hr;obtain rfl:den=[]:=List.length_eq_zero_iff.1 h0;clear hres hb1 h h' hz h0;exact zz25
  ·
   obtain ⟨x,hx⟩:=qac (xs:=den) (k:=den.length-1) (by omega);obtain ⟨b,off,rfl,hc⟩:=h'.cell hx;have hcan:=qfh (l:=den) h'.u16 hx (by omega);have hk:=held hc;have hi1:(0:Int)<=(den.length:Int)-1:=by omega
   have hti:((den.length:Int)-1).toNat=den.length-1:=by omega
   have hdl:(den.length:Int)<=2000000:=by omega
   have he:((den.length:Int)==0)=false:=by rw [beq_eq_false_iff_ne];omega
   by_cases hx0:x=0
   ·
    subst hx0;have hr:res=false:=by rw [<- hres];simp [Rt.right,hcan]
    subst hr;clear hres hb1 h h' hx hc hcan h0;go_enter Tryz.func160,Tryz.ntmps160;go_wp2_with fail;revert hw0 hz;generalize w.alloc (.cells #[.bool neg,.slice na num.length nc,.slice (some ⟨b,off,none⟩) den.length dc] 51)=w0;intro hw0 hz;refine (CR.out _ hw0).mono ?_;rintro e w1 ⟨rfl,hb⟩;have hw1:=bth hw0 hb;have hz1:=hz.below' hb;have z1:=hz1.cell 1;have z2:=hz1.cell 2;have z0:=hz1.cell 0;have k1:=hk _ hw1;clear hb hz hw0;go_wp2;go_ret;exact ⟨rfl,hw1⟩
   ·
    have hxb:(x==0)=false:=by simpa using hx0
    have hcan2:qcf den=true:=by rw [hcan,hxb];rfl
    obtain ⟨bo,hbo⟩:∃ q,decide (den.length=1/\qae den 0=1)=q:=⟨_,rfl⟩
    rw [hbo] at CO;have HRES:=Hd hres;have HB1:=Hd hb1;have HC:=Hd hcan2;have HBO:=Hd hbo;have H0:=Hd h0;clear hres hb1 h h' hx hc hcan hcan2 hbo h0 hx0
    cases bo
    ·
     obtain ⟨g,hg⟩:∃ g,Nat.gcd (val num) (val den)=g:=⟨_,rfl⟩
     have hr:decide (g=1)=res:=by rw [<- HRES.out,qmm HB1.out HC.out (by have:=H0.out;omega)];simp only [hg]
     rw [hg] at CG;have CO3:=CO2.out g;rw [hr] at CO3;replace CO3:=Hd CO3;clear hg hr CO2;go_enter Tryz.func160,Tryz.ntmps160;go_wp2_with fail;revert hw0 hz;generalize w.alloc (.cells #[.bool neg,.slice na num.length nc,.slice (some ⟨b,off,none⟩) den.length dc] 51)=w0;intro hw0 hz;refine (CR.out _ hw0).mono ?_;rintro e w1 ⟨rfl,hb⟩;have hw1:=bth hw0 hb;have hz1:=hz.below' hb;have z1:=hz1.cell 1;have z2:=hz1.cell 2;have z0:=hz1.cell 0;have k1:=hk _ hw1;clear hb hz hw0;go_wp2_with fail;refine (CO.out _ hw1).mono ?_;rintro e w2 ⟨rfl,hb⟩;have hw2:=bth hw1 hb;have hz2:=hz1.below' hb;have y1:=hz2.cell 1;have y2:=hz2.cell 2;have y0:=hz2.cell 0;clear hb hz1 hw1 z0 z1 z2 k1;go_wp2_with fail;refine (CG.out _ hw2).mono ?_;rintro e w3 ⟨a3,c3,rfl,hV,hb⟩;have hw3:=bth hw2 hb;have hrd:=hV w3 (New.refl _ _);clear hb hV y0 y1 y2;go_wp2_with fail;refine (CO3.out _ _ _ hrd).mono ?_;rintro e w4 ⟨rfl,hb⟩
     have hw4:=bth hw3 hb;clear hrd hb;go_wp2;go_ret;exact ⟨rfl,hw4⟩
    ·
     have hr:res=true:=by rw [<- HRES.out];exact qmr HB1.out HC.out (by have:=H0.out;omega) HBO.out
     subst hr;go_enter Tryz.func160,Tryz.ntmps160;go_wp2_with fail;revert hw0 hz;generalize w.alloc (.cells #[.bool neg,.slice na num.length nc,.slice (some ⟨b,off,none⟩) den.length dc] 51)=w0;intro hw0 hz;refine (CR.out _ hw0).mono ?_;rintro e w1 ⟨rfl,hb⟩;have hw1:=bth hw0 hb;have hz1:=hz.below' hb;have z1:=hz1.cell 1;have z2:=hz1.cell 2;have z0:=hz1.cell 0;have k1:=hk _ hw1;clear hb hz hw0;go_wp2_with fail;refine (CO.out _ hw1).mono ?_;rintro e w2 ⟨rfl,hb⟩;have hw2:=bth hw1 hb;go_wp2;go_ret;exact ⟨rfl,hw2⟩
theorem qu1 (s t:Trm) (p q:RA) (w:World) (h:IntsR w p.aa p.ac s.mono) (h':IntsR w q.aa q.ac t.mono) :
  Calls Tryz.prog 169 #[s.val p,t.val q] w fun e w'=>e=.returned (.int .i64 (lexI s.mono t.mono))/\Below w.heap.size w w':=by
 have CC:=fun W (hW:Below w.heap.size w W)=>qsx s.mono t.mono p.aa q.aa p.ac q.ac W (h.ext (xbw hW)) (h'.ext (xbw hW))
 revert CC;generalize lexI s.mono t.mono=R;intro CC;replace CC:=Hd CC;unfold Trm.val;have hx:Blk ((w.alloc (.cells #[.bool s.coef.neg,.slice p.na s.coef.num.length p.nc,.slice p.da s.coef.den.length p.dc,.slice p.aa s.mono.length p.ac] 191)).alloc (.cells #[.bool t.coef.neg,.slice q.na t.coef.num.length q.nc,.slice q.da t.coef.den.length q.dc,.slice q.aa t.mono.length q.ac] 191)) w.heap.size 191 #[.bool s.coef.neg,.slice p.na s.coef.num.length p.nc,.slice p.da s.coef.den.length p.dc,.slice p.aa s.mono.length p.ac]:=(Blk.new w _ _).alloc _
 have hy:Blk ((w.alloc (.cells #[.bool s.coef.neg,.slice p.na s.coef.num.length p.nc,.slice p.da s.coef.den.length p.dc,.slice p.aa s.mono.length p.ac] 191)).alloc (.cells #[.bool t.coef.neg,.slice q.na t.coef.num.length q.nc,.slice q.da t.coef.den.length q.dc,.slice q.aa t.mono.length q.ac] 191)) (w.heap.size+1) 191 #[.bool t.coef.neg,.slice q.na t.coef.num.length q.nc,.slice q.da t.coef.den.length q.dc,.slice q.aa t.mono.length q.ac]:=qa5 w _ _ _;have hb0:Below w.heap.size w ((w.alloc (.cells #[.bool s.coef.neg,.slice p.na s.coef.num.length p.nc,.slice p.da s.coef.den.length p.dc,.slice p.aa s.mono.length p.ac] 191)).alloc (.cells #[.bool t.coef.neg,.slice q.na t.coef.num.length q.nc,.slice q.da t.coef.den.length q.dc,.slice q.aa t.mono.length q.ac] 191)):=by go_grown
 clear h h';go_enter Tryz.func169,Tryz.ntmps169;go_wp2_with fail;revert hx hy hb0;generalize (w.alloc (.cells #[.bool s.coef.neg,.slice p.na s.coef.num.length p.nc,.slice p.da s.coef.den.length p.dc,.slice p.aa s.mono.length p.ac] 191)).alloc (.cells #[.bool t.coef.neg,.slice q.na t.coef.num.length q.nc,.slice q.da t.coef.den.length q.dc,.slice q.aa t.mono.length q.ac] 191)=w0;intro hx hy hb0;have z3:=hx.cell 3;have y3:=hy.cell 3;go_wp2_with fail;refine (CC.out _ hb0).mono ?_;rintro e w1 ⟨rfl,rfl⟩;go_wp2;go_ret;exact ⟨rfl,hb0⟩
def strC (s:ByteArray):List Value:=[.string s]
def intC (x:Int):List Value:=[.int .i64 x]
theorem qht (s:ByteArray):(strC s).length=1:=rfl
theorem qf2 (s:Int):(intC s).length=1:=rfl
theorem qt2 (s:ByteArray):∀ u∈strC s,u.oneCell'=true:=by simp [strC,Value.oneCell']
theorem qs4 (s:Int):∀ u∈intC s,u.oneCell'=true:=by simp [intC,Value.oneCell']
theorem qqp {w:World} {b:Nat} {s:ByteArray} (h:w.cell? ⟨b,0,none⟩=some (.string s)):∀ j u,(strC s)[j]? = some u->w.cell? ⟨b,j,none⟩=some u:=by
 intro j u hu
 match j,hu with
 | 0,hu=>simp [strC] at hu;subst hu;exact h
theorem qsb {w:World} {b:Nat} {s:Int} (h:w.cell? ⟨b,0,none⟩=some (.int .i64 s)):∀ j u,(intC s)[j]? = some u->w.cell? ⟨b,j,none⟩=some u:=by
 intro j u hu
 match j,hu with
 | 0,hu=>simp [intC] at hu;subst hu;exact h
abbrev OwnS (B:Nat) (w:World) (a:Option Addr) (c:Nat) (l:List ByteArray):Prop:=Own strC 1 9 B w a c l
abbrev OwnI (B:Nat) (w:World) (a:Option Addr) (c:Nat) (l:List Int):Prop:=Own intC 1 3 B w a c l
theorem infoS:(Tryz.prog.info? 9).map (fun i=>(i.zero,i.size,i.bytes))=some (some (.string ⟨#[]⟩),1,16):=by kernel_rfl
theorem infoI:(Tryz.prog.info? 3).map (fun i=>(i.zero,i.size,i.bytes))=some (some (.int .i64 0),1,8):=by kernel_rfl
section
variable {B : Nat} {w : World} {a : Option Addr} {c : Nat}
end
theorem qei {B:Nat} {w:World} {l:List ByteArray} {ops:Array Oper} {rest:List Oper} {o:Oper} {act:Act} {Q:Exit->Act->World->Prop} (hgd:o.guard=none) (s y:Operand)
  (ho:o.op=.call { callee:=.builtin .append,args:=#[s,y],argTypes:=#[76,76] })
  (a:Option Addr) (c:Nat) (hs:act.eval s=.slice a l.length c) (hown:OwnS B w a c l)
  (x:ByteArray) (b c1:Nat) (hy:act.eval y=.slice (some ⟨b,0,none⟩) 1 c1) (hcell:w.cell? ⟨b,0,none⟩=some (.string x))
  (l2:List ByteArray) (hl2:l2=l++[x]) (hlen:l2.length<=16777216) (hB:B<=w.heap.size)
  (h:∀ a' c' w',OwnS B w' a' c' l2->w.grownBy w' (Value.ownBlock (.slice a l.length c))->((∃ g,a'=some ⟨g,0,none⟩/\(a=some ⟨g,0,none⟩\/g=w.heap.size))) ->
   wpList Tryz.prog ops Q rest (act.put o.dst (.slice a' l2.length c')) w'):wpList Tryz.prog ops Q (o :: rest) act w :=
 qa7 hgd s y 76 ho Tryz.underlying76 infoS rfl (by omega) (by omega) qht a c hs hown x (qt2 x) b c1 hy (qqp hcell) l2 hl2 hlen hB h
theorem qfy {B:Nat} {w:World} {l:List Int} {ops:Array Oper} {rest:List Oper} {o:Oper} {act:Act} {Q:Exit->Act->World->Prop} (hgd:o.guard=none) (s y:Operand)
  (ho:o.op=.call { callee:=.builtin .append,args:=#[s,y],argTypes:=#[45,45] })
  (a:Option Addr) (c:Nat) (hs:act.eval s=.slice a l.length c) (hown:OwnI B w a c l)
  (x:Int) (b c1:Nat) (hy:act.eval y=.slice (some ⟨b,0,none⟩) 1 c1) (hcell:w.cell? ⟨b,0,none⟩=some (.int .i64 x))
  (l2:List Int) (hl2:l2=l++[x]) (hlen:l2.length<=16777216) (hB:B<=w.heap.size)
  (h:∀ a' c' w',OwnI B w' a' c' l2->w.grownBy w' (Value.ownBlock (.slice a l.length c))->((∃ g,a'=some ⟨g,0,none⟩/\(a=some ⟨g,0,none⟩\/g=w.heap.size))) ->
   wpList Tryz.prog ops Q rest (act.put o.dst (.slice a' l2.length c')) w'):wpList Tryz.prog ops Q (o :: rest) act w :=
 qa7 hgd s y 45 ho Tryz.underlying45 infoI rfl (by omega) (by omega) qf2 a c hs hown x (qs4 x) b c1 hy (qsb hcell) l2 hl2 hlen hB h
section
variable {α : Type} {f : α -> List Value} {sz : Nat} {t : TypeId} {B : Nat} {w : World} {l : List α} {P : Program}
theorem qno {o:Oper} {act:Act} {K:Act->World->Prop} {Q:Exit->Act->World->Prop} (s y:Operand) (ts:TypeId)
  (ho:o.op=.call { callee:=.builtin .append,args:=#[s,y],argTypes:=#[ts,ts] })
  {z:Value} {bytes:Nat} (ht:P.underlying ts=some (.slice t)) (hi:(P.info? t).map (fun i=>(i.zero,i.size,i.bytes))=some (some z,sz,bytes)) (hz:z.cells.size=sz) (hsz:0<sz) (hby:bytes<=1024)
  (hf:∀ x,(f x).length=sz) (a:Option Addr) (c:Nat) (hs:act.eval s=.slice a l.length c) (hown:Own f sz t B w a c l)
  (m:List α) (hm:m≠[]) (hone:∀ u∈m.flatMap f,u.oneCell'=true) (p:Addr) (c1:Nat) (hy:act.eval y=.slice (some p) m.length c1) (hcell:∀ j u,(m.flatMap f)[j]? = some u->w.cell? (p.add j)=some u)
  (l2:List α) (hl2:l2=l++m) (hlen:l2.length<=16777216) (hB:B<=w.heap.size)
  (h:∀ a' c' w',Own f sz t B w' a' c' l2->w.grownBy w' (Value.ownBlock (.slice a l.length c))->((∃ g,a'=some ⟨g,0,none⟩/\(a=some ⟨g,0,none⟩\/g=w.heap.size))) ->
   K (act.put o.dst (.slice a' l2.length c')) w'):o.wp P act w K Q:=by
 subst hl2;obtain ⟨i,hi0,hz0,hz1,hz2⟩:=info_parts hi;simp only [List.length_append] at hlen;have hml:0<m.length:=List.length_pos_iff.2 hm;have hfl:(m.flatMap f).length=m.length*sz:=by
  clear hone hcell hm hy hlen hml h
  induction m with
  | nil=>simp
  | cons x m ih=>simp only [List.flatMap_cons,List.length_append,List.length_cons,ih,hf,Nat.add_mul];omega
 obtain ⟨v',w',hr,h2,h3,_,h5⟩:=run_append_own_at (P:=P) w B ts o.type t i z sz bytes ht hi0 hz0 hz1 hz2 hz hsz (.slice a l.length c) l.length (l.flatMap f) hown p m.length c1 (m.flatMap f) hfl
  hcell hone (by unfold maxLen;omega)
  (by have : (l.length + m.length) * bytes <= 16777216 * 1024 := Nat.mul_le_mul hlen hby
      omega) hB
 unfold Oper.wp execOp;simp only [ho,resolve,invoke,builtin,Sem.run_bind,Sem.run_pure,Result.andThen_ok,List.map_toArray,List.map_cons,List.map_nil,hs,hy,hr];have hf2:(l++m).flatMap f=l.flatMap f++m.flatMap f:=by simp
 have hn:(l++m).length=l.length+m.length:=by simp
 obtain ⟨g,cap,hv,hb,hlt⟩:=h2.form (by omega);subst hv;rw [<- hn];refine h _ _ w' (by unfold Own;rw [hf2,hn];exact h2) h3 ⟨g,rfl,?_⟩;rcases h5 with h5 | h5
 ·
  left
  cases a with
  | none=>simp [Value.ownBlock] at h5
  | some g' =>
   have hg':g=g'.block:=by simpa [Value.ownBlock] using h5
   rcases hown.2 with ⟨e,_⟩ | ⟨g2,_,_,e,_⟩
   · cases e
   ·
    injection e with e1
    injection e1 with e1
    subst e1;simp at hg';rw [hg']
 ·
  right;simpa [Value.ownBlock] using h5
theorem qmx {o:Oper} {act:Act} {K:Act->World->Prop} {Q:Exit->Act->World->Prop} (s y:Operand) (ts:TypeId)
  (ho:o.op=.call { callee:=.builtin .append,args:=#[s,y],argTypes:=#[ts,ts] })
  (ht:P.underlying ts=some (.slice t)) {i:TypeInfo} (hi:P.info? t=some i)
  (a:Option Addr) (n c:Nat) (hnc:n<=c) (hs:act.eval s=.slice a n c) (b:Option Addr) (c1:Nat) (hy:act.eval y=.slice b 0 c1)
  (h:K (act.put o.dst (.slice a n c)) w):o.wp P act w K Q:=by
 have hsrc:Src P i.size ts (.slice b 0 c1) 0 [] w:=by
  cases b with
  | none=>exact Src.ofNil w ht c1
  | some p=>exact Src.ofSlice w ht p 0 c1 [] (by simp) (fun j u hu=>by simp at hu) (fun u hu=>by cases hu)
 have hr:=run_append_nothing (P:=P) w ts ts o.type t i ht hi a n c hnc _ hsrc;unfold Oper.wp execOp;simp only [ho,resolve,invoke,builtin,Sem.run_bind,Sem.run_pure,Result.andThen_ok,List.map_toArray,List.map_cons,List.map_nil,hs,hy,hr];exact h
end
def FineT (u:Tm):Prop:=Mok 1048576 u.2/\u.1≠0/\qsz u.1<=1000
def FineP (p:List Tm):Prop:=p.length<=100000/\∀ u∈p,FineT u
structure TQ where
 x:QA
 n:Nat
 a:Option Addr
 c:Nat
def TQ.cs (t:TQ):List Value:=[.bool t.x.neg,.slice t.x.a t.x.n t.x.c,.slice t.x.b t.x.m t.x.d,.slice t.a t.n t.c]
theorem TQ.cs_len (t:TQ):t.cs.length=4:=rfl
theorem TQ.cs_one (t:TQ):∀ u∈t.cs,u.oneCell'=true:=by simp [TQ.cs,Value.oneCell']
def TQ.R (t:TQ) (u:Tm) (V:World):Prop:=QAc V t.x u.1/\IntsR V t.a t.c u.2/\t.n=u.2.length
theorem TQ.R.qk {t:TQ} {u:Tm} {V:World} (h:t.R u V) (hf:FineT u):QK 1000 V t.x u.1:=⟨h.1,hf.2.2⟩
def TQ.At (t:TQ) (V:World) (b o:Nat):Prop:=V.cell? ⟨b,o,none⟩=some (.bool t.x.neg)/\V.cell? ⟨b,o+1,none⟩=some (.slice t.x.a t.x.n t.x.c)/\V.cell? ⟨b,o+2,none⟩=some (.slice t.x.b t.x.m t.x.d)/\V.cell? ⟨b,o+3,none⟩=some (.slice t.a t.n t.c)
theorem TQ.at_of {t:TQ} {V:World} {b o:Nat} (h:∀ j v,t.cs[j]? = some v->V.cell? ⟨b,o+j,none⟩=some v):t.At V b o:=⟨by simpa using h 0 _ rfl,h 1 _ rfl,h 2 _ rfl,h 3 _ rfl⟩
theorem TQ.At.cs {t:TQ} {V:World} {b o:Nat} (h:t.At V b o):∀ j v,t.cs[j]? = some v->V.cell? ⟨b,o+j,none⟩=some v:=fun j v hj=>by
 match j,hj with
 | 0,hj=>simp [TQ.cs] at hj;subst hj;exact h.1
 | 1,hj=>simp [TQ.cs] at hj;subst hj;exact h.2.1
 | 2,hj=>simp [TQ.cs] at hj;subst hj;exact h.2.2.1
 | 3,hj=>simp [TQ.cs] at hj;subst hj;exact h.2.2.2
 | j+4,hj=>simp [TQ.cs] at hj
def AllT (X:Nat->Prop) (w:World) (l:List TQ) (p:List Tm):Prop:=l.length=p.length/\∀ (k:Nat) (t:TQ) (u:Tm),l[k]? = some t->p[k]? = some u->Rd X w (t.R u)
def RowT (a:Option Addr) (c:Nat) (l:List TQ) (V:World):Prop:=SlR 4 (fun V b o (t:TQ)=>t.At V b o) V a c l
def PolX (X:Nat->Prop) (w:World) (a:Option Addr) (c:Nat) (p:List Tm):Prop:=∃ l:List TQ,Rd X w (RowT a c l)/\AllT X w l p
section
variable {X Y : Nat -> Prop} {w w' : World} {a : Option Addr} {c : Nat} {p q : List Tm} {l l' : List TQ}
theorem AllT.nil:AllT X w [] []:=⟨rfl,fun k t u h=>by simp at h⟩
theorem AllT.map (h:AllT X w l p) (e:∀ t u,Rd X w (TQ.R t u)->Rd Y w' (TQ.R t u)):AllT Y w' l p:=⟨h.1,fun k t u h1 h2=>e _ _ (h.2 k t u h1 h2)⟩
theorem AllT.call (h:AllT X w l p) (e:Below w.heap.size w w'):AllT X w' l p:=h.map fun _ _ k=>k.call e
theorem AllT.append (h:AllT X w l p) (k:AllT X w l' q):AllT X w (l++l') (p++q):=⟨by rw [List.length_append,List.length_append,h.1,k.1],fun i t u h1 h2=>by
 rcases Nat.lt_or_ge i l.length with e | e
 ·
  rw [List.getElem?_append_left e] at h1;rw [List.getElem?_append_left (by rw [<- h.1];exact e)] at h2;exact h.2 i t u h1 h2
 ·
  rw [List.getElem?_append_right e] at h1;rw [List.getElem?_append_right (by rw [<- h.1];exact e),<- h.1] at h2;exact k.2 _ t u h1 h2⟩
theorem AllT.one {t:TQ} {u:Tm} (h:Rd X w (t.R u)):AllT X w [t] [u]:=⟨rfl,fun k t' u' h1 h2=>by
 cases k with
 | zero=>simp at h1 h2;subst h1 h2;exact h
 | succ k=>simp at h1⟩
theorem AllT.drop (h:AllT X w l p) (n:Nat):AllT X w (l.drop n) (p.drop n):=⟨by simp [h.1],fun k t u h1 h2=>h.2 (n+k) t u (by simpa using h1) (by simpa using h2)⟩
theorem PolX.nil:PolX X w none 0 []:=⟨[],fun _ _=>SlR.nil,AllT.nil⟩
theorem PolX.map (h:PolX X w a c p) (e:∀ R,Rd X w R->Rd Y w' R):PolX Y w' a c p:=by
 obtain ⟨l,h1,h2⟩:=h;exact ⟨l,e _ h1,h2.map fun _ _ k=>e _ k⟩
theorem PolX.step (h:PolX X w a c p) (e:Agr X w w'):PolX X w' a c p:=h.map fun _ k=>k.step e
theorem PolX.call (h:PolX X w a c p) (e:Below w.heap.size w w'):PolX X w' a c p:=h.map fun _ k=>k.call e
theorem PolX.more (h:PolX X w a c p) (e:∀ b,Y b->X b\/w.heap.size<=b):PolX Y w a c p:=h.map fun _ k=>k.more e
theorem PolX.cap (h:PolX X w a c p):p.length<=c/\c<=maxLen:=by
 obtain ⟨l,h1,h2⟩:=h;rw [<- h2.1];exact ⟨h1.now.1,h1.now.2.1⟩
theorem PolX.len (h:PolX X w a c p):p.length<=9223372036854775807:=by have h1:=h.cap;unfold maxLen at h1;omega
theorem PolX.get (h:PolX X w a c p) {k:Nat} {u:Tm} (hk:p[k]? = some u):∃ (b off:Nat) (t:TQ),a=some ⟨b,off,none⟩/\t.At w b (off+k*4)/\Rd X w (t.R u):=by
 obtain ⟨l,h1,h2⟩:=h;obtain ⟨t,ht⟩:=qac (show k<l.length by have:=qaw hk;rw [h2.1];exact this);obtain ⟨b,off,ha,hA⟩:=h1.now.2.2 k t ht;exact ⟨b,off,t,ha,hA,h2.2 k t u ht hk⟩
theorem Rd.kp {R:World->Prop} {B T:Nat} (h:Kp R B T w) (hX:∀ b,X b->b<B\/T<=b):Rd X w R:=fun V hV=>h V fun p v h1 h2 h3=>hV p v (fun hx=>by have:=hX _ hx;omega) h3
end
abbrev OwnT (B:Nat) (w:World) (a:Option Addr) (c:Nat) (l:List TQ):Prop:=Own TQ.cs 4 191 B w a c l
theorem qeu:(Tryz.prog.info? 191).map (fun i=>(i.zero,i.size,i.bytes))=some (some (.agg #[.bool false,.slice none 0 0,.slice none 0 0,.slice none 0 0]),4,80):=by kernel_rfl
def Xr (X:Nat->Prop) (a:Option Addr):Nat->Prop:=fun b=>X b\/∃ g:Addr,a=some g/\b=g.block
section
variable {X : Nat -> Prop} {w w' w'' : World} {B : Nat} {a a' : Option Addr} {c n : Nat} {p : List Tm} {l : List TQ} {R : World -> Prop}
theorem Rd.row (h:Rd X w R) (ha:∀ g,a=some g->w.heap.size<=g.block):Rd (Xr X a) w R:=h.more fun b hb=>by
 rcases hb with hb | ⟨g,hg,rfl⟩
 · exact .inl hb
 · exact .inr (ha g hg)
theorem Rd.app (h:Rd (Xr X a) w R) (hg:w.grownBy w' (Value.ownBlock (.slice a n c))) (ha:∃ g,a'=some ⟨g,0,none⟩/\(a=some ⟨g,0,none⟩\/g=w.heap.size)):Rd (Xr X a') w' R:=by
 obtain ⟨g,rfl,h2⟩:=ha;have h1:Rd (fun b=>Xr X a b\/b=g) w R:=h.more fun b hb=>by
  rcases hb with hb | rfl
  · exact .inl hb
  ·
   rcases h2 with h2 | h2
   · exact .inl (.inr ⟨_,h2,rfl⟩)
   · exact .inr (by omega)
 have h3:Rd (fun b=>Xr X a b\/b=g) w' R:=h1.step ((Agr.refl _ _).grown hg fun g hg=>.inl (.inr ⟨g,hg,rfl⟩));intro V hV;exact h3 V (hV.mono fun b hb=>by
  rcases hb with hb | ⟨g',hg',rfl⟩
  · exact .inl (.inl hb)
  ·
   injection hg' with hg'
   subst hg';exact .inr rfl)
theorem AllT.app {lo:List TQ} (h:AllT (Xr X a) w lo p) (hg:w.grownBy w' (Value.ownBlock (.slice a n c))) (ha:∃ g,a'=some ⟨g,0,none⟩/\(a=some ⟨g,0,none⟩\/g=w.heap.size)):AllT (Xr X a') w' lo p:=h.map fun _ _ k=>k.app hg ha
theorem OwnT.pol (ho:OwnT B w a c l) (hA:AllT (Xr X a) w l p) (hX:∀ b,X b->b<B):PolX X w a c p:=by
 refine ⟨l,fun V hV=>?_,hA.map fun _ _ k=>k.less fun b hb=>.inl hb⟩;refine ho.readsX l rfl TQ.cs_len hV (fun g hg hx=>?_) fun b o k x y h1 h2 hc=>?_
 ·
  have:=hX _ hx;have:=(ho.lt hg).1
  omega
 ·
  rw [h1] at h2;injection h2 with h2
  subst h2;exact TQ.at_of hc
end
def RetP (X:Nat->Prop) (p:List Tm) (w:World) (e:Ending) (w':World):Prop:=∃ a c,e=.returned (.slice a p.length c)/\PolX X w' a c p/\Below w.heap.size w w'
theorem qgg {B:Nat} {w:World} {l:List TQ} {ops:Array Oper} {rest:List Oper} {o:Oper} {act:Act} {Q:Exit->Act->World->Prop} (hgd:o.guard=none) (s y:Operand) (ts:TypeId)
  (ho:o.op=.call { callee:=.builtin .append,args:=#[s,y],argTypes:=#[ts,ts] }) (hu:Tryz.prog.underlying ts=some (.slice 191))
  (a:Option Addr) (c:Nat) (hs:act.eval s=.slice a l.length c) (hown:OwnT B w a c l)
  (x:TQ) (b c1:Nat) (hy:act.eval y=.slice (some ⟨b,0,none⟩) 1 c1) (hcell:x.At w b 0)
  (l2:List TQ) (hl2:l2=l++[x]) (hlen:l2.length<=16777216) (hB:B<=w.heap.size)
  (h:∀ a' c' w',OwnT B w' a' c' l2->w.grownBy w' (Value.ownBlock (.slice a l.length c))->((∃ g,a'=some ⟨g,0,none⟩/\(a=some ⟨g,0,none⟩\/g=w.heap.size))) ->
   wpList Tryz.prog ops Q rest (act.put o.dst (.slice a' l2.length c')) w'):wpList Tryz.prog ops Q (o :: rest) act w :=
 qa7 hgd s y ts ho hu qeu rfl (by omega) (by omega) TQ.cs_len a c hs hown x (TQ.cs_one x) b c1 hy (by have:=hcell.cs;simpa using this) l2 hl2 hlen hB h
theorem qu7 (m:List TQ) (j:Nat):(m.flatMap TQ.cs)[j]? = (m[j / 4]?).bind fun t=>t.cs[j % 4]?:=by
 induction m generalizing j with
 | nil=>simp
 | cons t m ih =>
  rw [List.flatMap_cons];rcases Nat.lt_or_ge j 4 with h | h
  ·
   rw [List.getElem?_append_left (by rw [TQ.cs_len];exact h),Nat.div_eq_of_lt h,Nat.mod_eq_of_lt h]
   rfl
  ·
   rw [List.getElem?_append_right (by rw [TQ.cs_len];exact h),TQ.cs_len,ih];obtain ⟨k,rfl⟩:∃ k,j=k+4:=⟨j-4,by omega⟩
   rw [Nat.add_sub_cancel,Nat.add_div_right _ (by omega),Nat.add_mod_right]
   rfl
theorem qiz {B:Nat} {w:World} {l:List TQ} {ops:Array Oper} {rest:List Oper} {o:Oper} {act:Act} {Q:Exit->Act->World->Prop} (hgd:o.guard=none) (s y:Operand) (ts:TypeId)
  (ho:o.op=.call { callee:=.builtin .append,args:=#[s,y],argTypes:=#[ts,ts] }) (hu:Tryz.prog.underlying ts=some (.slice 191))
  (a:Option Addr) (c:Nat) (hs:act.eval s=.slice a l.length c) (hown:OwnT B w a c l) (m:List TQ) (b:Option Addr) (n c1:Nat) (hn:n=m.length) (hy:act.eval y=.slice b n c1) (hm:RowT b c1 m w)
  (l2:List TQ) (hl2:l2=l++m) (hlen:l2.length<=16777216) (hB:B<=w.heap.size)
  (h:∀ a' c' w',OwnT B w' a' c' l2->w.grownBy w' (Value.ownBlock (.slice a l.length c))->(m=[]/\a'=a/\w'=w\/(∃ g,a'=some ⟨g,0,none⟩/\(a=some ⟨g,0,none⟩\/g=w.heap.size))) ->
   wpList Tryz.prog ops Q rest (act.put o.dst (.slice a' l2.length c')) w'):wpList Tryz.prog ops Q (o :: rest) act w:=by
 subst hl2 hn;refine wpList_plain hgd fun _ hK=>?_
 cases m with
 | nil =>
  obtain ⟨i,hi,_⟩:=info_parts qeu;refine qmx s y ts ho hu hi a l.length c hown.cap.1 hs b c1 hy ?_;have:=h a c w (by simpa using hown) (World.grownBy.refl _ _) (.inl ⟨rfl,rfl,rfl⟩);simp only [List.append_nil] at this;exact hK _ _ this
 | cons x m =>
  obtain ⟨bb,off,hb,_⟩:=hm.2.2 0 x rfl;refine qno s y ts ho hu qeu rfl (by omega) (by omega) TQ.cs_len a c hs hown (x :: m) (by simp) ?_ ⟨bb,off,none⟩ c1 (by rw [hy,hb]) ?_ _ rfl hlen hB
   fun a' c' w' h1 h2 h3=>hK _ _ (h a' c' w' h1 h2 (.inr h3))
  ·
   intro u hu;simp only [List.mem_flatMap] at hu;obtain ⟨z,_,hz⟩:=hu;exact TQ.cs_one z u hz
  ·
   intro j u hu;rw [qu7] at hu;obtain ⟨z,hz,hj⟩:=Option.bind_eq_some_iff.1 hu;obtain ⟨b2,off2,hb2,hc⟩:=hm.2.2 (j / 4) z hz;rw [hb] at hb2;have e1:bb=b2:=congrArg (fun o:Option Addr=>(o.getD default).block) hb2;have e2:off=off2:=congrArg (fun o:Option Addr=>(o.getD default).off) hb2;subst e1;subst e2;have:=hc.cs (j % 4) u hj;rw [Addr.add_lit]
   rwa [show off+j / 4*4+j % 4=off+j by omega] at this
def boC (b:Bool):List Value:=[.bool b]
theorem qn1 (b:Bool):(boC b).length=1:=rfl
theorem qvs (b:Bool):∀ u∈boC b,u.oneCell'=true:=by simp [boC,Value.oneCell']
def qaC (x:QA):List Value:=[.bool x.neg,.slice x.a x.n x.c,.slice x.b x.m x.d]
theorem qg2 (x:QA):(qaC x).length=3:=rfl
theorem qoj (x:QA):∀ u∈qaC x,u.oneCell'=true:=by simp [qaC,Value.oneCell']
abbrev OwnB (B:Nat) (w:World) (a:Option Addr) (c:Nat) (l:List Bool):Prop:=Own boC 1 4 B w a c l
abbrev OwnQ (B:Nat) (w:World) (a:Option Addr) (c:Nat) (l:List QA):Prop:=Own qaC 3 51 B w a c l
theorem qw0:(Tryz.prog.info? 4).map (fun i=>(i.zero,i.size,i.bytes))=some (some (.bool false),1,1):=by kernel_rfl
theorem qlh:(Tryz.prog.info? 51).map (fun i=>(i.zero,i.size,i.bytes))=some (some (.agg #[.bool false,.slice none 0 0,.slice none 0 0]),3,56):=by kernel_rfl
def AllQ (X:Nat->Prop) (w:World) (l:List QA) (p:List Rat):Prop:=l.length=p.length/\∀ (k:Nat) (t:QA) (u:Rat),l[k]? = some t->p[k]? = some u->Rd X w fun V=>QAc V t u
theorem AllQ.nil {X:Nat->Prop} {w:World}:AllQ X w [] []:=⟨rfl,fun k t u h=>by simp at h⟩
theorem AllQ.call {X:Nat->Prop} {w w':World} {l:List QA} {p:List Rat} (h:AllQ X w l p) (e:Below w.heap.size w w'):AllQ X w' l p:=⟨h.1,fun k t u h1 h2=>(h.2 k t u h1 h2).call e⟩
theorem AllQ.push {X Y:Nat->Prop} {w w':World} {l:List QA} {p:List Rat} {x:QA} {q:Rat} (h:AllQ X w l p) (hx:Rd X w fun V=>QAc V x q) (e:∀ R,Rd X w R->Rd Y w' R):AllQ Y w' (l++[x]) (p++[q]):=by
 refine ⟨by simp [h.1],fun k t u h1 h2=>?_⟩;rcases Nat.lt_or_ge k l.length with e1 | e1
 ·
  rw [List.getElem?_append_left e1] at h1;rw [List.getElem?_append_left (by rw [<- h.1];exact e1)] at h2;exact e _ (h.2 k t u h1 h2)
 ·
  rw [List.getElem?_append_right e1] at h1;rw [List.getElem?_append_right (by rw [<- h.1];exact e1),<- h.1] at h2
  cases hk:k-l.length with
  | zero =>
   rw [hk] at h1 h2;simp at h1 h2;subst h1 h2;exact e _ hx
  | succ j=>rw [hk] at h1;simp at h1
def BosR (w:World) (a:Option Addr) (c:Nat) (l:List Bool):Prop:=SlR 1 BoolE w a c l
def QE (w:World) (b o:Nat) (q:Rat):Prop:=∃ x:QA,w.cell? ⟨b,o,none⟩=some (.bool x.neg)/\w.cell? ⟨b,o+1,none⟩=some (.slice x.a x.n x.c)/\w.cell? ⟨b,o+2,none⟩=some (.slice x.b x.m x.d)/\QAc w x q
def QsR (w:World) (a:Option Addr) (c:Nat) (l:List Rat):Prop:=SlR 3 QE w a c l
theorem BosR.ext {w w':World} {a:Option Addr} {c:Nat} {l:List Bool} (h:BosR w a c l) (e:Ext w w'):BosR w' a c l:=SlR.mono h fun _ _ _ _ h=>e _ _ h
theorem QsR.ext {w w':World} {a:Option Addr} {c:Nat} {l:List Rat} (h:QsR w a c l) (e:Ext w w'):QsR w' a c l:=SlR.mono h fun _ _ _ _ ⟨x,h1,h2,h3,h4⟩=>⟨x,e _ _ h1,e _ _ h2,e _ _ h3,h4.ext e⟩
abbrev P2:=Rat × Rat
def vecQ (a b:P2):P2:=(b.1-a.1,b.2-a.2)
def dotQ (u v:P2):Rat:=u.1*v.1+u.2*v.2
def qgp (u:P2) (s:Rat):P2:=(s*u.1,s*u.2)
def plusQ (a u:P2):P2:=(a.1+u.1,a.2+u.2)
def footQ (p a b:P2):P2:=plusQ a (qgp (vecQ a b) (dotQ (vecQ a b) (vecQ a p) / dotQ (vecQ a b) (vecQ a b)))
abbrev PH:=QA × QA
def phC (p:PH):List Value:=qaC p.1++qaC p.2
theorem qcx (p:PH):(phC p).length=6:=rfl
theorem qog (p:PH):∀ u∈phC p,u.oneCell'=true:=by simp [phC,qaC,Value.oneCell']
abbrev OwnP (B:Nat) (w:World) (a:Option Addr) (c:Nat) (l:List PH):Prop:=Own phC 6 69 B w a c l
theorem qrw:(Tryz.prog.info? 69).map (fun i=>(i.zero,i.size,i.bytes))=some (some (.agg #[.bool false,.slice none 0 0,.slice none 0 0,.bool false,.slice none 0 0,.slice none 0 0]),6,112):=by kernel_rfl
def PAc (w:World) (x:PH) (p:P2):Prop:=QAc w x.1 p.1/\QAc w x.2 p.2
theorem PAc.ext {w w':World} {x:PH} {p:P2} (h:PAc w x p) (e:Ext w w'):PAc w' x p:=⟨h.1.ext e,h.2.ext e⟩
def AllP (X:Nat->Prop) (w:World) (l:List PH) (p:List P2):Prop:=l.length=p.length/\∀ (k:Nat) (t:PH) (u:P2),l[k]? = some t->p[k]? = some u->Rd X w fun V=>PAc V t u
theorem AllP.nil {X:Nat->Prop} {w:World}:AllP X w [] []:=⟨rfl,fun k t u h=>by simp at h⟩
theorem AllP.step {X Y:Nat->Prop} {w w':World} {l:List PH} {p:List P2} (h:AllP X w l p) (e:∀ R,Rd X w R->Rd Y w' R):AllP Y w' l p:=⟨h.1,fun k t u h1 h2=>e _ (h.2 k t u h1 h2)⟩
theorem AllP.call {X:Nat->Prop} {w w':World} {l:List PH} {p:List P2} (h:AllP X w l p) (e:Below w.heap.size w w'):AllP X w' l p:=h.step fun _ hr=>hr.call e
theorem AllP.push {X Y:Nat->Prop} {w w':World} {l:List PH} {p:List P2} {x:PH} {q:P2} (h:AllP X w l p) (hx:Rd X w fun V=>PAc V x q) (e:∀ R,Rd X w R->Rd Y w' R):AllP Y w' (l++[x]) (p++[q]):=by
 refine ⟨by simp [h.1],fun k t u h1 h2=>?_⟩;rcases Nat.lt_or_ge k l.length with e1 | e1
 ·
  rw [List.getElem?_append_left e1] at h1;rw [List.getElem?_append_left (by rw [<- h.1];exact e1)] at h2;exact e _ (h.2 k t u h1 h2)
 ·
  rw [List.getElem?_append_right e1] at h1;rw [List.getElem?_append_right (by rw [<- h.1];exact e1),<- h.1] at h2
  cases hk:k-l.length with
  | zero =>
   rw [hk] at h1 h2;simp at h1 h2;subst h1 h2;exact e _ hx
  | succ j=>rw [hk] at h1;simp at h1
def PE (w:World) (b o:Nat) (p:P2):Prop:=∃ x:PH,(w.cell? ⟨b,o,none⟩=some (.bool x.1.neg)/\w.cell? ⟨b,o+1,none⟩=some (.slice x.1.a x.1.n x.1.c)/\w.cell? ⟨b,o+2,none⟩=some (.slice x.1.b x.1.m x.1.d) /\
 w.cell? ⟨b,o+3,none⟩=some (.bool x.2.neg)/\w.cell? ⟨b,o+4,none⟩=some (.slice x.2.a x.2.n x.2.c)/\w.cell? ⟨b,o+5,none⟩=some (.slice x.2.b x.2.m x.2.d))/\PAc w x p
def PsR (w:World) (a:Option Addr) (c:Nat) (l:List P2):Prop:=SlR 6 PE w a c l
theorem OwnP.ps {B:Nat} {X:Nat->Prop} {w:World} {a:Option Addr} {c:Nat} {l:List PH} {p:List P2} (h:OwnP B w a c l) (hA:AllP X w l p):PsR w a c p :=
 Own.readsX (X:=fun _=>False) p hA.1.symm qcx h (Agr.refl _ _) (fun _ _ h=>h) fun b o k x y h1 h2 hc=>⟨x,⟨by simpa using hc 0 _ rfl,hc 1 _ rfl,hc 2 _ rfl,hc 3 _ rfl,hc 4 _ rfl,hc 5 _ rfl⟩,(hA.2 k x y h1 h2).now⟩
structure Cho where
 vals:List Rat
 free:Nat
def freeC (c:Cho):P2 × Cho :=
 if c.free=0 then ((0,0),⟨c.vals,1⟩)
 else if c.free=1 then ((c.vals.headD 0,0),⟨c.vals.tail,2⟩)
 else ((c.vals.headD 0,c.vals.tail.headD 0),⟨c.vals.tail.tail,c.free+1⟩)
def argP (s:Step) (pts:List P2) (i:Nat):P2:=pts.getD (s.args.getD i 0).toNat (0,0)
def stepC (s:Step) (pts:List P2) (c:Cho):P2 × Int × Cho :=
 if s.kind=1 then ((freeC c).1,0,(freeC c).2)
 else if argP s pts 1=argP s pts 2 then ((0,0),11,c)
 else (footQ (argP s pts 0) (argP s pts 1) (argP s pts 2),0,c)
def qbg (p:P2):Prop:=qsz p.1<=100/\qsz p.2<=100
def okC (s:Step) (pts:List P2) (c:Cho):Prop :=
 s.ratio.num.length<=1000/\((s.kind=1/\s.args=[]/\c.free<=1000/\(1<=c.free->1<=c.vals.length)/\(2<=c.free->2<=c.vals.length)) \/
  (s.kind=7/\s.args.length=3/\(∀ i∈s.args,0<=i/\i.toNat<pts.length)/\(∀ p∈pts,qbg p)))
def stC (vals:List Rat) (l:List Step):Nat->List P2 × Cho
 | 0=>([],⟨vals,0⟩)
 | k+1=>match l[k]? with
  | some s=>((stC vals l k).1++[(stepC s (stC vals l k).1 (stC vals l k).2).1],(stepC s (stC vals l k).1 (stC vals l k).2).2.2)
  | none=>stC vals l k
theorem qll {vals:List Rat} {l:List Step} {k:Nat} {s:Step} (h:l[k]? = some s):stC vals l (k+1)=((stC vals l k).1++[(stepC s (stC vals l k).1 (stC vals l k).2).1],(stepC s (stC vals l k).1 (stC vals l k).2).2.2):=by
 rw [stC,h]
theorem qoi {vals:List Rat} {l:List Step}:∀ {k:Nat},k<=l.length->(stC vals l k).1.length=k
 | 0,_=>rfl
 | k+1,h=>by
  obtain ⟨s,hs⟩:=qac (xs:=l) (k:=k) (by omega);have ih:=qoi (vals:=vals) (l:=l) (k:=k) (by omega);rw [qll hs,List.length_append,ih]
  rfl
theorem set6v {a0 a1 a2 a3 a4 a5 v0 v1 v2 v3 v4 v5:Value}:(((((((#[a0,a1,a2,a3,a4,a5]:Array Value).setIfInBounds 0 v0).setIfInBounds 1 v1).setIfInBounds 2 v2).setIfInBounds 3 v3).setIfInBounds 4 v4).setIfInBounds 5 v5)=#[v0,v1,v2,v3,v4,v5]:=by simp
theorem Blk.set6 {w:World} {g:Nat} {t:TypeId} {a0 a1 a2 a3 a4 a5 v0 v1 v2 v3 v4 v5:Value} (h:Blk w g t #[a0,a1,a2,a3,a4,a5]):Blk ((((((w.setCell ⟨g,0,none⟩ v0).setCell ⟨g,1,none⟩ v1).setCell ⟨g,2,none⟩ v2).setCell ⟨g,3,none⟩ v3).setCell ⟨g,4,none⟩ v4).setCell ⟨g,5,none⟩ v5) g t #[v0,v1,v2,v3,v4,v5]:=by
 have:=(((((h.set_ 0 v0).set_ 1 v1).set_ 2 v2).set_ 3 v3).set_ 4 v4).set_ 5 v5;rw [set6v] at this;exact this
def PK (k:Nat) (w:World) (x:PH) (p:P2):Prop:=QK k w x.1 p.1/\QK k w x.2 p.2
def RetPK (k:Nat) (p:P2) (w:World) (e:Ending) (w':World):Prop:=∃ x:PH,e=.returned (.agg #[.bool x.1.neg,.slice x.1.a x.1.n x.1.c,.slice x.1.b x.1.m x.1.d,.bool x.2.neg,.slice x.2.a x.2.n x.2.c,.slice x.2.b x.2.m x.2.d])/\Kp (fun V=>PK k V x p) w.heap.size w'.heap.size w'/\Below w.heap.size w w'
theorem Kp.and2 {R S:World->Prop} {B T:Nat} {w:World} (h:Kp R B T w) (k:Kp S B T w):Kp (fun V=>R V/\S V) B T w:=fun V hV=>⟨h V hV,k V hV⟩
theorem qrs (x1 x2:QA) (y1 y2:QA) (a:P2) (b:P2) (k:Nat) (w:World) (H1:QK k w x1 a.1) (H2:QK k w x2 a.2) (H3:QK k w y1 b.1) (H4:QK k w y2 b.2) (hk:k<=10000) :
  Calls Tryz.prog 104 #[.agg #[.bool x1.neg,.slice x1.a x1.n x1.c,.slice x1.b x1.m x1.d,.bool x2.neg,.slice x2.a x2.n x2.c,.slice x2.b x2.m x2.d],.agg #[.bool y1.neg,.slice y1.a y1.n y1.c,.slice y1.b y1.m y1.d,.bool y2.neg,.slice y2.a y2.n y2.c,.slice y2.b y2.m y2.d]] w (RetPK (k+k+1) (vecQ a b) w):=by
 have R1:=Hd (fun W (hW:Below w.heap.size w W)=>H1.ext (xbw hW));have R2:=Hd (fun W (hW:Below w.heap.size w W)=>H2.ext (xbw hW));have R3:=Hd (fun W (hW:Below w.heap.size w W)=>H3.ext (xbw hW));have R4:=Hd (fun W (hW:Below w.heap.size w W)=>H4.ext (xbw hW));clear H1 H2 H3 H4;go_enter Tryz.func104,Tryz.ntmps104;go_wp2
 refine qab (fun W=>Blk W w.heap.size 69 #[.bool x1.neg,.slice x1.a x1.n x1.c,.slice x1.b x1.m x1.d,.bool x2.neg,.slice x2.a x2.n x2.c,.slice x2.b x2.m x2.d]/\Blk W (w.heap.size+1) 69 #[.bool y1.neg,.slice y1.a y1.n y1.c,.slice y1.b y1.m y1.d,.bool y2.neg,.slice y2.a y2.n y2.c,.slice y2.b y2.m y2.d]/\Blk W (w.heap.size+1+1) 151 #[.bool false,.slice none 0 0,.slice none 0 0,.bool false,.slice none 0 0,.slice none 0 0]/\Below w.heap.size w W/\w.heap.size<w.heap.size+1/\w.heap.size+1<w.heap.size+1+1/\w.heap.size+1+1<W.heap.size) ⟨by ((with_reducible repeat first|assumption|(apply bF;focus omega)|apply bS|(apply bN;focus (simp;done))|apply bA|apply bD);all_goals rfl),by ((with_reducible repeat first|assumption|(apply bF;focus omega)|apply bS|(apply bN;focus (simp;done))|apply bA|apply bD);all_goals rfl),by ((with_reducible repeat first|assumption|(apply bF;focus omega)|apply bS|(apply bN;focus (simp;done))|apply bA|apply bD);all_goals rfl),by go_grown,by omega,by omega,by simp⟩ ?_
 rintro w0 ⟨h0,h1,h2,hw0,hg,hgg,hgw⟩;revert h0 h1 h2 hg hgg hgw;generalize w.heap.size+1+1=g2;generalize w.heap.size+1=g1;intro h0 h1 h2 hg hgg hgw;have k0_0:=held (h0.cell 0);have k0_1:=held (h0.cell 1);have k0_2:=held (h0.cell 2);have k0_3:=held (h0.cell 3);have k0_4:=held (h0.cell 4);have k0_5:=held (h0.cell 5);have k1_0:=held (h1.cell 0);have k1_1:=held (h1.cell 1);have k1_2:=held (h1.cell 2);have k1_3:=held (h1.cell 3);have k1_4:=held (h1.cell 4);have k1_5:=held (h1.cell 5);have s0:Below w0.heap.size w0 w0.drew:=brf.drew;have n0:w0.heap.size<=w0.drew.heap.size:=nlr _;refine wrx (S:=Below w0.heap.size w0) [(0,.q),(1,.q),(2,.q),(3,.q),(5,.q),(6,.q),(7,.q),(8,.q),(4,.l),(9,.t),(10,.p),(11,.t)] (s0) ?_
 iterate 8 (refine qam rfl rfl fun K hK=>xq ?_;go_simp;refine hK _ _ ?_;clear hK K)
 refine qaj rfl rfl (fun K hK=>?_);go_simp;refine (sub_q y1 x1 b.1 a.1 k k _ (R3.out _ (bth hw0 s0)) (R1.out _ (bth hw0 s0)) (by omega) (by omega)).mono ?_;rintro r w1 ⟨z1,rfl,K1,hb1⟩;dsimp only;refine hK.out _ _ (bth s0 hb1) (fun _=>?_);clear hK K;have s1:=bth s0 hb1;have n1:=s1.size;replace K1:=Hd K1;refine qah rfl rfl (fun K hK=>?_);go_simp;refine (sub_q y2 x2 b.2 a.2 k k _ (R4.out _ (bth hw0 s1)) (R2.out _ (bth hw0 s1)) (by omega) (by omega)).mono ?_;rintro r w2 ⟨z2,rfl,K2,hb2⟩;dsimp only;refine hK.out _ _ ?_;clear hK K;have s2:=bth s1 hb2;have n2:=s2.size;replace K2:=Hd K2
 iterate 1 (refine qav rfl rfl fun K hK=>xp ?_;go_simp;refine hK _ _ ?_;clear hK K)
 have hz:=h2.below' s2;have hw1:=bth hw0 s2;clear k0_0 k0_1 k0_2 k0_3 k0_4 k0_5 k1_0 k1_1 k1_2 k1_3 k1_4 k1_5;have y0:=hz.cell 0;have f0:=hz.frozen 0;have y1:=hz.cell 1;have f1:=hz.frozen 1;have y2:=hz.cell 2;have f2:=hz.frozen 2;have y3:=hz.cell 3;have f3:=hz.frozen 3;have y4:=hz.cell 4;have f4:=hz.frozen 4;have y5:=hz.cell 5;have f5:=hz.frozen 5;refine qah rfl rfl (fun K hK=>?_);go_simp;refine hK.out _ _ ?_;clear hK K;refine qak ?_;go_wp2;have E1:=Hd (K1.out.call hb2)
 refine qab (fun W=>Blk W g2 151 #[.bool z1.neg,.slice z1.a z1.n z1.c,.slice z1.b z1.m z1.d,.bool z2.neg,.slice z2.a z2.n z2.c,.slice z2.b z2.m z2.d]/\Below w.heap.size w W/\Kp (fun V=>QK (k+k+1) V z1 (b.1-a.1)) w0.drew.heap.size w1.heap.size W/\Kp (fun V=>QK (k+k+1) V z2 (b.2-a.2)) w1.heap.size w2.heap.size W) ⟨Blk.set6 hz,by go_grown,by (with_reducible repeat first | exact E1.out | (refine Kp.setc ?_ ?_;focus omega) | refine Kp.alloc ?_ | refine Kp.drew ?_),by (with_reducible repeat first | exact K2.out | (refine Kp.setc ?_ ?_;focus omega) | refine Kp.alloc ?_ | refine Kp.drew ?_)⟩ ?_;rintro wF ⟨hF,hwF,L1,L2⟩;obtain ⟨e0,e1,e2,e3,e4,e5⟩:=cq6 hF;refine bodyPost_ret (v:=.agg #[.bool z1.neg,.slice z1.a z1.n z1.c,.slice z1.b z1.m z1.d,.bool z2.neg,.slice z2.a z2.n z2.c,.slice z2.b z2.m z2.d]) (by simp [results,Tryz.results104,go_sem,e0,e1,e2,e3,e4,e5]) rfl ?_
 exact ⟨(z1,z2),rfl,Kp.and2 (Kp.made ((L1.imp fun _ h=>QK.more h (by omega)).fin (show w.heap.size<=_ from Nat.le_trans hw0.size n0))) (Kp.made ((L2.imp fun _ h=>QK.more h (by omega)).fin (show w.heap.size<=_ from Nat.le_trans hw0.size n1))),hwF⟩
theorem qwh (x1 x2:QA) (y1 y2:QA) (a:P2) (b:P2) (k:Nat) (w:World) (H1:QK k w x1 a.1) (H2:QK k w x2 a.2) (H3:QK k w y1 b.1) (H4:QK k w y2 b.2) (hk:k<=10000) :
  Calls Tryz.prog 103 #[.agg #[.bool x1.neg,.slice x1.a x1.n x1.c,.slice x1.b x1.m x1.d,.bool x2.neg,.slice x2.a x2.n x2.c,.slice x2.b x2.m x2.d],.agg #[.bool y1.neg,.slice y1.a y1.n y1.c,.slice y1.b y1.m y1.d,.bool y2.neg,.slice y2.a y2.n y2.c,.slice y2.b y2.m y2.d]] w (RetPK (k+k+1) (plusQ a b) w):=by
 have R1:=Hd (fun W (hW:Below w.heap.size w W)=>H1.ext (xbw hW));have R2:=Hd (fun W (hW:Below w.heap.size w W)=>H2.ext (xbw hW));have R3:=Hd (fun W (hW:Below w.heap.size w W)=>H3.ext (xbw hW));have R4:=Hd (fun W (hW:Below w.heap.size w W)=>H4.ext (xbw hW));clear H1 H2 H3 H4;go_enter Tryz.func103,Tryz.ntmps103;go_wp2
 refine qab (fun W=>Blk W w.heap.size 69 #[.bool x1.neg,.slice x1.a x1.n x1.c,.slice x1.b x1.m x1.d,.bool x2.neg,.slice x2.a x2.n x2.c,.slice x2.b x2.m x2.d]/\Blk W (w.heap.size+1) 151 #[.bool y1.neg,.slice y1.a y1.n y1.c,.slice y1.b y1.m y1.d,.bool y2.neg,.slice y2.a y2.n y2.c,.slice y2.b y2.m y2.d]/\Blk W (w.heap.size+1+1) 69 #[.bool false,.slice none 0 0,.slice none 0 0,.bool false,.slice none 0 0,.slice none 0 0]/\Below w.heap.size w W/\w.heap.size<w.heap.size+1/\w.heap.size+1<w.heap.size+1+1/\w.heap.size+1+1<W.heap.size) ⟨by ((with_reducible repeat first|assumption|(apply bF;focus omega)|apply bS|(apply bN;focus (simp;done))|apply bA|apply bD);all_goals rfl),by ((with_reducible repeat first|assumption|(apply bF;focus omega)|apply bS|(apply bN;focus (simp;done))|apply bA|apply bD);all_goals rfl),by ((with_reducible repeat first|assumption|(apply bF;focus omega)|apply bS|(apply bN;focus (simp;done))|apply bA|apply bD);all_goals rfl),by go_grown,by omega,by omega,by simp⟩ ?_
 rintro w0 ⟨h0,h1,h2,hw0,hg,hgg,hgw⟩;revert h0 h1 h2 hg hgg hgw;generalize w.heap.size+1+1=g2;generalize w.heap.size+1=g1;intro h0 h1 h2 hg hgg hgw;have k0_0:=held (h0.cell 0);have k0_1:=held (h0.cell 1);have k0_2:=held (h0.cell 2);have k0_3:=held (h0.cell 3);have k0_4:=held (h0.cell 4);have k0_5:=held (h0.cell 5);have k1_0:=held (h1.cell 0);have k1_1:=held (h1.cell 1);have k1_2:=held (h1.cell 2);have k1_3:=held (h1.cell 3);have k1_4:=held (h1.cell 4);have k1_5:=held (h1.cell 5);have s0:Below w0.heap.size w0 w0.drew:=brf.drew;have n0:w0.heap.size<=w0.drew.heap.size:=nlr _;refine wrx (S:=Below w0.heap.size w0) [(0,.q),(1,.q),(2,.q),(3,.q),(5,.q),(6,.q),(7,.q),(8,.q),(4,.l),(9,.t),(10,.p),(11,.t)] (s0) ?_
 iterate 8 (refine qam rfl rfl fun K hK=>xq ?_;go_simp;refine hK _ _ ?_;clear hK K)
 refine qaj rfl rfl (fun K hK=>?_);go_simp;refine (add_q x1 y1 a.1 b.1 k k _ (R1.out _ (bth hw0 s0)) (R3.out _ (bth hw0 s0)) (by omega) (by omega)).mono ?_;rintro r w1 ⟨z1,rfl,K1,hb1⟩;dsimp only;refine hK.out _ _ (bth s0 hb1) (fun _=>?_);clear hK K;have s1:=bth s0 hb1;have n1:=s1.size;replace K1:=Hd K1;refine qah rfl rfl (fun K hK=>?_);go_simp;refine (add_q x2 y2 a.2 b.2 k k _ (R2.out _ (bth hw0 s1)) (R4.out _ (bth hw0 s1)) (by omega) (by omega)).mono ?_;rintro r w2 ⟨z2,rfl,K2,hb2⟩;dsimp only;refine hK.out _ _ ?_;clear hK K;have s2:=bth s1 hb2;have n2:=s2.size;replace K2:=Hd K2
 iterate 1 (refine qav rfl rfl fun K hK=>xp ?_;go_simp;refine hK _ _ ?_;clear hK K)
 have hz:=h2.below' s2;have hw1:=bth hw0 s2;clear k0_0 k0_1 k0_2 k0_3 k0_4 k0_5 k1_0 k1_1 k1_2 k1_3 k1_4 k1_5;have y0:=hz.cell 0;have f0:=hz.frozen 0;have y1:=hz.cell 1;have f1:=hz.frozen 1;have y2:=hz.cell 2;have f2:=hz.frozen 2;have y3:=hz.cell 3;have f3:=hz.frozen 3;have y4:=hz.cell 4;have f4:=hz.frozen 4;have y5:=hz.cell 5;have f5:=hz.frozen 5;refine qah rfl rfl (fun K hK=>?_);go_simp;refine hK.out _ _ ?_;clear hK K;refine qak ?_;go_wp2;have E1:=Hd (K1.out.call hb2)
 refine qab (fun W=>Blk W g2 69 #[.bool z1.neg,.slice z1.a z1.n z1.c,.slice z1.b z1.m z1.d,.bool z2.neg,.slice z2.a z2.n z2.c,.slice z2.b z2.m z2.d]/\Below w.heap.size w W/\Kp (fun V=>QK (k+k+1) V z1 (a.1+b.1)) w0.drew.heap.size w1.heap.size W/\Kp (fun V=>QK (k+k+1) V z2 (a.2+b.2)) w1.heap.size w2.heap.size W) ⟨Blk.set6 hz,by go_grown,by (with_reducible repeat first | exact E1.out | (refine Kp.setc ?_ ?_;focus omega) | refine Kp.alloc ?_ | refine Kp.drew ?_),by (with_reducible repeat first | exact K2.out | (refine Kp.setc ?_ ?_;focus omega) | refine Kp.alloc ?_ | refine Kp.drew ?_)⟩ ?_;rintro wF ⟨hF,hwF,L1,L2⟩;obtain ⟨e0,e1,e2,e3,e4,e5⟩:=cq6 hF;refine bodyPost_ret (v:=.agg #[.bool z1.neg,.slice z1.a z1.n z1.c,.slice z1.b z1.m z1.d,.bool z2.neg,.slice z2.a z2.n z2.c,.slice z2.b z2.m z2.d]) (by simp [results,Tryz.results103,go_sem,e0,e1,e2,e3,e4,e5]) rfl ?_
 exact ⟨(z1,z2),rfl,Kp.and2 (Kp.made ((L1.imp fun _ h=>QK.more h (by omega)).fin (show w.heap.size<=_ from Nat.le_trans hw0.size n0))) (Kp.made ((L2.imp fun _ h=>QK.more h (by omega)).fin (show w.heap.size<=_ from Nat.le_trans hw0.size n1))),hwF⟩
theorem qv0 (x1 x2:QA) (y1:QA) (a:P2) (b:Rat) (k:Nat) (w:World) (H1:QK k w x1 a.1) (H2:QK k w x2 a.2) (H3:QK k w y1 b) (hk:k<=10000) :
  Calls Tryz.prog 105 #[.agg #[.bool x1.neg,.slice x1.a x1.n x1.c,.slice x1.b x1.m x1.d,.bool x2.neg,.slice x2.a x2.n x2.c,.slice x2.b x2.m x2.d],.agg #[.bool y1.neg,.slice y1.a y1.n y1.c,.slice y1.b y1.m y1.d]] w (RetPK (k+k) (qgp a b) w):=by
 have R1:=Hd (fun W (hW:Below w.heap.size w W)=>H1.ext (xbw hW));have R2:=Hd (fun W (hW:Below w.heap.size w W)=>H2.ext (xbw hW));have R3:=Hd (fun W (hW:Below w.heap.size w W)=>H3.ext (xbw hW));clear H1 H2 H3;go_enter Tryz.func105,Tryz.ntmps105;go_wp2
 refine qab (fun W=>Blk W w.heap.size 151 #[.bool x1.neg,.slice x1.a x1.n x1.c,.slice x1.b x1.m x1.d,.bool x2.neg,.slice x2.a x2.n x2.c,.slice x2.b x2.m x2.d]/\Blk W (w.heap.size+1) 51 #[.bool y1.neg,.slice y1.a y1.n y1.c,.slice y1.b y1.m y1.d]/\Blk W (w.heap.size+1+1) 151 #[.bool false,.slice none 0 0,.slice none 0 0,.bool false,.slice none 0 0,.slice none 0 0]/\Below w.heap.size w W/\w.heap.size<w.heap.size+1/\w.heap.size+1<w.heap.size+1+1/\w.heap.size+1+1<W.heap.size) ⟨by ((with_reducible repeat first|assumption|(apply bF;focus omega)|apply bS|(apply bN;focus (simp;done))|apply bA|apply bD);all_goals rfl),by ((with_reducible repeat first|assumption|(apply bF;focus omega)|apply bS|(apply bN;focus (simp;done))|apply bA|apply bD);all_goals rfl),by ((with_reducible repeat first|assumption|(apply bF;focus omega)|apply bS|(apply bN;focus (simp;done))|apply bA|apply bD);all_goals rfl),by go_grown,by omega,by omega,by simp⟩ ?_
 rintro w0 ⟨h0,h1,h2,hw0,hg,hgg,hgw⟩;revert h0 h1 h2 hg hgg hgw;generalize w.heap.size+1+1=g2;generalize w.heap.size+1=g1;intro h0 h1 h2 hg hgg hgw;have k0_0:=held (h0.cell 0);have k0_1:=held (h0.cell 1);have k0_2:=held (h0.cell 2);have k0_3:=held (h0.cell 3);have k0_4:=held (h0.cell 4);have k0_5:=held (h0.cell 5);have k1_0:=held (h1.cell 0);have k1_1:=held (h1.cell 1);have k1_2:=held (h1.cell 2);have s0:Below w0.heap.size w0 w0.drew:=brf.drew;have n0:w0.heap.size<=w0.drew.heap.size:=nlr _;refine wrx (S:=Below w0.heap.size w0) [(0,.q),(1,.q),(2,.q),(4,.q),(5,.q),(6,.q),(3,.l),(7,.t),(8,.p),(9,.t)] (s0) ?_
 iterate 6 (refine qam rfl rfl fun K hK=>xq ?_;go_simp;refine hK _ _ ?_;clear hK K)
 refine qaj rfl rfl (fun K hK=>?_);go_simp;refine (mul_q y1 x1 b a.1 k k _ (R3.out _ (bth hw0 s0)) (R1.out _ (bth hw0 s0)) (by omega) (by omega)).mono ?_;rintro r w1 ⟨z1,rfl,K1,hb1⟩;dsimp only;refine hK.out _ _ (bth s0 hb1) (fun _=>?_);clear hK K;have s1:=bth s0 hb1;have n1:=s1.size;replace K1:=Hd K1;refine qah rfl rfl (fun K hK=>?_);go_simp;refine (mul_q y1 x2 b a.2 k k _ (R3.out _ (bth hw0 s1)) (R2.out _ (bth hw0 s1)) (by omega) (by omega)).mono ?_;rintro r w2 ⟨z2,rfl,K2,hb2⟩;dsimp only;refine hK.out _ _ ?_;clear hK K;have s2:=bth s1 hb2;have n2:=s2.size;replace K2:=Hd K2
 iterate 1 (refine qav rfl rfl fun K hK=>xp ?_;go_simp;refine hK _ _ ?_;clear hK K)
 have hz:=h2.below' s2;have hw1:=bth hw0 s2;clear k0_0 k0_1 k0_2 k0_3 k0_4 k0_5 k1_0 k1_1 k1_2;have y0:=hz.cell 0;have f0:=hz.frozen 0;have y1:=hz.cell 1;have f1:=hz.frozen 1;have y2:=hz.cell 2;have f2:=hz.frozen 2;have y3:=hz.cell 3;have f3:=hz.frozen 3;have y4:=hz.cell 4;have f4:=hz.frozen 4;have y5:=hz.cell 5;have f5:=hz.frozen 5;refine qah rfl rfl (fun K hK=>?_);go_simp;refine hK.out _ _ ?_;clear hK K;refine qak ?_;go_wp2;have E1:=Hd (K1.out.call hb2)
 refine qab (fun W=>Blk W g2 151 #[.bool z1.neg,.slice z1.a z1.n z1.c,.slice z1.b z1.m z1.d,.bool z2.neg,.slice z2.a z2.n z2.c,.slice z2.b z2.m z2.d]/\Below w.heap.size w W/\Kp (fun V=>QK (k+k) V z1 (b*a.1)) w0.drew.heap.size w1.heap.size W/\Kp (fun V=>QK (k+k) V z2 (b*a.2)) w1.heap.size w2.heap.size W) ⟨Blk.set6 hz,by go_grown,by (with_reducible repeat first | exact E1.out | (refine Kp.setc ?_ ?_;focus omega) | refine Kp.alloc ?_ | refine Kp.drew ?_),by (with_reducible repeat first | exact K2.out | (refine Kp.setc ?_ ?_;focus omega) | refine Kp.alloc ?_ | refine Kp.drew ?_)⟩ ?_;rintro wF ⟨hF,hwF,L1,L2⟩;obtain ⟨e0,e1,e2,e3,e4,e5⟩:=cq6 hF;refine bodyPost_ret (v:=.agg #[.bool z1.neg,.slice z1.a z1.n z1.c,.slice z1.b z1.m z1.d,.bool z2.neg,.slice z2.a z2.n z2.c,.slice z2.b z2.m z2.d]) (by simp [results,Tryz.results105,go_sem,e0,e1,e2,e3,e4,e5]) rfl ?_
 exact ⟨(z1,z2),rfl,Kp.and2 (Kp.made ((L1.imp fun _ h=>QK.more h (by omega)).fin (show w.heap.size<=_ from Nat.le_trans hw0.size n0))) (Kp.made ((L2.imp fun _ h=>QK.more h (by omega)).fin (show w.heap.size<=_ from Nat.le_trans hw0.size n1))),hwF⟩
theorem dot_p (x1 x2:QA) (y1 y2:QA) (a:P2) (b:P2) (k:Nat) (w:World) (H1:QK k w x1 a.1) (H2:QK k w x2 a.2) (H3:QK k w y1 b.1) (H4:QK k w y2 b.2) (hk:k<=10000) :
  Calls Tryz.prog 109 #[.agg #[.bool x1.neg,.slice x1.a x1.n x1.c,.slice x1.b x1.m x1.d,.bool x2.neg,.slice x2.a x2.n x2.c,.slice x2.b x2.m x2.d],.agg #[.bool y1.neg,.slice y1.a y1.n y1.c,.slice y1.b y1.m y1.d,.bool y2.neg,.slice y2.a y2.n y2.c,.slice y2.b y2.m y2.d]] w (RetQK (k+k+(k+k)+1) (dotQ a b) w):=by
 have R1:=Hd (fun W (hW:Below w.heap.size w W)=>H1.ext (xbw hW));have R2:=Hd (fun W (hW:Below w.heap.size w W)=>H2.ext (xbw hW));have R3:=Hd (fun W (hW:Below w.heap.size w W)=>H3.ext (xbw hW));have R4:=Hd (fun W (hW:Below w.heap.size w W)=>H4.ext (xbw hW));clear H1 H2 H3 H4;go_enter Tryz.func109,Tryz.ntmps109;go_wp2
 refine qab (fun W=>Blk W w.heap.size 151 #[.bool x1.neg,.slice x1.a x1.n x1.c,.slice x1.b x1.m x1.d,.bool x2.neg,.slice x2.a x2.n x2.c,.slice x2.b x2.m x2.d]/\Blk W (w.heap.size+1) 151 #[.bool y1.neg,.slice y1.a y1.n y1.c,.slice y1.b y1.m y1.d,.bool y2.neg,.slice y2.a y2.n y2.c,.slice y2.b y2.m y2.d]/\Blk W (w.heap.size+1+1) 51 #[.bool false,.slice none 0 0,.slice none 0 0]/\Below w.heap.size w W/\w.heap.size<w.heap.size+1/\w.heap.size+1<w.heap.size+1+1/\w.heap.size+1+1<W.heap.size) ⟨by ((with_reducible repeat first|assumption|(apply bF;focus omega)|apply bS|(apply bN;focus (simp;done))|apply bA|apply bD);all_goals rfl),by ((with_reducible repeat first|assumption|(apply bF;focus omega)|apply bS|(apply bN;focus (simp;done))|apply bA|apply bD);all_goals rfl),by ((with_reducible repeat first|assumption|(apply bF;focus omega)|apply bS|(apply bN;focus (simp;done))|apply bA|apply bD);all_goals rfl),by go_grown,by omega,by omega,by simp⟩ ?_
 rintro w0 ⟨h0,h1,h2,hw0,hg,hgg,hgw⟩;revert h0 h1 h2 hg hgg hgw;generalize w.heap.size+1+1=g2;generalize w.heap.size+1=g1;intro h0 h1 h2 hg hgg hgw;have k0_0:=held (h0.cell 0);have k0_1:=held (h0.cell 1);have k0_2:=held (h0.cell 2);have k0_3:=held (h0.cell 3);have k0_4:=held (h0.cell 4);have k0_5:=held (h0.cell 5);have k1_0:=held (h1.cell 0);have k1_1:=held (h1.cell 1);have k1_2:=held (h1.cell 2);have k1_3:=held (h1.cell 3);have k1_4:=held (h1.cell 4);have k1_5:=held (h1.cell 5);have s0:Below w0.heap.size w0 w0.drew:=brf.drew;have n0:w0.heap.size<=w0.drew.heap.size:=nlr _;refine wrx (S:=Below w0.heap.size w0) [(0,.q),(1,.q),(2,.q),(3,.q),(5,.q),(6,.q),(7,.q),(8,.q),(4,.l),(9,.t),(10,.t),(11,.t)] (s0) ?_
 iterate 8 (refine qam rfl rfl fun K hK=>xq ?_;go_simp;refine hK _ _ ?_;clear hK K)
 refine qaj rfl rfl (fun K hK=>?_);go_simp;refine (mul_q x1 y1 a.1 b.1 k k _ (R1.out _ (bth hw0 s0)) (R3.out _ (bth hw0 s0)) (by omega) (by omega)).mono ?_;rintro r w1 ⟨z1,rfl,K1,hb1⟩;dsimp only;refine hK.out _ _ (bth s0 hb1) (fun _=>?_);clear hK K;have s1:=bth s0 hb1;have n1:=s1.size;replace K1:=Hd K1;refine qah rfl rfl (fun K hK=>?_);go_simp;refine (mul_q x2 y2 a.2 b.2 k k _ (R2.out _ (bth hw0 s1)) (R4.out _ (bth hw0 s1)) (by omega) (by omega)).mono ?_;rintro r w2 ⟨z2,rfl,K2,hb2⟩;dsimp only;refine hK.out _ _ ?_;clear hK K;have s2:=bth s1 hb2;have n2:=s2.size;replace K2:=Hd K2;refine qah rfl rfl (fun K hK=>?_);go_simp;refine (add_q z1 z2 (a.1*b.1) (a.2*b.2) (k+k) (k+k) _ (K1.out.call hb2).now K2.out.now (by omega) (by omega)).mono ?_;rintro r w3 ⟨z3,rfl,K3,hb3⟩;dsimp only;refine hK.out _ _ ?_;clear hK K;have s3:=bth s2 hb3;have n3:=s3.size;replace K3:=Hd K3;have hz:=h2.below' s3
 have hw1:=bth hw0 s3;clear k0_0 k0_1 k0_2 k0_3 k0_4 k0_5 k1_0 k1_1 k1_2 k1_3 k1_4 k1_5;have y0:=hz.cell 0;have f0:=hz.frozen 0;have y1:=hz.cell 1;have f1:=hz.frozen 1;have y2:=hz.cell 2;have f2:=hz.frozen 2;refine qah rfl rfl (fun K hK=>?_);go_simp;refine hK.out _ _ ?_;clear hK K;refine qak ?_;go_wp2;refine qab (fun W=>Blk W g2 51 #[.bool z3.neg,.slice z3.a z3.n z3.c,.slice z3.b z3.m z3.d]/\Below w.heap.size w W/\Kp (fun V=>QK (k+k+(k+k)+1) V z3 (a.1*b.1+a.2*b.2)) w2.heap.size w3.heap.size W) ⟨by ((with_reducible repeat first|assumption|(apply bF;focus omega)|apply bS|(apply bN;focus (simp;done))|apply bA|apply bD);all_goals rfl),by go_grown,by (with_reducible repeat first | exact K3.out | (refine Kp.setc ?_ ?_;focus omega) | refine Kp.alloc ?_ | refine Kp.drew ?_)⟩ ?_;rintro wF ⟨hF,hwF,L1⟩;obtain ⟨e0,e1,e2⟩:=cq3 hF
 refine bodyPost_ret (v:=.agg #[.bool z3.neg,.slice z3.a z3.n z3.c,.slice z3.b z3.m z3.d]) (by simp [results,Tryz.results109,go_sem,e0,e1,e2]) rfl ?_;exact ⟨z3,rfl,Kp.made ((L1.imp fun _ h=>QK.more h (by omega)).fin (show w.heap.size<=_ from Nat.le_trans hw0.size n2)),hwF⟩
theorem qtw (x1 x2:QA) (a:P2) (k:Nat) (w:World) (H1:QK k w x1 a.1) (H2:QK k w x2 a.2) (hk:k<=10000) :
  Calls Tryz.prog 110 #[.agg #[.bool x1.neg,.slice x1.a x1.n x1.c,.slice x1.b x1.m x1.d,.bool x2.neg,.slice x2.a x2.n x2.c,.slice x2.b x2.m x2.d]] w (RetQK (k+k+(k+k)+1) (dotQ a a) w):=by
 have CD:=Hd (fun W (hW:Below w.heap.size w W)=>dot_p x1 x2 x1 x2 a a k W (H1.ext (xbw hW)) (H2.ext (xbw hW)) (H1.ext (xbw hW)) (H2.ext (xbw hW)) hk);clear H1 H2;go_enter Tryz.func110,Tryz.ntmps110;go_wp2_with fail;refine qad (fun W=>Blk W (w.heap.size+1) 51 #[.bool false,.slice none 0 0,.slice none 0 0]/\Below w.heap.size w W) ⟨by ((with_reducible repeat first|assumption|(apply bF;focus omega)|apply bS|(apply bN;focus (simp;done))|apply bA|apply bD);all_goals rfl),by go_grown⟩ ?_;rintro w0 ⟨hz,hw0⟩;obtain ⟨g,hg⟩:∃ g,w.heap.size+1=g:=⟨_,rfl⟩
 have hgB:w.heap.size<=g:=by omega
 rw [hg] at hz ⊢;replace hg:=Hd hg;refine (CD.out w0 hw0).mono ?_;rintro e w1 ⟨z,rfl,K1,hb1⟩;have hw1:=bth hw0 hb1;have hg0:=hz.lt;replace hz:=hz.below' hb1;obtain ⟨y0,y1,y2⟩:=cq3 hz;obtain ⟨f0,f1,f2⟩:=fq3 hz;have hgl:=hz.lt;have hs0:=hw0.size;replace K1:=Hd K1;clear CD hb1 hw0;go_wp2;refine qab (fun W=>Blk W g 51 #[.bool z.neg,.slice z.a z.n z.c,.slice z.b z.m z.d]/\Below w.heap.size w W/\Kp (fun V=>QK (k+k+(k+k)+1) V z (dotQ a a)) w0.heap.size w1.heap.size W) ⟨by ((with_reducible repeat first|assumption|(apply bF;focus omega)|apply bS|(apply bN;focus (simp;done))|apply bA|apply bD);all_goals rfl),by go_grown,by (with_reducible repeat first | exact K1.out | (refine Kp.setc ?_ ?_;focus omega) | refine Kp.alloc ?_ | refine Kp.drew ?_)⟩ ?_;rintro w2 ⟨hF,hw2,K2⟩;obtain ⟨e0,e1,e2⟩:=cq3 hF
 refine bodyPost_ret (v:=.agg #[.bool z.neg,.slice z.a z.n z.c,.slice z.b z.m z.d]) (by simp [results,Tryz.results110,go_sem,e0,e1,e2]) rfl ?_;exact ⟨z,rfl,Kp.made (K2.fin hs0),hw2⟩
end Go.Proofs.YtfaalkneigpcnaaGreatDoor
