/- The row of CertificateBack and its card: for each input the call returns true, and each argument reads behind the call as it read before. The row lists tables and errors of Go's library as its text lays them. Condition: the arguments hold together at most 1048576 values and letters. -/
import Derived.Test.YtkjnkpkagcboeaaGreatDoorCards
import Derived.Test.YtkjnkpkagcboeaaGreatDoorTie
import Derived.Test.YtkjnkpkagcboeaaGreatDoorCa15
import Derived.Test.YtkjnkpkagcboeaaGreatDoorCa14
import Derived.ChangeMaps5
import Derived.WalkKit
import Derived.ProofKit
import Derived.OpenShut
import Derived.Deep.DeepHandedRow
import Derived.Lib.LaidTab
import Derived.Lay
set_option linter.all false
set_option maxRecDepth 100000
set_option maxHeartbeats 4000000
namespace Go.Proofs.YtkjnkpkagcboeaaGreatDoor.certificateBackUpto
open Go.ChangeShapes Go.WideShapes Go.ChangeAt Go.RowKit
set_option linter.unusedVariables false
theorem own:ownKnob Tryz.prog.godebug = none:=by kernel_rfl
theorem laidOut:laidOutB Tryz.prog = true:=by kernel_rfl
theorem readable:(Tryz.f8.params.toList.all fun t=>Tryz.prog.readableRec t && decide (t < Tryz.prog.types.size)) = true:=by kernel_rfl
theorem table {W:World} (h:laidMetH Tryz.prog Rows.certificateBackUptoRow.laid W):TabW W:=by
 obtain ⟨ps,⟨_,_,_,_,_,_,_,_,_,_,h1,_⟩,_⟩:=(show laidMet Tryz.prog Rows.certificateBackUptoRow.laid W from h)
 obtain ⟨_,_,_,_,_,_,_,_,_,_,h2,_⟩:=h1;obtain ⟨g',t',cs,fuel,p,q,hg',ht',hvar,hd,_,_⟩:=h2;obtain rfl := Option.some.inj ((show Tryz.prog.globalNamed "internal/strconv.uint64pow10" = some 1 by kernel_rfl).symm.trans hg');obtain rfl:=Option.some.inj ((show (Tryz.prog.globals[1]?).map (·.type) = some 213 by kernel_rfl).symm.trans ht');unfold TabW Lib.TabIs;rw [hvar,<- Lib.cells_of_tab (zs:=Lib.pow10Tab) (k:=.u64) Tryz.underlying213 Tryz.underlying112 (by kernel_rfl) (by kernel_rfl) hd]
theorem errw {W:World} (h:laidMetH Tryz.prog Rows.certificateBackUptoRow.laid W):ErrW W:=by
 obtain ⟨ps,⟨_,_,_,_,_,_,_,_,_,_,h1,_⟩,_⟩:=(show laidMet Tryz.prog Rows.certificateBackUptoRow.laid W from h)
 obtain ⟨_,_,_,_,_,_,_,_,_,_,h2,_⟩:=h1;obtain ⟨_,_,_,_,_,_,_,_,_,_,h3,_⟩:=h2;obtain ⟨_,_,_,_,_,_,_,_,_,_,h4,_⟩:=h3;obtain ⟨g',t',cs,fuel,p,q,hg',ht',hvar,hd,_,_⟩:=h4;obtain rfl := Option.some.inj ((show Tryz.prog.globalNamed "strconv.ErrRange" = some 5 by kernel_rfl).symm.trans hg');obtain rfl:=Option.some.inj ((show (Tryz.prog.globals[5]?).map (·.type) = some 65 by kernel_rfl).symm.trans ht');obtain ⟨_, u, v, hcs, _, _⟩ := iface_of_trod (name := "*errors.errorString") Tryz.underlying65 hd;have h0:=World.var?_cell Tryz.lays172.m16 hvar 0;have h1:cs[0]? = some (.iface u v):=by rw [<- Array.getElem?_toList,hcs]; rfl
 exact ⟨u,v,h0.trans h1⟩
theorem errs {W:World} (h:laidMetH Tryz.prog Rows.certificateBackUptoRow.laid W):ErrS W:=by
 obtain ⟨ps,⟨_,_,_,_,_,_,_,_,_,_,h1,_⟩,_⟩:=(show laidMet Tryz.prog Rows.certificateBackUptoRow.laid W from h)
 obtain ⟨_,_,_,_,_,_,_,_,_,_,h2,_⟩:=h1;obtain ⟨_,_,_,_,_,_,_,_,_,_,h3,_⟩:=h2;obtain ⟨_,_,_,_,_,_,_,_,_,_,h4,_⟩:=h3;obtain ⟨_,_,_,_,_,_,_,_,_,_,h5,_⟩:=h4;obtain ⟨g',t',cs,fuel,p,q,hg',ht',hvar,hd,_,_⟩:=h5;obtain rfl := Option.some.inj ((show Tryz.prog.globalNamed "strconv.ErrSyntax" = some 4 by kernel_rfl).symm.trans hg');obtain rfl:=Option.some.inj ((show (Tryz.prog.globals[4]?).map (·.type) = some 65 by kernel_rfl).symm.trans ht');obtain ⟨_, u, v, hcs, _, _⟩ := iface_of_trod (name := "*errors.errorString") Tryz.underlying65 hd;have h0:=World.var?_cell Tryz.lays172.m15 hvar 0;have h1:cs[0]? = some (.iface u v):=by rw [<- Array.getElem?_toList,hcs]; rfl
 exact ⟨u,v,h0.trans h1⟩
theorem contract (H:Type) (enc:TypeId × Value -> H) (W:World) (base:Nat) (args:Array Value) (ds gs:List (DataW H)) (before:List MemPlace)
  (hval:∀ (j:Nat) t v,Tryz.f8.params[j]? = some t -> args[j]? = some v -> Value.okWide Tryz.prog W .any base t v)
  (hW:DataW.Whole enc Tryz.prog Tryz.f8.params.toList Rows.certificateBackSpec.vars false W args.toList ds gs before) (hk:Rows.uptoSmall H (ds ++ gs) = true) (hL:laidMetH Tryz.prog Rows.certificateBackUptoRow.laid W) (hsh:W.ShapedOpen Tryz.prog) :
  Calls Tryz.prog 8 args W fun e W'=>∃ v,e = .returned v /\ Rows.certificateBackSpec.post enc Tryz.prog Tryz.f8 false true false false W args v W':=by
 have hW':=hW;obtain ⟨p,q,hA0,hV,rfl,hfz,hnd⟩:=hW;have hA:DataW.TrodAll enc Tryz.prog W 0 (fun _=>true) true Tryz.f8.params.toList args.toList ds p:=hA0;rw [Tryz.params8] at hA hval;obtain ⟨v0,vs0,d0,ds0,p0,q0,hargs,rfl,rfl,h0,r0⟩:=trodAll_cons hA;obtain ⟨v1,vs1,d1,ds1,p1,q1,rfl,rfl,rfl,h1,r1⟩:=trodAll_cons r0;obtain ⟨rfl,rfl,rfl⟩:=trodAll_nil r1;obtain rfl:args = #[v0,v1]:=by cases args; simp_all
 obtain ⟨rfl,rfl⟩:=trodVars_none hV;clear hA0 hA r0 r1;have hbulk:=of_decide_eq_true hk;simp only [List.cons_append,List.nil_append,Rows.uptoBulkAll] at hbulk;have hx0:=open_certificate (hval 0 40 v0 rfl rfl) h0;have hx1:=open_strsa (hval 1 24 v1 rfl rfl) h1;refine (certificateBack_law  hx0 hx1 (by omega) (MaxL.of hsh) (errw hL) (errs hL) (table hL)).mono fun e W' ⟨he,hg⟩=>?_
 subst he;exact ⟨_,rfl,law_post laidOut readable (by kernel_rfl) Tryz.underlying4 rfl hW' (by rfl) hg⟩
noncomputable def laidWorld (os:Os):World:=World.laidAll Tryz.prog os Rows.certificateBackUptoRow.laid
def wargs:Array Value:=#[.agg #[.slice none 0 0,.slice none 0 0,.int .i64 0,.slice none 0 0],.slice none 0 0]
theorem laid_met (os:Os):laidMet Tryz.prog Rows.certificateBackUptoRow.laid ((laidWorld os).forCall (fun _ _=>0) ⟨#[],wargs,[]⟩).memory :=
 laidMet_laidAll wargs (by kernel_rfl) (by kernel_rfl)
theorem reads (os:Os) {H:Type} (enc:TypeId × Value -> H):∃ places,DataW.whole enc Tryz.prog ((laidWorld os).forCall (fun _ _=>0) ⟨#[],wargs,[]⟩).memory Tryz.f8.params.toList Rows.certificateBackSpec.vars false wargs.toList 8 = some ([.agg [.nil,.nil,.lit (.int .i64 0),.nil],.nil],[],places) :=
 ⟨[],by kernel_rfl⟩
theorem lifted (os:Os) (started:os.Started) (H:Type) (enc:TypeId × Value -> H) (F:Stop.Interp) :
  ReturnsInHanded {} Tryz.checked os 8 .any ((Rows.OpenSpec.upto Rows.certificateBackSpec).preRow enc Tryz.prog Tryz.f8 Rows.certificateBackUptoRow.domain false Rows.certificateBackUptoRow.laid) (((Rows.OpenSpec.upto Rows.certificateBackSpec).at F).post enc Tryz.prog Tryz.f8 false true false false):=by
 obtain ⟨places,hx⟩:=reads os enc;refine returnsInHanded_of_row (C:=Tryz.checked) (s:=Rows.OpenSpec.upto Rows.certificateBackSpec) own started (by kernel_rfl) Tryz.func8
  (witness_row_at (enc:=enc) (C:=Tryz.checked) false (laidWorld os) wargs (World.laidAll_os _ _ _) (by kernel_rfl) (by kernel_rfl) (by kernel_rfl)
   (OpenSpec.preRow_of_cond 8 hx (by kernel_rfl) (fun k hk=>by cases hk; kernel_rfl) (by kernel_rfl) (laid_met os))) ?_
 intro W base args ds gs before hval hW _ hcond _ hL hsh _;exact contract H enc W base args ds gs before hval hW (hcond _ rfl) hL hsh
theorem said:Rows.CertificateBackUptoSaid :=
 OpenClaim.holds_of_cond 8 Tryz.f8 rfl rfl rfl rfl rfl rfl rfl ⟨rfl,rfl,rfl,rfl,rfl⟩ rfl rfl rfl rfl rfl (by kernel_rfl) Tryz.func8 (by kernel_rfl)
  (of_decide_eq_true (by kernel_rfl)) (by unfold Func.isWrapper; first | (rw [if_pos (by decide +kernel)]; kernel_rfl) | (rw [if_neg (by decide +kernel)]; exact ⟨rfl,rfl⟩))
  (fun os started H enc _ F=>by rw [OpenClaim.pre_eq_preRow]; exact lifted os started H enc F)
theorem plain (f : FuncId) (fn : Func) (hf : Tryz.pinned.checked.prog.funcNamed "geoprover/geoproverlaw30.CertificateBack" = some f) (hfn : Tryz.pinned.checked.prog.funcs[f]? = some fn) :
  true = Tryz.pinned.checked.prog.looks [] /\ ∀ (j:Nat) t,fn.params[j]? = some t -> Tryz.pinned.checked.prog.wantsStandIn t = false:=by
 obtain rfl : f = 8 := Option.some.inj ((show Tryz.prog.funcNamed "geoprover/geoproverlaw30.CertificateBack" = some 8 by kernel_rfl).symm.trans hf) |>.symm
 obtain rfl:fn = Tryz.f8:=(Option.some.inj (Tryz.func8.symm.trans hfn)).symm;refine ⟨by kernel_rfl,fun j t ht=>?_⟩;rw [Tryz.params8] at ht;obtain rfl | rfl:t = 40 \/ t = 24:=by simpa using Array.mem_of_getElem? ht
 · exact (show Tryz.prog.wantsStandIn 40 = false by kernel_rfl)
 · exact (show Tryz.prog.wantsStandIn 24 = false by kernel_rfl)
theorem card:Rows.CertificateBackUptoCardSaid :=
 Claim7.holds_tied_plain_at .later [] _ _ _ _ said (fun _ h=>by cases h) (by kernel_rfl) (fun _ h=>by cases h) certificateBackUpto_row_tie rfl ⟨rfl,rfl⟩ (by kernel_rfl) rfl plain (by kernel_rfl)
#print axioms said
#print axioms card
end Go.Proofs.YtkjnkpkagcboeaaGreatDoor.certificateBackUpto
