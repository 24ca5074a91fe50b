/- The card of ReapPlays. -/
import Derived.Test.YtbmegmbnlajbbaaGreatDoorCards
import Derived.Test.YtbmegmbnlajbbaaGreatDoorTie
import Derived.Test.YtbmegmbnlajbbaaGreatDoorTRpg
import Derived.Test.YtbmegmbnlajbbaaGreatDoorTRph
namespace Go.Proofs.YtbmegmbnlajbbaaGreatDoor.ReapPl
open Go.Proofs.YtbmegmbnlajbbaaGreatDoor.RowC Go Go.Fw Go.Proofs Go.ChangeShapes Go.WideShapes Go.ChangeAt Go.RowKit
theorem readable:∀ t∈Tryz.f8.params.toList,Tryz.prog.readableRec t=true/\t < Tryz.prog.types.size:=by
 rw [Tryz.params8]
 intro t ht
 simp only [List.mem_cons,List.not_mem_nil,or_false] at ht
 rcases ht with rfl | rfl <;> exact⟨by kernel_rfl,of_decide_eq_true (by kernel_rfl)⟩
set_option maxRecDepth 100000 in
theorem contract (H:Type) (enc:TypeId×Value->H) (W:World) (base:Nat) (args:Array Value) (ds gs:List (DataW H)) (before:List MemPlace)
  (hval:∀ (j:Nat) t v,Tryz.f8.params[j]?=some t->args[j]?=some v->Value.okWide Tryz.prog W .any base t v)
  (hW:DataW.Whole enc Tryz.prog Tryz.f8.params.toList Rows.reapPlaysSpec.vars false W args.toList ds gs before) (hL:laidMetH Tryz.prog Rows.reapPlaysUptoRow.laid W) (hU:Rows.uptoSmall H (ds++gs)=true)
  (hZ:(DataW.weightsEach Tryz.prog (Tryz.f8.params.toList++(Rows.OpenSpec.upto Rows.reapPlaysSpec).bare.plain.varTypes Tryz.prog) (ds++gs)).all (·<=reachBytes)=true) :
  Calls Tryz.prog 8 args W fun e W'=>∃ v,e=.returned v/\Rows.reapPlaysSpec.post enc Tryz.prog Tryz.f8 false true false false W args v W':=by
 have hW':=hW
 obtain⟨p,q,hA0,hV,rfl,hfz,hnd⟩:=hW
 have hA:DataW.TrodAll enc Tryz.prog W 0 (fun _=>true) true Tryz.f8.params.toList args.toList ds p:=hA0
 rw [Tryz.params8] at hA hval
 obtain⟨v0,vs0,d0,ds0,p0,q0,hargs,rfl,rfl,h0,r0⟩:=trodAll_cons hA
 obtain⟨v1,vs1,d1,ds1,p1,q1,rfl,rfl,rfl,h1,r1⟩:=trodAll_cons r0
 obtain⟨rfl,rfl,rfl⟩:=trodAll_nil r1
 obtain rfl:args=#[v0,v1]:=by cases args;simp_all
 obtain⟨rfl,rfl⟩:=trodVars_none hV
 have hwt0:∀ m∈d0.weights Tryz.prog 56,m<=reachBytes:=fun m hm=>by
  have hz:=List.all_eq_true.1 hZ m (by simp only [Tryz.params8,List.cons_append,DataW.weightsEach,List.mem_append,List.append_nil];exact .inl hm)
  simpa using hz
 have hwt1:∀ m∈d1.weights Tryz.prog 83,m<=reachBytes:=fun m hm=>by
  have hz:=List.all_eq_true.1 hZ m (by simp only [Tryz.params8,List.cons_append,DataW.weightsEach,List.mem_append,List.append_nil];exact .inr (.inl hm))
  simpa using hz
 have hb:Rows.uptoBulkAll ([d0,d1]++([]:List (DataW H)))<=1048576:=of_decide_eq_true hU
 have hb0:Rows.uptoBulk d0<=1048576:=Nat.le_trans (zth (by simp)) hb
 obtain⟨fu0,hf0⟩:=h0
 obtain⟨a,n,nc,dr,sp,rfl,hRW⟩:=qaz hf0 (qak (Q:=P) qd8 (hval 0 56 v0 rfl rfl)) hb0
 have uS1:P.underlying 83=some (.slice zq9):=by kernel_rfl
 obtain⟨ma,mn,mnc,rfl⟩:=okWide_slice uS1 (hval 1 83 v1 rfl rfl)
 obtain⟨fu1,hf1⟩:=h1
 obtain⟨a1,n1,nc1,he,hM⟩:=z7k uS1 (show shapeOf P zq9=some [(zbl,0),(zbl,1)] by kernel_rfl) (show P.cellsOf zq9=2 by kernel_rfl) hf1
 injection he with e1 e2 e3
 subst e1 e2 e3
 have hR:=z92 (table hL)
 refine (z94 (w:=W) (nc:=nc) (lnc:=mnc) (dr:=dr) (sp:=sp) rfl hR hRW hM).2.mono ?_
 rintro e W' ⟨⟨rfl,hx⟩,hc⟩
 refine⟨_,rfl,?_⟩
 exact z8j laidOut readable rfl hW' rfl rfl (fun _ _ _=>trodAll_cons_mk (shut_bool (by kernel_rfl) _) trodAll_mk0) hx hc (ok_one (t:=4) rfl rfl (okWide_bool_mk (by kernel_rfl) _))
noncomputable def wargs:Array Value:=#[.agg #[.slice none 0 0,.int .i64 0,.int .i64 0],.slice none 0 0]
theorem laid_met (os:Os):laidMet Tryz.prog Rows.reapPlaysUptoRow.laid ((laidWorld os).forCall (fun _ _=>0) ⟨#[],wargs,[]⟩).memory:=
 laidMet_of_run' 8 (by kernel_rfl) (by kernel_rfl)
theorem reads (os:Os){H:Type}(enc:TypeId×Value->H):∃ places,DataW.whole enc Tryz.prog ((laidWorld os).forCall (fun _ _=>0) ⟨#[],wargs,[]⟩).memory Tryz.f8.params.toList Rows.reapPlaysSpec.vars false wargs.toList 8=some ([.agg [.nil,.lit (.int .i64 0),.lit (.int .i64 0)],.nil],[],places):=
 ⟨[],by kernel_rfl⟩
set_option maxRecDepth 100000 in
theorem lifted (os:Os) (started:os.Started) (H:Type) (enc:TypeId×Value->H) (F:Stop.Interp) :
  ReturnsInHanded {} Tryz.checked os 8 .any ((Rows.OpenSpec.upto Rows.reapPlaysSpec).preRow enc Tryz.prog Tryz.f8 Rows.reapPlaysUptoRow.domain false Rows.reapPlaysUptoRow.laid) (((Rows.OpenSpec.upto Rows.reapPlaysSpec).at F).post enc Tryz.prog Tryz.f8 false true false false):=by
 obtain⟨places,hx⟩:=reads os enc
 refine returnsInHanded_of_row (C:=Tryz.checked) (s:=(Rows.OpenSpec.upto Rows.reapPlaysSpec)) own started (by kernel_rfl) Tryz.func8
  (witness_row_at (enc:=enc) (C:=Tryz.checked) false (laidWorld os) wargs rfl (by kernel_rfl) (by kernel_rfl) (by kernel_rfl)
   (OpenSpec.preRow_of_cond 8 hx (by kernel_rfl) (fun k hk=>by cases hk;kernel_rfl) (by kernel_rfl) (laid_met os))) ?_
 intro W base args ds gs before hval hW _ hU hZ hL _ _
 exact contract H enc W base args ds gs before hval hW hL (hU _ rfl) hZ
theorem said:Rows.ReapPlaysUptoSaid:=
 OpenClaim.holds_of_cond 8 Tryz.f8 rfl rfl rfl rfl rfl rfl rfl ⟨rfl,rfl,rfl,rfl,rfl⟩ rfl rfl rfl rfl rfl (by kernel_rfl) Tryz.func8 (by kernel_rfl)
  (of_decide_eq_true (by kernel_rfl)) (by unfold Func.isWrapper;first | (rw [if_pos (by decide +kernel)];kernel_rfl) | (rw [if_neg (by decide +kernel)];exact⟨rfl,rfl⟩))
  (fun os started H enc _ F=>by rw [OpenClaim.pre_eq_preRow];exact lifted os started H enc F)
theorem plain (f:FuncId) (fn:Func) (hf:Tryz.pinned.checked.prog.funcNamed "veneer/veneerlaw09.ReapPlays"=some f) (hfn:Tryz.pinned.checked.prog.funcs[f]?=some fn) :
  false=Tryz.pinned.checked.prog.looks []/\∀ (j:Nat) t,fn.params[j]?=some t->Tryz.pinned.checked.prog.wantsStandIn t=false:=by
 obtain rfl:f=8:=Option.some.inj ((show Tryz.prog.funcNamed "veneer/veneerlaw09.ReapPlays"=some 8 by kernel_rfl).symm.trans hf) |>.symm
 obtain rfl:fn=Tryz.f8:=(Option.some.inj (Tryz.func8.symm.trans hfn)).symm
 refine⟨by kernel_rfl,fun j t ht=>?_⟩
 have hm:=Array.mem_of_getElem? ht
 rw [Tryz.params8] at hm
 simp only [List.mem_toArray,List.mem_cons,List.not_mem_nil,or_false] at hm
 rcases hm with rfl | rfl
 ·exact (show Tryz.prog.wantsStandIn 56=false by kernel_rfl)
 ·exact (show Tryz.prog.wantsStandIn 83=false by kernel_rfl)
theorem card:Rows.ReapPlaysUptoCardSaid:=
 Claim7.holds_tied_plain_at .later [] _ _ _ _ said (fun _ h=>by cases h) (by kernel_rfl) (fun _ h=>by cases h) reapPlaysUpto_row_tie rfl ⟨rfl,rfl⟩ (by kernel_rfl) rfl plain (by kernel_rfl)
end Go.Proofs.YtbmegmbnlajbbaaGreatDoor.ReapPl
