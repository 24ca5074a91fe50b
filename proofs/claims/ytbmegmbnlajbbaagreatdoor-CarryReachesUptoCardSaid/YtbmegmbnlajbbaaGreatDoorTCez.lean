/- The card of CarryReaches. -/
import Derived.Test.YtbmegmbnlajbbaaGreatDoorCards
import Derived.Test.YtbmegmbnlajbbaaGreatDoorTie
import Derived.Test.YtbmegmbnlajbbaaGreatDoorTCeg
import Derived.Test.YtbmegmbnlajbbaaGreatDoorTCeh
import Derived.Test.YtbmegmbnlajbbaaGreatDoorTCei
namespace Go.Proofs.YtbmegmbnlajbbaaGreatDoor.CarryRe
open Go.Proofs.YtbmegmbnlajbbaaGreatDoor.RowC Go Go.Fw Go.Proofs Go.ChangeShapes Go.WideShapes Go.ChangeAt Go.RowKit
theorem readable:∀ t∈Tryz.f9.params.toList,Tryz.prog.readableRec t=true/\t < Tryz.prog.types.size:=by
 rw [Tryz.params9]
 intro t ht
 simp only [List.mem_cons,List.not_mem_nil,or_false] at ht
 rcases ht with rfl | rfl <;> exact⟨by kernel_rfl,of_decide_eq_true (by kernel_rfl)⟩
set_option maxRecDepth 100000 in
theorem contract (H:Type) (enc:TypeId×Value->H) (W:World) (base:Nat) (args:Array Value) (ds gs:List (DataW H)) (before:List MemPlace)
  (hval:∀ (j:Nat) t v,Tryz.f9.params[j]?=some t->args[j]?=some v->Value.okWide Tryz.prog W .any base t v)
  (hW:DataW.Whole enc Tryz.prog Tryz.f9.params.toList Rows.carryReachesSpec.vars false W args.toList ds gs before) (hL:laidMetH Tryz.prog Rows.carryReachesUptoRow.laid W) (hU:Rows.uptoSmall H (ds++gs)=true)
  (hZ:(DataW.weightsEach Tryz.prog (Tryz.f9.params.toList++(Rows.OpenSpec.upto Rows.carryReachesSpec).bare.plain.varTypes Tryz.prog) (ds++gs)).all (·<=reachBytes)=true) :
  Calls Tryz.prog 9 args W fun e W'=>∃ v,e=.returned v/\Rows.carryReachesSpec.post enc Tryz.prog Tryz.f9 false true false false W args v W':=by
 have hW':=hW
 obtain⟨p,q,hA0,hV,rfl,hfz,hnd⟩:=hW
 have hA:DataW.TrodAll enc Tryz.prog W 0 (fun _=>true) true Tryz.f9.params.toList args.toList ds p:=hA0
 rw [Tryz.params9] at hA hval
 obtain⟨v0,vs0,d0,ds0,p0,q0,hargs,rfl,rfl,h0,r0⟩:=trodAll_cons hA
 obtain⟨v1,vs1,d1,ds1,p1,q1,rfl,rfl,rfl,h1,r1⟩:=trodAll_cons r0
 obtain⟨rfl,rfl,rfl⟩:=trodAll_nil r1
 obtain rfl:args=#[v0,v1]:=by cases args;simp_all
 obtain⟨rfl,rfl⟩:=trodVars_none hV
 have hwt0:∀ m∈d0.weights Tryz.prog 56,m<=reachBytes:=fun m hm=>by
  have hz:=List.all_eq_true.1 hZ m (by simp only [Tryz.params9,List.cons_append,DataW.weightsEach,List.mem_append,List.append_nil];exact .inl hm)
  simpa using hz
 have hwt1:∀ m∈d1.weights Tryz.prog 3,m<=reachBytes:=fun m hm=>by
  have hz:=List.all_eq_true.1 hZ m (by simp only [Tryz.params9,List.cons_append,DataW.weightsEach,List.mem_append,List.append_nil];exact .inr (.inl hm))
  simpa using hz
 have hb:Rows.uptoBulkAll ([d0,d1]++([]:List (DataW H)))<=1048576:=of_decide_eq_true hU
 have hb0:Rows.uptoBulk d0<=1048576:=Nat.le_trans (z0c (by simp)) hb
 obtain⟨kd,rfl,rfl,rfl,_⟩:=open_int (k:=.i64) (by kernel_rfl) (hval 1 3 v1 rfl rfl) h1
 obtain⟨fu0,hf0⟩:=h0
 obtain⟨a,n,nc,dr,sp,rfl,hRW⟩:=qky hf0 (qj6 (Q:=P) qnq (hval 0 56 v0 rfl rfl)) hb0
 have hR:=qk9 (table hL)
 refine (qaj (w:=W) (nc:=nc) (dr:=dr) (sp:=sp) (kind:=kd) rfl hR hRW).2.mono ?_
 rintro e W' ⟨⟨rfl,hx⟩,hc⟩
 refine⟨_,rfl,?_⟩
 exact qir laidOut readable rfl hW' rfl rfl (fun _ _ _=>trodAll_cons_mk (shut_bool (by kernel_rfl) _) trodAll_mk0) hx hc (ok_one (t:=4) rfl rfl (okWide_bool_mk (by kernel_rfl) _))
noncomputable def wargs:Array Value:=#[.agg #[.slice none 0 0,.int .i64 0,.int .i64 0],.int .i64 2]
theorem laid_met (os:Os):laidMet Tryz.prog Rows.carryReachesUptoRow.laid ((laidWorld os).forCall (fun _ _=>0) ⟨#[],wargs,[]⟩).memory:=
 laidMet_of_run' 8 (by kernel_rfl) (by kernel_rfl)
theorem reads (os:Os){H:Type}(enc:TypeId×Value->H):∃ places,DataW.whole enc Tryz.prog ((laidWorld os).forCall (fun _ _=>0) ⟨#[],wargs,[]⟩).memory Tryz.f9.params.toList Rows.carryReachesSpec.vars false wargs.toList 8=some ([.agg [.nil,.lit (.int .i64 0),.lit (.int .i64 0)],.lit (.int .i64 2)],[],places):=
 ⟨[],by kernel_rfl⟩
set_option maxRecDepth 100000 in
theorem lifted (os:Os) (started:os.Started) (H:Type) (enc:TypeId×Value->H) (F:Stop.Interp) :
  ReturnsInHanded {} Tryz.checked os 9 .any ((Rows.OpenSpec.upto Rows.carryReachesSpec).preRow enc Tryz.prog Tryz.f9 Rows.carryReachesUptoRow.domain false Rows.carryReachesUptoRow.laid) (((Rows.OpenSpec.upto Rows.carryReachesSpec).at F).post enc Tryz.prog Tryz.f9 false true false false):=by
 obtain⟨places,hx⟩:=reads os enc
 refine returnsInHanded_of_row (C:=Tryz.checked) (s:=(Rows.OpenSpec.upto Rows.carryReachesSpec)) own started (by kernel_rfl) Tryz.func9
  (witness_row_at (enc:=enc) (C:=Tryz.checked) false (laidWorld os) wargs rfl (by kernel_rfl) (by kernel_rfl) (by kernel_rfl)
   (OpenSpec.preRow_of_cond 8 hx (by kernel_rfl) (fun k hk=>by cases hk;kernel_rfl) (by kernel_rfl) (laid_met os))) ?_
 intro W base args ds gs before hval hW _ hU hZ hL _ _
 exact contract H enc W base args ds gs before hval hW hL (hU _ rfl) hZ
theorem said:Rows.CarryReachesUptoSaid:=
 OpenClaim.holds_of_cond 9 Tryz.f9 rfl rfl rfl rfl rfl rfl rfl ⟨rfl,rfl,rfl,rfl,rfl⟩ rfl rfl rfl rfl rfl (by kernel_rfl) Tryz.func9 (by kernel_rfl)
  (of_decide_eq_true (by kernel_rfl)) (by unfold Func.isWrapper;first | (rw [if_pos (by decide +kernel)];kernel_rfl) | (rw [if_neg (by decide +kernel)];exact⟨rfl,rfl⟩))
  (fun os started H enc _ F=>by rw [OpenClaim.pre_eq_preRow];exact lifted os started H enc F)
theorem plain (f:FuncId) (fn:Func) (hf:Tryz.pinned.checked.prog.funcNamed "veneer/veneerlaw08.CarryReaches"=some f) (hfn:Tryz.pinned.checked.prog.funcs[f]?=some fn) :
  false=Tryz.pinned.checked.prog.looks []/\∀ (j:Nat) t,fn.params[j]?=some t->Tryz.pinned.checked.prog.wantsStandIn t=false:=by
 obtain rfl:f=9:=Option.some.inj ((show Tryz.prog.funcNamed "veneer/veneerlaw08.CarryReaches"=some 9 by kernel_rfl).symm.trans hf) |>.symm
 obtain rfl:fn=Tryz.f9:=(Option.some.inj (Tryz.func9.symm.trans hfn)).symm
 refine⟨by kernel_rfl,fun j t ht=>?_⟩
 have hm:=Array.mem_of_getElem? ht
 rw [Tryz.params9] at hm
 simp only [List.mem_toArray,List.mem_cons,List.not_mem_nil,or_false] at hm
 rcases hm with rfl | rfl
 ·exact (show Tryz.prog.wantsStandIn 56=false by kernel_rfl)
 ·exact (show Tryz.prog.wantsStandIn 3=false by kernel_rfl)
theorem card:Rows.CarryReachesUptoCardSaid:=
 Claim7.holds_tied_plain_at .later [] _ _ _ _ said (fun _ h=>by cases h) (by kernel_rfl) (fun _ h=>by cases h) carryReachesUpto_row_tie rfl ⟨rfl,rfl⟩ (by kernel_rfl) rfl plain (by kernel_rfl)
end Go.Proofs.YtbmegmbnlajbbaaGreatDoor.CarryRe
