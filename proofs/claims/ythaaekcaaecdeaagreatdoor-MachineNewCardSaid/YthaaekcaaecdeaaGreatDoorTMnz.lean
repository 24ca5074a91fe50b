/- The card of MachineNew. -/
import Derived.Test.YthaaekcaaecdeaaGreatDoorCards
import Derived.Test.YthaaekcaaecdeaaGreatDoorTie
import Derived.Test.YthaaekcaaecdeaaGreatDoorTMnf
import Derived.LaidHandle
namespace Go.Proofs.YthaaekcaaecdeaaGreatDoor.MachNew
open Go.Proofs.YthaaekcaaecdeaaGreatDoor.RowC Go Go.Fw Go.Proofs Go.ChangeShapes Go.WideShapes Go.ChangeAt Go.RowKit
theorem readable:∀ t∈Tryz.f4.params.toList,Tryz.prog.readableRec t=true/\t < Tryz.prog.types.size:=by
 rw [Tryz.params4]
 intro t ht
 simp only [List.mem_cons,List.not_mem_nil,or_false] at ht
 rcases ht with rfl | rfl | rfl | rfl <;> exact⟨by kernel_rfl,of_decide_eq_true (by kernel_rfl)⟩
set_option maxRecDepth 100000 in
theorem contract (H:Type) (enc:TypeId×Value->H) (W:World) (base:Nat) (args:Array Value) (ds gs:List (DataW H)) (before:List MemPlace)
  (hval:∀ (j:Nat) t v,Tryz.f4.params[j]?=some t->args[j]?=some v->Value.okWide Tryz.prog W .any base t v)
  (hW:DataW.Whole enc Tryz.prog Tryz.f4.params.toList Rows.machineNewSpec.vars false W args.toList ds gs before) (hL:laidMetH Tryz.prog Rows.machineNewRow.laid W)
  (hZ:(DataW.weightsEach Tryz.prog (Tryz.f4.params.toList++(OpenSpec.ofChange Rows.machineNewSpec).bare.plain.varTypes Tryz.prog) (ds++gs)).all (·<=reachBytes)=true) :
  Calls Tryz.prog 4 args W fun e W'=>∃ v,e=.returned v/\Rows.machineNewSpec.post enc Tryz.prog Tryz.f4 false true false false W args v W':=by
 have hW':=hW
 obtain⟨p,q,hA0,hV,rfl,hfz,hnd⟩:=hW
 have hA:DataW.TrodAll enc Tryz.prog W 0 (fun _=>true) true Tryz.f4.params.toList args.toList ds p:=hA0
 rw [Tryz.params4] at hA hval
 obtain⟨v0,vs0,d0,ds0,p0,q0,hargs,rfl,rfl,h0,r0⟩:=trodAll_cons hA
 obtain⟨v1,vs1,d1,ds1,p1,q1,rfl,rfl,rfl,h1,r1⟩:=trodAll_cons r0
 obtain⟨v2,vs2,d2,ds2,p2,q2,rfl,rfl,rfl,h2,r2⟩:=trodAll_cons r1
 obtain⟨v3,vs3,d3,ds3,p3,q3,rfl,rfl,rfl,h3,r3⟩:=trodAll_cons r2
 obtain⟨rfl,rfl,rfl⟩:=trodAll_nil r3
 obtain rfl:args=#[v0,v1,v2,v3]:=by cases args;simp_all
 obtain⟨rfl,rfl⟩:=trodVars_none hV
 have hwt0:∀ m∈d0.weights Tryz.prog 3,m<=reachBytes:=fun m hm=>by
  have hz:=List.all_eq_true.1 hZ m (by simp only [Tryz.params4,List.cons_append,DataW.weightsEach,List.mem_append,List.append_nil];exact .inl hm)
  simpa using hz
 have hwt1:∀ m∈d1.weights Tryz.prog 3,m<=reachBytes:=fun m hm=>by
  have hz:=List.all_eq_true.1 hZ m (by simp only [Tryz.params4,List.cons_append,DataW.weightsEach,List.mem_append,List.append_nil];exact .inr (.inl hm))
  simpa using hz
 have hwt2:∀ m∈d2.weights Tryz.prog 3,m<=reachBytes:=fun m hm=>by
  have hz:=List.all_eq_true.1 hZ m (by simp only [Tryz.params4,List.cons_append,DataW.weightsEach,List.mem_append,List.append_nil];exact .inr (.inr (.inl hm)))
  simpa using hz
 have hwt3:∀ m∈d3.weights Tryz.prog 54,m<=reachBytes:=fun m hm=>by
  have hz:=List.all_eq_true.1 hZ m (by simp only [Tryz.params4,List.cons_append,DataW.weightsEach,List.mem_append,List.append_nil];exact .inr (.inr (.inr (.inl hm))))
  simpa using hz
 obtain⟨n0,rfl,rfl,rfl,_⟩:=open_int (k:=.i64) (by kernel_rfl) (hval 0 3 v0 rfl rfl) h0
 obtain⟨n1,rfl,rfl,rfl,_⟩:=open_int (k:=.i64) (by kernel_rfl) (hval 1 3 v1 rfl rfl) h1
 obtain⟨n2,rfl,rfl,rfl,_⟩:=open_int (k:=.i64) (by kernel_rfl) (hval 2 3 v2 rfl rfl) h2
 obtain⟨cs,rfl⟩:=zzn (Q:=P) z9d (hval 3 54 v3 rfl rfl)
 obtain⟨fu3,hf3⟩:=h3
 obtain⟨cl,nu,o,hcs⟩:=zw1 hf3
 obtain rfl:cs=(zx2 cl nu o).toArray:=Array.ext' (by simpa [Value.cells] using hcs)
 refine (zxb (w:=W) (cl:=cl) (nu:=nu) (o:=o) rfl).2.mono ?_
 rintro e W' ⟨⟨rfl,hx⟩,hc⟩
 refine⟨_,rfl,?_⟩
 exact zyl laidOut readable rfl hW' rfl rfl (fun _ _ _=>trodAll_cons_mk (shut_bool (by kernel_rfl) _) trodAll_mk0) hx hc (ok_one (t:=4) rfl rfl (okWide_bool_mk (by kernel_rfl) _))
noncomputable def wargs:Array Value:=#[.int .i64 0,.int .i64 0,.int .i64 0,.agg #[.int .i64 0,.int .i64 0,.int .i64 0,.string .empty,.string .empty,.string .empty,.int .i64 0,.int .i64 0]]
theorem laid_met (os:Os):laidMetH Tryz.prog Rows.machineNewRow.laid ((laidWorld os).forCall (fun _ _=>0) ⟨#[],wargs,[]⟩).memory:=
 laidMetH_of_parts (laidMet_of_run' 8 (by kernel_rfl) (by kernel_rfl)) (by kernel_rfl)
theorem reads (os:Os){H:Type}(enc:TypeId×Value->H):∃ places,DataW.whole enc Tryz.prog ((laidWorld os).forCall (fun _ _=>0) ⟨#[],wargs,[]⟩).memory Tryz.f4.params.toList Rows.machineNewSpec.vars false wargs.toList 8=some ([.lit (.int .i64 0),.lit (.int .i64 0),.lit (.int .i64 0),.agg [.lit (.int .i64 0),.lit (.int .i64 0),.agg [.lit (.int .i64 0),.lit (.string []),.lit (.string []),.lit (.string []),.lit (.int .i64 0),.lit (.int .i64 0)]]],[],places):=
 ⟨[],by kernel_rfl⟩
set_option maxRecDepth 100000 in
theorem lifted (os:Os) (started:os.Started) (H:Type) (enc:TypeId×Value->H) (F:Stop.Interp) :
  ReturnsInHanded {} Tryz.checked os 4 .any ((OpenSpec.ofChange Rows.machineNewSpec).preRow enc Tryz.prog Tryz.f4 Rows.machineNewRow.domain false Rows.machineNewRow.laid) (((OpenSpec.ofChange Rows.machineNewSpec).at F).post enc Tryz.prog Tryz.f4 false true false false):=by
 obtain⟨places,hx⟩:=reads os enc
 refine returnsInHanded_of_row (C:=Tryz.checked) (s:=(OpenSpec.ofChange Rows.machineNewSpec)) own started (by kernel_rfl) Tryz.func4
  (witness_row_at (enc:=enc) (C:=Tryz.checked) false (laidWorld os) wargs rfl (by kernel_rfl) (by kernel_rfl) (by kernel_rfl)
   (OpenSpec.preRow_of_cond 8 hx (by kernel_rfl) (fun k hk=>by cases hk) (by kernel_rfl) (laid_met os))) ?_
 intro W base args ds gs before hval hW _ hU hZ hL _ _
 exact contract H enc W base args ds gs before hval hW hL hZ
theorem said:Rows.MachineNewSaid:=
 OpenClaim.holds_of_cond 4 Tryz.f4 rfl rfl rfl rfl rfl rfl rfl ⟨rfl,rfl,rfl,rfl,rfl⟩ rfl rfl rfl rfl rfl (by kernel_rfl) Tryz.func4 (by kernel_rfl)
  (of_decide_eq_true (by kernel_rfl)) (by unfold Func.isWrapper;first | (rw [if_pos (by decide +kernel)];kernel_rfl) | (rw [if_neg (by decide +kernel)];exact⟨rfl,rfl⟩))
  (fun os started H enc _ F=>by rw [OpenClaim.pre_eq_preRow];exact lifted os started H enc F)
theorem plain (f:FuncId) (fn:Func) (hf:Tryz.pinned.checked.prog.funcNamed "veneer/veneerlaw15.MachineNew"=some f) (hfn:Tryz.pinned.checked.prog.funcs[f]?=some fn) :
  true=Tryz.pinned.checked.prog.looks []/\∀ (j:Nat) t,fn.params[j]?=some t->Tryz.pinned.checked.prog.wantsStandIn t=false:=by
 obtain rfl:f=4:=Option.some.inj ((show Tryz.prog.funcNamed "veneer/veneerlaw15.MachineNew"=some 4 by kernel_rfl).symm.trans hf) |>.symm
 obtain rfl:fn=Tryz.f4:=(Option.some.inj (Tryz.func4.symm.trans hfn)).symm
 refine⟨by kernel_rfl,fun j t ht=>?_⟩
 have hm:=Array.mem_of_getElem? ht
 rw [Tryz.params4] at hm
 simp only [List.mem_toArray,List.mem_cons,List.not_mem_nil,or_false] at hm
 rcases hm with rfl | rfl | rfl | rfl
 ·exact (show Tryz.prog.wantsStandIn 3=false by kernel_rfl)
 ·exact (show Tryz.prog.wantsStandIn 3=false by kernel_rfl)
 ·exact (show Tryz.prog.wantsStandIn 3=false by kernel_rfl)
 ·exact (show Tryz.prog.wantsStandIn 54=false by kernel_rfl)
theorem card:Rows.MachineNewCardSaid:=
 Claim7.holds_tied_plain_at .later [] _ _ _ _ said (fun _ h=>by cases h) (by kernel_rfl) (fun _ h=>by cases h) machineNew_row_tie rfl ⟨rfl,rfl⟩ (by kernel_rfl) rfl plain (by kernel_rfl)
end Go.Proofs.YthaaekcaaecdeaaGreatDoor.MachNew
