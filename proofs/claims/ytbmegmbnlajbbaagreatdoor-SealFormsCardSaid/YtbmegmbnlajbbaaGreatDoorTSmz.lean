/- The card of SealForms. -/
import Derived.Test.YtbmegmbnlajbbaaGreatDoorCards
import Derived.Test.YtbmegmbnlajbbaaGreatDoorTie
import Derived.Test.YtbmegmbnlajbbaaGreatDoorTSmh
namespace Go.Proofs.YtbmegmbnlajbbaaGreatDoor.SealFm
open Go.Proofs.YtbmegmbnlajbbaaGreatDoor.RowC Go Go.Fw Go.Proofs Go.ChangeShapes Go.WideShapes Go.ChangeAt Go.RowKit
theorem readable:∀ t ∈ Tryz.f4.params.toList,Tryz.prog.readableRec t=true∧t < Tryz.prog.types.size:=by
 rw [Tryz.params4]
 intro t ht
 simp only [List.mem_cons,List.not_mem_nil,or_false] at ht
 subst ht
 exact ⟨by kernel_rfl,of_decide_eq_true (by kernel_rfl)⟩
set_option maxRecDepth 100000 in
theorem contract (H:Type) (enc:TypeId × Value→H) (W:World) (base:Nat) (args:Array Value) (ds gs:List (DataW H)) (before:List MemPlace)
  (hval:∀ (j:Nat) t v,Tryz.f4.params[j]?=some t→args[j]?=some v→Value.okWide Tryz.prog W .any base t v)
  (hW:DataW.Whole enc Tryz.prog Tryz.f4.params.toList Rows.sealFormsSpec.vars false W args.toList ds gs before) (hL:laidMetH Tryz.prog Rows.sealFormsRow.laid W)
  (hZ:(DataW.weightsEach Tryz.prog (Tryz.f4.params.toList++(OpenSpec.ofChange Rows.sealFormsSpec).bare.plain.varTypes Tryz.prog) (ds++gs)).all (·≤reachBytes)=true) :
  Calls Tryz.prog 4 args W fun e W'=>∃ v,e=.returned v∧Rows.sealFormsSpec.post enc Tryz.prog Tryz.f4 false true false false W args v W':=by
 have hW':=hW
 obtain ⟨p,q,hA0,hV,rfl,hfz,hnd⟩:=hW
 have hA:DataW.TrodAll enc Tryz.prog W 0 (fun _=>true) true Tryz.f4.params.toList args.toList ds p:=hA0
 rw [Tryz.params4] at hA hval
 obtain ⟨v0,vs0,d0,ds0,p0,q0,hargs,rfl,rfl,h0,r0⟩:=trodAll_cons hA
 obtain ⟨rfl,rfl,rfl⟩:=trodAll_nil r0
 obtain rfl:args=#[v0]:=by cases args;simp_all
 obtain ⟨rfl,rfl⟩:=trodVars_none hV
 have hwt0:∀ m ∈ d0.weights Tryz.prog 22,m≤reachBytes:=fun m hm=>by
  have hz:=List.all_eq_true.1 hZ m (by simp only [Tryz.params4,List.cons_append,DataW.weightsEach,List.mem_append,List.append_nil];exact .inl hm)
  simpa using hz
 have uS:P.underlying 22=some (.slice zl):=by kernel_rfl
 obtain ⟨sa,sn,snc,rfl⟩:=okWide_slice uS (hval 0 22 v0 rfl rfl)
 obtain ⟨fu0,hf0⟩:=h0
 obtain ⟨a,n,nc,L,he,hC,hn,hmax⟩:=qie uS hf0
 injection he with e1 e2 e3
 subst e1 e2 e3
 have hR:=qjx (table hL)
 refine (qjd (w:=W) rfl hR hC hn hmax).2.mono ?_
 rintro e W' ⟨⟨rfl,hx⟩,hc⟩
 refine ⟨_,rfl,?_⟩
 exact qjm laidOut readable rfl hW' rfl rfl (fun _ _ _=>trodAll_cons_mk (shut_bool (by kernel_rfl) _) trodAll_mk0) hx hc (ok_one (t:=4) rfl rfl (okWide_bool_mk (by kernel_rfl) _))
noncomputable def wargs:Array Value:=#[.slice none 0 0]
theorem laid_met (os:Os):laidMet Tryz.prog Rows.sealFormsRow.laid ((laidWorld os).forCall (fun _ _=>0) ⟨#[],wargs,[]⟩).memory :=
 laidMet_of_run' 8 (by kernel_rfl) (by kernel_rfl)
theorem reads (os:Os) {H:Type} (enc:TypeId × Value→H):∃ places,DataW.whole enc Tryz.prog ((laidWorld os).forCall (fun _ _=>0) ⟨#[],wargs,[]⟩).memory Tryz.f4.params.toList Rows.sealFormsSpec.vars false wargs.toList 8=some ([.nil],[],places) :=
 ⟨[],by kernel_rfl⟩
set_option maxRecDepth 100000 in
theorem lifted (os:Os) (started:os.Started) (H:Type) (enc:TypeId × Value→H) (F:Stop.Interp) :
  ReturnsInHanded {} Tryz.checked os 4 .any ((OpenSpec.ofChange Rows.sealFormsSpec).preRow enc Tryz.prog Tryz.f4 Rows.sealFormsRow.domain false Rows.sealFormsRow.laid) (((OpenSpec.ofChange Rows.sealFormsSpec).at F).post enc Tryz.prog Tryz.f4 false true false false):=by
 obtain ⟨places,hx⟩:=reads os enc
 refine returnsInHanded_of_row (C:=Tryz.checked) (s:=(OpenSpec.ofChange Rows.sealFormsSpec)) own started (by kernel_rfl) Tryz.func4
  (witness_row_at (enc:=enc) (C:=Tryz.checked) false (laidWorld os) wargs rfl (by kernel_rfl) (by kernel_rfl) (by kernel_rfl)
   (OpenSpec.preRow_of_cond 8 hx (by kernel_rfl) (fun k hk=>by cases hk) (by kernel_rfl) (laid_met os))) ?_
 intro W base args ds gs before hval hW _ hU hZ hL _ _
 exact contract H enc W base args ds gs before hval hW hL hZ
theorem said:Rows.SealFormsSaid :=
 OpenClaim.holds_of_cond 4 Tryz.f4 rfl rfl rfl rfl rfl rfl rfl ⟨rfl,rfl,rfl,rfl,rfl⟩ rfl rfl rfl rfl rfl (by kernel_rfl) Tryz.func4 (by kernel_rfl)
  (of_decide_eq_true (by kernel_rfl)) (by unfold Func.isWrapper;first | (rw [if_pos (by decide +kernel)];kernel_rfl) | (rw [if_neg (by decide +kernel)];exact ⟨rfl,rfl⟩))
  (fun os started H enc _ F=>by rw [OpenClaim.pre_eq_preRow];exact lifted os started H enc F)
theorem plain (f:FuncId) (fn:Func) (hf:Tryz.pinned.checked.prog.funcNamed "veneer/veneerlaw16.SealForms"=some f) (hfn:Tryz.pinned.checked.prog.funcs[f]?=some fn) :
  false=Tryz.pinned.checked.prog.looks []∧∀ (j:Nat) t,fn.params[j]?=some t→Tryz.pinned.checked.prog.wantsStandIn t=false:=by
 obtain rfl:f=4:=Option.some.inj ((show Tryz.prog.funcNamed "veneer/veneerlaw16.SealForms"=some 4 by kernel_rfl).symm.trans hf) |>.symm
 obtain rfl:fn=Tryz.f4:=(Option.some.inj (Tryz.func4.symm.trans hfn)).symm
 refine ⟨by kernel_rfl,fun j t ht=>?_⟩
 have hm:=Array.mem_of_getElem? ht
 rw [Tryz.params4] at hm
 simp only [List.mem_toArray,List.mem_cons,List.not_mem_nil,or_false] at hm
 rcases hm with rfl
 ·exact (show Tryz.prog.wantsStandIn 22=false by kernel_rfl)
theorem card:Rows.SealFormsCardSaid :=
 Claim7.holds_tied_plain_at .later [] _ _ _ _ said (fun _ h=>by cases h) (by kernel_rfl) (fun _ h=>by cases h) sealForms_row_tie rfl ⟨rfl,rfl⟩ (by kernel_rfl) rfl plain (by kernel_rfl)
end Go.Proofs.YtbmegmbnlajbbaaGreatDoor.SealFm
