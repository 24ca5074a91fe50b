/- The card of CarryPlays. -/
import Derived.Test.YtbmegmbnlajbbaaGreatDoorCards
import Derived.Test.YtbmegmbnlajbbaaGreatDoorTie
import Derived.Test.YtbmegmbnlajbbaaGreatDoorTCpg
import Derived.Test.YtbmegmbnlajbbaaGreatDoorTCpi
namespace Go.Proofs.YtbmegmbnlajbbaaGreatDoor.CarryPl
open Go.Proofs.YtbmegmbnlajbbaaGreatDoor.RowC Go Go.Fw Go.Proofs Go.ChangeShapes Go.WideShapes Go.ChangeAt Go.RowKit
theorem readable:∀ t∈Tryz.f6.params.toList,Tryz.prog.readableRec t=true/\t < Tryz.prog.types.size:=by
 rw [Tryz.params6]
 intro t ht
 simp only [List.mem_cons,List.not_mem_nil,or_false] at ht
 rcases ht with rfl | rfl | rfl | rfl | rfl <;> exact⟨by kernel_rfl,of_decide_eq_true (by kernel_rfl)⟩
set_option maxRecDepth 100000 in
theorem contract (H:Type) (enc:TypeId×Value->H) (W:World) (base:Nat) (args:Array Value) (ds gs:List (DataW H)) (before:List MemPlace)
  (hval:∀ (j:Nat) t v,Tryz.f6.params[j]?=some t->args[j]?=some v->Value.okWide Tryz.prog W .any base t v)
  (hW:DataW.Whole enc Tryz.prog Tryz.f6.params.toList Rows.carryPlaysSpec.vars false W args.toList ds gs before) (hL:laidMetH Tryz.prog Rows.carryPlaysUptoRow.laid W) (hU:Rows.uptoSmall H (ds++gs)=true)
  (hZ:(DataW.weightsEach Tryz.prog (Tryz.f6.params.toList++(Rows.OpenSpec.upto Rows.carryPlaysSpec).bare.plain.varTypes Tryz.prog) (ds++gs)).all (·<=reachBytes)=true) :
  Calls Tryz.prog 6 args W fun e W'=>∃ v,e=.returned v/\Rows.carryPlaysSpec.post enc Tryz.prog Tryz.f6 false true false false W args v W':=by
 have hW':=hW
 obtain⟨p,q,hA0,hV,rfl,hfz,hnd⟩:=hW
 have hA:DataW.TrodAll enc Tryz.prog W 0 (fun _=>true) true Tryz.f6.params.toList args.toList ds p:=hA0
 rw [Tryz.params6] at hA hval
 obtain⟨v0,vs0,d0,ds0,p0,q0,hargs,rfl,rfl,h0,r0⟩:=trodAll_cons hA
 obtain⟨v1,vs1,d1,ds1,p1,q1,rfl,rfl,rfl,h1,r1⟩:=trodAll_cons r0
 obtain⟨v2,vs2,d2,ds2,p2,q2,rfl,rfl,rfl,h2,r2⟩:=trodAll_cons r1
 obtain⟨v3,vs3,d3,ds3,p3,q3,rfl,rfl,rfl,h3,r3⟩:=trodAll_cons r2
 obtain⟨v4,vs4,d4,ds4,p4,q4,rfl,rfl,rfl,h4,r4⟩:=trodAll_cons r3
 obtain⟨rfl,rfl,rfl⟩:=trodAll_nil r4
 obtain rfl:args=#[v0,v1,v2,v3,v4]:=by cases args;simp_all
 obtain⟨rfl,rfl⟩:=trodVars_none hV
 have hwt0:∀ m∈d0.weights Tryz.prog 56,m<=reachBytes:=fun m hm=>by
  have hz:=List.all_eq_true.1 hZ m (by simp only [Tryz.params6,List.cons_append,DataW.weightsEach,List.mem_append,List.append_nil];exact .inl hm)
  simpa using hz
 have hwt1:∀ m∈d1.weights Tryz.prog 57,m<=reachBytes:=fun m hm=>by
  have hz:=List.all_eq_true.1 hZ m (by simp only [Tryz.params6,List.cons_append,DataW.weightsEach,List.mem_append,List.append_nil];exact .inr (.inl hm))
  simpa using hz
 have hwt2:∀ m∈d2.weights Tryz.prog 3,m<=reachBytes:=fun m hm=>by
  have hz:=List.all_eq_true.1 hZ m (by simp only [Tryz.params6,List.cons_append,DataW.weightsEach,List.mem_append,List.append_nil];exact .inr (.inr (.inl hm)))
  simpa using hz
 have hwt3:∀ m∈d3.weights Tryz.prog 3,m<=reachBytes:=fun m hm=>by
  have hz:=List.all_eq_true.1 hZ m (by simp only [Tryz.params6,List.cons_append,DataW.weightsEach,List.mem_append,List.append_nil];exact .inr (.inr (.inr (.inl hm))))
  simpa using hz
 have hwt4:∀ m∈d4.weights Tryz.prog 58,m<=reachBytes:=fun m hm=>by
  have hz:=List.all_eq_true.1 hZ m (by simp only [Tryz.params6,List.cons_append,DataW.weightsEach,List.mem_append,List.append_nil];exact .inr (.inr (.inr (.inr (.inl hm)))))
  simpa using hz
 have hb:Rows.uptoBulkAll ([d0,d1,d2,d3,d4]++([]:List (DataW H)))<=1048576:=of_decide_eq_true hU
 have hb0:Rows.uptoBulk d0<=1048576:=Nat.le_trans (ztl (by simp)) hb
 obtain⟨kd,rfl,rfl,rfl,_⟩:=open_int (k:=.i64) (by kernel_rfl) (hval 2 3 v2 rfl rfl) h2
 obtain⟨qt,rfl,rfl,rfl,hqt⟩:=open_int (k:=.i64) (by kernel_rfl) (hval 3 3 v3 rfl rfl) h3
 obtain⟨fu0,hf0⟩:=h0
 obtain⟨a,n,nc,dr,sp,rfl,hRW⟩:=qbh hf0 (qao (Q:=P) qd7 (hval 0 56 v0 rfl rfl)) hb0
 have uS1:P.underlying 57=some (.slice zbw):=by kernel_rfl
 obtain⟨sa,sn,snc,rfl⟩:=okWide_slice uS1 (hval 1 57 v1 rfl rfl)
 obtain⟨fu1,hf1⟩:=h1
 obtain⟨a1,n1,nc1,Ks,he,hKs,hkn⟩:=open_ints hf1
 injection he with e1 e2 e3
 subst e1 e2 e3
 have uS4:P.underlying 58=some (.slice zc5):=by kernel_rfl
 obtain⟨ma,mn,mnc,rfl⟩:=okWide_slice uS4 (hval 4 58 v4 rfl rfl)
 obtain⟨fu4,hf4⟩:=h4
 obtain⟨a1,n1,nc1,he,hM⟩:=z6p uS4 hf4
 injection he with e1 e2 e3
 subst e1 e2 e3
 have hR:=qaw (table hL)
 refine (z7c (w:=W) (nc:=nc) (hnc:=snc) (mnc:=mnc) (dr:=dr) (sp:=sp) (kind:=kd) (quota:=qt) rfl hR hRW hKs hkn hM (by have:=qfb hqt;omega)).2.mono ?_
 rintro e W' ⟨⟨rfl,hx⟩,hc⟩
 refine⟨_,rfl,?_⟩
 exact qa9 laidOut readable rfl hW' rfl rfl (fun _ _ _=>trodAll_cons_mk (shut_bool (by kernel_rfl) _) trodAll_mk0) hx hc (ok_one (t:=4) rfl rfl (okWide_bool_mk (by kernel_rfl) _))
noncomputable def wargs:Array Value:=#[.agg #[.slice none 0 0,.int .i64 0,.int .i64 0],.slice none 0 0,.int .i64 2,.int .i64 0,.slice none 0 0]
theorem laid_met (os:Os):laidMet Tryz.prog Rows.carryPlaysUptoRow.laid ((laidWorld os).forCall (fun _ _=>0) ⟨#[],wargs,[]⟩).memory:=
 laidMet_of_run' 8 (by kernel_rfl) (by kernel_rfl)
theorem reads (os:Os){H:Type}(enc:TypeId×Value->H):∃ places,DataW.whole enc Tryz.prog ((laidWorld os).forCall (fun _ _=>0) ⟨#[],wargs,[]⟩).memory Tryz.f6.params.toList Rows.carryPlaysSpec.vars false wargs.toList 8=some ([.agg [.nil,.lit (.int .i64 0),.lit (.int .i64 0)],.nil,.lit (.int .i64 2),.lit (.int .i64 0),.nil],[],places):=
 ⟨[],by kernel_rfl⟩
set_option maxRecDepth 100000 in
theorem lifted (os:Os) (started:os.Started) (H:Type) (enc:TypeId×Value->H) (F:Stop.Interp) :
  ReturnsInHanded {} Tryz.checked os 6 .any ((Rows.OpenSpec.upto Rows.carryPlaysSpec).preRow enc Tryz.prog Tryz.f6 Rows.carryPlaysUptoRow.domain false Rows.carryPlaysUptoRow.laid) (((Rows.OpenSpec.upto Rows.carryPlaysSpec).at F).post enc Tryz.prog Tryz.f6 false true false false):=by
 obtain⟨places,hx⟩:=reads os enc
 refine returnsInHanded_of_row (C:=Tryz.checked) (s:=(Rows.OpenSpec.upto Rows.carryPlaysSpec)) own started (by kernel_rfl) Tryz.func6
  (witness_row_at (enc:=enc) (C:=Tryz.checked) false (laidWorld os) wargs rfl (by kernel_rfl) (by kernel_rfl) (by kernel_rfl)
   (OpenSpec.preRow_of_cond 8 hx (by kernel_rfl) (fun k hk=>by cases hk;kernel_rfl) (by kernel_rfl) (laid_met os))) ?_
 intro W base args ds gs before hval hW _ hU hZ hL _ _
 exact contract H enc W base args ds gs before hval hW hL (hU _ rfl) hZ
theorem said:Rows.CarryPlaysUptoSaid:=
 OpenClaim.holds_of_cond 6 Tryz.f6 rfl rfl rfl rfl rfl rfl rfl ⟨rfl,rfl,rfl,rfl,rfl⟩ rfl rfl rfl rfl rfl (by kernel_rfl) Tryz.func6 (by kernel_rfl)
  (of_decide_eq_true (by kernel_rfl)) (by unfold Func.isWrapper;first | (rw [if_pos (by decide +kernel)];kernel_rfl) | (rw [if_neg (by decide +kernel)];exact⟨rfl,rfl⟩))
  (fun os started H enc _ F=>by rw [OpenClaim.pre_eq_preRow];exact lifted os started H enc F)
theorem plain (f:FuncId) (fn:Func) (hf:Tryz.pinned.checked.prog.funcNamed "veneer/veneerlaw08.CarryPlays"=some f) (hfn:Tryz.pinned.checked.prog.funcs[f]?=some fn) :
  false=Tryz.pinned.checked.prog.looks []/\∀ (j:Nat) t,fn.params[j]?=some t->Tryz.pinned.checked.prog.wantsStandIn t=false:=by
 obtain rfl:f=6:=Option.some.inj ((show Tryz.prog.funcNamed "veneer/veneerlaw08.CarryPlays"=some 6 by kernel_rfl).symm.trans hf) |>.symm
 obtain rfl:fn=Tryz.f6:=(Option.some.inj (Tryz.func6.symm.trans hfn)).symm
 refine⟨by kernel_rfl,fun j t ht=>?_⟩
 have hm:=Array.mem_of_getElem? ht
 rw [Tryz.params6] at hm
 simp only [List.mem_toArray,List.mem_cons,List.not_mem_nil,or_false] at hm
 rcases hm with rfl | rfl | rfl | rfl | rfl
 ·exact (show Tryz.prog.wantsStandIn 56=false by kernel_rfl)
 ·exact (show Tryz.prog.wantsStandIn 57=false by kernel_rfl)
 ·exact (show Tryz.prog.wantsStandIn 3=false by kernel_rfl)
 ·exact (show Tryz.prog.wantsStandIn 3=false by kernel_rfl)
 ·exact (show Tryz.prog.wantsStandIn 58=false by kernel_rfl)
theorem card:Rows.CarryPlaysUptoCardSaid:=
 Claim7.holds_tied_plain_at .later [] _ _ _ _ said (fun _ h=>by cases h) (by kernel_rfl) (fun _ h=>by cases h) carryPlaysUpto_row_tie rfl ⟨rfl,rfl⟩ (by kernel_rfl) rfl plain (by kernel_rfl)
end Go.Proofs.YtbmegmbnlajbbaaGreatDoor.CarryPl
