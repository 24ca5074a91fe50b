/- UpperBack is proved: whatever the quotas and the script, the law returns true, and its arguments read as they did. -/
import Derived.Test.YtbmegmbnlajbbaaRows
import Derived.Test.YtbmegmbnlajbbaaUx
import Derived.Test.YtbmegmbnlajbbaaWi
namespace Go.Proofs.Ytbmegmbnlajbbaa.BackL
open Go.Proofs.Ytbmegmbnlajbbaa.RowC Go Go.Fw Go.Proofs Go.ChangeShapes Go.WideShapes Go.ChangeAt Go.RowKit

theorem readable : ∀ t ∈ Try.f6.params.toList, Try.prog.readableRec t = true ∧ t < Try.prog.types.size := by
  rw [Try.params6]
  intro t ht
  simp only [List.mem_cons, List.not_mem_nil, or_false] at ht
  rcases ht with rfl | rfl | rfl <;> exact ⟨by kernel_rfl, of_decide_eq_true (by kernel_rfl)⟩
set_option maxRecDepth 100000 in
theorem contract (H : Type) (enc : TypeId × Value → H) (W : World) (base : Nat) (args : Array Value) (ds gs : List (DataW H)) (before : List MemPlace)
    (hval : ∀ (j : Nat) t v, Try.f6.params[j]? = some t → args[j]? = some v → Value.okWide Try.prog W .any base t v)
    (hW : DataW.Whole enc Try.prog Try.f6.params.toList Rows.upperBackSpec.vars false W args.toList ds gs before)
    (hZ : (DataW.weightsEach Try.prog (Try.f6.params.toList ++ (OpenSpec.ofChange Rows.upperBackSpec).bare.plain.varTypes Try.prog) (ds ++ gs)).all (· ≤ reachBytes) = true) :
    Calls Try.prog 6 args W fun e W' => ∃ v, e = .returned v ∧ Rows.upperBackSpec.post enc Try.prog Try.f6 false true false false W args v W' := by
  have hW' := hW
  obtain ⟨p, q, hA0, hV, rfl, hfz, hnd⟩ := hW
  have hA : DataW.TrodAll enc Try.prog W 0 (fun _ => true) true Try.f6.params.toList args.toList ds p := hA0
  rw [Try.params6] at hA hval
  obtain ⟨v0, vs0, d0, ds0, p0, q0, hargs, rfl, rfl, h0, r0⟩ := trodAll_cons hA
  obtain ⟨v1, vs1, d1, ds1, p1, q1, rfl, rfl, rfl, h1, r1⟩ := trodAll_cons r0
  obtain ⟨v2, vs2, d2, ds2, p2, q2, rfl, rfl, rfl, h2, r2⟩ := trodAll_cons r1
  obtain ⟨rfl, rfl, rfl⟩ := trodAll_nil r2
  obtain rfl : args = #[v0, v1, v2] := by cases args; simp_all
  obtain ⟨rfl, rfl⟩ := trodVars_none hV
  have hwt0 : ∀ m ∈ d0.weights Try.prog 3, m ≤ reachBytes := fun m hm => by
    have hz := List.all_eq_true.1 hZ m (by simp only [Try.params6, List.cons_append, DataW.weightsEach, List.mem_append, List.append_nil]; exact .inl hm)
    simpa using hz
  have hwt1 : ∀ m ∈ d1.weights Try.prog 3, m ≤ reachBytes := fun m hm => by
    have hz := List.all_eq_true.1 hZ m (by simp only [Try.params6, List.cons_append, DataW.weightsEach, List.mem_append, List.append_nil]; exact .inr (.inl hm))
    simpa using hz
  have hwt2 : ∀ m ∈ d2.weights Try.prog 22, m ≤ reachBytes := fun m hm => by
    have hz := List.all_eq_true.1 hZ m (by simp only [Try.params6, List.cons_append, DataW.weightsEach, List.mem_append, List.append_nil]; exact .inr (.inr (.inl hm)))
    simpa using hz
  have uS : P.underlying 22 = some (.slice y_l12_Step) := by kernel_rfl
  obtain ⟨nn, rfl, rfl, rfl, _⟩ := open_int (k := .i64) (by kernel_rfl) (hval 0 3 v0 rfl rfl) h0
  obtain ⟨bb, rfl, rfl, rfl, _⟩ := open_int (k := .i64) (by kernel_rfl) (hval 1 3 v1 rfl rfl) h1
  obtain ⟨sa, sn, snc, rfl⟩ := okWide_slice uS (hval 2 22 v2 rfl rfl)
  obtain ⟨fu2, hf2⟩ := h2
  obtain ⟨a, n, nc, he, hDs⟩ := open_steps uS hf2
  injection he with e1 e2 e3
  subst e1 e2 e3
  refine (back_c (w := W) (nn := nn) (bb := bb) rfl hDs).2.mono ?_
  rintro e W' ⟨⟨rfl, hx⟩, hc⟩
  refine ⟨_, rfl, ?_⟩
  exact post_calm laidOut readable rfl hW' rfl rfl (fun _ _ _ => trodAll_cons_mk (shut_bool (by kernel_rfl) _) trodAll_mk0) hx hc (ok_one (t := 4) rfl rfl (okWide_bool_mk (by kernel_rfl) _))

noncomputable def wargs : Array Value := #[.int .i64 0, .int .i64 0, .slice none 0 0]
theorem reads (os : Os) {H : Type} (enc : TypeId × Value → H) : ∃ places, DataW.whole enc Try.prog ((World.holding Try.prog os ⟨#[], #[], []⟩).forCall (fun _ _ => 0) ⟨#[], wargs, []⟩).memory Try.f6.params.toList Rows.upperBackSpec.vars false wargs.toList 8 = some ([.lit (.int .i64 0), .lit (.int .i64 0), .nil], [], places) :=
  ⟨[], by kernel_rfl⟩

set_option maxRecDepth 100000 in
theorem lifted (os : Os) (started : os.Started) (H : Type) (enc : TypeId × Value → H) (F : Stop.Interp) :
    ReturnsInHanded {} Try.checked os 6 .any ((OpenSpec.ofChange Rows.upperBackSpec).preRow enc Try.prog Try.f6 Rows.upperBackRow.domain false Rows.upperBackRow.laid) (((OpenSpec.ofChange Rows.upperBackSpec).at F).post enc Try.prog Try.f6 false true false false) := by
  obtain ⟨places, hx⟩ := reads os enc
  refine returnsInHanded_of_row (C := Try.checked) (s := (OpenSpec.ofChange Rows.upperBackSpec)) own started (by kernel_rfl) Try.func6
    (witness_row_at (enc := enc) (C := Try.checked) false (World.holding Try.prog os ⟨#[], #[], []⟩) wargs rfl (by kernel_rfl) (by kernel_rfl) (by kernel_rfl)
      (OpenSpec.preRow_of_cond 8 hx (by kernel_rfl) (fun k hk => by cases hk) (by kernel_rfl) (laidMetH_nil _ _))) ?_
  intro W base args ds gs before hval hW _ hU hZ _ _ _
  exact contract H enc W base args ds gs before hval hW hZ

theorem said : Rows.UpperBackSaid :=
  OpenClaim.holds_of_cond 6 Try.f6 rfl rfl rfl rfl rfl rfl rfl ⟨rfl, rfl, rfl, rfl, rfl⟩ rfl rfl rfl rfl rfl (by kernel_rfl) Try.func6 (by kernel_rfl)
    (of_decide_eq_true (by kernel_rfl)) (by unfold Func.isWrapper; first | (rw [if_pos (by decide +kernel)]; kernel_rfl) | (rw [if_neg (by decide +kernel)]; exact ⟨rfl, rfl⟩))
    (fun os started H enc _ F => by rw [OpenClaim.pre_eq_preRow]; exact lifted os started H enc F)

end Go.Proofs.Ytbmegmbnlajbbaa.BackL
