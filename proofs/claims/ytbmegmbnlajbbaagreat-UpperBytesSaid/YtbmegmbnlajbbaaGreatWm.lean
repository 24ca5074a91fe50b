/- UpperBytes is proved: whatever the script and the bytes, the law returns true, and its arguments read as they did. -/
import Derived.Test.YtbmegmbnlajbbaaGreatRows
import Derived.Test.YtbmegmbnlajbbaaGreatUx
import Derived.Test.YtbmegmbnlajbbaaGreatWl
namespace Go.Proofs.YtbmegmbnlajbbaaGreat.BytesL
open Go.Proofs.YtbmegmbnlajbbaaGreat.RowC Go Go.Fw Go.Proofs Go.ChangeShapes Go.WideShapes Go.ChangeAt Go.RowKit

theorem readable : ∀ t ∈ Tryz.f3.params.toList, Tryz.prog.readableRec t = true ∧ t < Tryz.prog.types.size := by
  rw [Tryz.params3]
  intro t ht
  simp only [List.mem_cons, List.not_mem_nil, or_false] at ht
  rcases ht with rfl | rfl <;> exact ⟨by kernel_rfl, of_decide_eq_true (by kernel_rfl)⟩
set_option maxRecDepth 100000 in
theorem contract (H : Type) (enc : TypeId × Value → H) (W : World) (base : Nat) (args : Array Value) (ds gs : List (DataW H)) (before : List MemPlace)
    (hval : ∀ (j : Nat) t v, Tryz.f3.params[j]? = some t → args[j]? = some v → Value.okWide Tryz.prog W .any base t v)
    (hW : DataW.Whole enc Tryz.prog Tryz.f3.params.toList Rows.upperBytesSpec.vars false W args.toList ds gs before)
    (hZ : (DataW.weightsEach Tryz.prog (Tryz.f3.params.toList ++ (OpenSpec.ofChange Rows.upperBytesSpec).bare.plain.varTypes Tryz.prog) (ds ++ gs)).all (· ≤ reachBytes) = true) :
    Calls Tryz.prog 3 args W fun e W' => ∃ v, e = .returned v ∧ Rows.upperBytesSpec.post enc Tryz.prog Tryz.f3 false true false false W args v W' := by
  have hW' := hW
  obtain ⟨p, q, hA0, hV, rfl, hfz, hnd⟩ := hW
  have hA : DataW.TrodAll enc Tryz.prog W 0 (fun _ => true) true Tryz.f3.params.toList args.toList ds p := hA0
  rw [Tryz.params3] at hA hval
  obtain ⟨v0, vs0, d0, ds0, p0, q0, hargs, rfl, rfl, h0, r0⟩ := trodAll_cons hA
  obtain ⟨v1, vs1, d1, ds1, p1, q1, rfl, rfl, rfl, h1, r1⟩ := trodAll_cons r0
  obtain ⟨rfl, rfl, rfl⟩ := trodAll_nil r1
  obtain rfl : args = #[v0, v1] := by cases args; simp_all
  obtain ⟨rfl, rfl⟩ := trodVars_none hV
  have hwt0 : ∀ m ∈ d0.weights Tryz.prog 22, m ≤ reachBytes := fun m hm => by
    have hz := List.all_eq_true.1 hZ m (by simp only [Tryz.params3, List.cons_append, DataW.weightsEach, List.mem_append, List.append_nil]; exact .inl hm)
    simpa using hz
  have hwt1 : ∀ m ∈ d1.weights Tryz.prog 23, m ≤ reachBytes := fun m hm => by
    have hz := List.all_eq_true.1 hZ m (by simp only [Tryz.params3, List.cons_append, DataW.weightsEach, List.mem_append, List.append_nil]; exact .inr (.inl hm))
    simpa using hz
  have uS : P.underlying 22 = some (.slice y_l12_Step) := by kernel_rfl
  have uN : P.underlying 23 = some (.slice y_uint8) := by kernel_rfl
  obtain ⟨sa, sn, snc, rfl⟩ := okWide_slice uS (hval 0 22 v0 rfl rfl)
  obtain ⟨fu0, hf0⟩ := h0
  obtain ⟨a, n, nc, he, hDs⟩ := open_steps uS hf0
  injection he with e1 e2 e3
  subst e1 e2 e3
  obtain ⟨ta, tn, tnc, rfl⟩ := okWide_slice uN (hval 1 23 v1 rfl rfl)
  obtain ⟨fu1, hf1⟩ := h1
  obtain ⟨b, l, lc, L, he', hC, hl, hlc, _⟩ := bytesW uN u8 (by kernel_rfl) hf1
  injection he' with e1 e2 e3
  subst e1 e2 e3
  refine (bytes_law (w := W) rfl hDs hC hl hlc).2.mono ?_
  rintro e W' ⟨⟨rfl, hx⟩, hc⟩
  refine ⟨_, rfl, ?_⟩
  exact post_calm laidOut readable rfl hW' rfl rfl (fun _ _ _ => trodAll_cons_mk (shut_bool (by kernel_rfl) _) trodAll_mk0) hx hc (ok_one (t := 4) rfl rfl (okWide_bool_mk (by kernel_rfl) _))

noncomputable def wargs : Array Value := #[.slice none 0 0, .slice none 0 0]
theorem reads (os : Os) {H : Type} (enc : TypeId × Value → H) : ∃ places, DataW.whole enc Tryz.prog ((World.holding Tryz.prog os ⟨#[], #[], []⟩).forCall (fun _ _ => 0) ⟨#[], wargs, []⟩).memory Tryz.f3.params.toList Rows.upperBytesSpec.vars false wargs.toList 8 = some ([.nil, .nil], [], places) :=
  ⟨[], by kernel_rfl⟩

set_option maxRecDepth 100000 in
theorem lifted (os : Os) (started : os.Started) (H : Type) (enc : TypeId × Value → H) (F : Stop.Interp) :
    ReturnsInHanded {} Tryz.checked os 3 .any ((OpenSpec.ofChange Rows.upperBytesSpec).preRow enc Tryz.prog Tryz.f3 Rows.upperBytesRow.domain false Rows.upperBytesRow.laid) (((OpenSpec.ofChange Rows.upperBytesSpec).at F).post enc Tryz.prog Tryz.f3 false true false false) := by
  obtain ⟨places, hx⟩ := reads os enc
  refine returnsInHanded_of_row (C := Tryz.checked) (s := (OpenSpec.ofChange Rows.upperBytesSpec)) own started (by kernel_rfl) Tryz.func3
    (witness_row_at (enc := enc) (C := Tryz.checked) false (World.holding Tryz.prog os ⟨#[], #[], []⟩) wargs rfl (by kernel_rfl) (by kernel_rfl) (by kernel_rfl)
      (OpenSpec.preRow_of_cond 8 hx (by kernel_rfl) (fun k hk => by cases hk) (by kernel_rfl) (laidMetH_nil _ _))) ?_
  intro W base args ds gs before hval hW _ hU hZ _ _ _
  exact contract H enc W base args ds gs before hval hW hZ

theorem said : Rows.UpperBytesSaid :=
  OpenClaim.holds_of_cond 3 Tryz.f3 rfl rfl rfl rfl rfl rfl rfl ⟨rfl, rfl, rfl, rfl, rfl⟩ rfl rfl rfl rfl rfl (by kernel_rfl) Tryz.func3 (by kernel_rfl)
    (of_decide_eq_true (by kernel_rfl)) (by unfold Func.isWrapper; first | (rw [if_pos (by decide +kernel)]; kernel_rfl) | (rw [if_neg (by decide +kernel)]; exact ⟨rfl, rfl⟩))
    (fun os started H enc _ F => by rw [OpenClaim.pre_eq_preRow]; exact lifted os started H enc F)

end Go.Proofs.YtbmegmbnlajbbaaGreat.BytesL
