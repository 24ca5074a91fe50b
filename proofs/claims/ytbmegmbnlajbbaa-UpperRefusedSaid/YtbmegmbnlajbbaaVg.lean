/- Calls on an upper branch that is not there. -/
import Derived.Test.YtbmegmbnlajbbaaVf
namespace Go.Proofs.Ytbmegmbnlajbbaa
open Go Go.Fw Go.Proofs Go.Sort
variable {w : World}
theorem below_nil : CallF P F_upper_Upper_Below #[.pointer none, .slice none 0 0] w fun e w' => e = .returned (.slice none 0 0) ∧ w' = w := by
  refine fn_upper_Upper_Below ?_
  unfold T_upper_Upper_Below
  exact iteP_t rfl ⟨rfl, rfl⟩
theorem count_nil : CallF P F_upper_Upper_Count #[.pointer none] w fun e w' => e = .returned (.int .i64 0) ∧ w' = w := by
  refine fn_upper_Upper_Count ?_
  unfold T_upper_Upper_Count
  exact iteP_t rfl ⟨rfl, rfl⟩
theorem size_nil : CallF P F_upper_Upper_Size #[.pointer none] w fun e w' => e = .returned (.int .i64 0) ∧ w' = w := by
  refine fn_upper_Upper_Size ?_
  unfold T_upper_Upper_Size
  exact iteP_t rfl ⟨rfl, rfl⟩
theorem over_nil : CallF P F_upper_Upper_Over #[.pointer none] w fun e w' => e = .returned (.bool false) ∧ w'.heap = w.heap := by
  refine fn_upper_Upper_Over ?_
  unfold T_upper_Upper_Over
  refine drewP_h rfl fun w1 hw1 => ?_
  exact iteP_f rfl ⟨rfl, hw1⟩
theorem clone_nil : CallF P F_upper_Upper_Clone #[.pointer none] w fun e w' => e = .returned (.pointer none) ∧ w' = w := by
  refine fn_upper_Upper_Clone ?_
  unfold T_upper_Upper_Clone
  exact iteP_t rfl ⟨rfl, rfl⟩
theorem encode_nil : CallF P F_upper_Upper_Encode #[.pointer none] w fun e w' => e = .returned (.slice none 0 0) ∧ w' = w := by
  refine fn_upper_Upper_Encode ?_
  unfold T_upper_Upper_Encode
  exact iteP_t rfl ⟨rfl, rfl⟩
theorem put_nil {v : Value} : CallF P F_upper_Upper_Put #[.pointer none, v] w fun e w' => e = .returned (.int .i64 7) ∧ Ext [] w.heap w'.heap := by
  refine fn_upper_Upper_Put ?_
  unfold T_upper_Upper_Put
  refine newB_h rfl fun w1 hw1 => ?_
  exact iteP_t rfl ⟨rfl, by rw [hw1]; exact .push _⟩
theorem get_nil {a : Option Addr} {n nc : Nat} : CallF P F_upper_Upper_Get #[.pointer none, .slice a n nc] w fun e w' => e = .returned (.tuple #[.agg (raw [] 0 false []).toArray, .bool false]) ∧ Ext [] w.heap w'.heap := by
  refine fn_upper_Upper_Get ?_
  unfold T_upper_Upper_Get
  rw [zcI]
  refine newB_h rfl fun w1 hw1 => ?_
  have hb1 : w1.heap[w.heap.size]? = some (.cells (raw [] 0 false []).toArray y_api_Inode (0, 0)) := by rw [hw1]; exact push_new
  have hx1 : Ext [] w.heap w1.heap := by rw [hw1]; exact .push _
  refine joinP_in ?_
  refine iteP_t rfl ?_
  refine genQ_of (s := .any) zI (bI _) ?_
  refine stI rfl hb1 rfl (vs := raw [] 0 false []) rfl one_raw fun w2 hw2 => ?_
  have hb2 : w2.heap[w.heap.size]? = some (.cells (raw [] 0 false []).toArray y_api_Inode (0, 0)) := by rw [hw2]; exact set_new hb1
  refine ldA_all rfl hb2 rfl ?_
  exact ⟨rfl, by rw [hw2]; exact hx1.set_own (.inl (Nat.le_refl _))⟩
theorem drop_nil : CallF P F_upper_Upper_Drop #[.pointer none, .slice none 0 0] w fun e w' => e = .returned (.int .i64 0) ∧ Ext [] w.heap w'.heap := by
  refine fn_upper_Upper_Drop ?_
  unfold T_upper_Upper_Drop
  refine callF_of below_nil ?_
  rintro e w1 ⟨rfl, hw1⟩
  subst w1
  refine ⟨(none, 0, 0), rfl, ?_⟩
  refine joinP_in ?_
  refine callF_of get_nil ?_
  rintro e w2 ⟨rfl, hx2⟩
  refine ⟨(.agg (raw [] 0 false []).toArray, false), rfl, ?_⟩
  rw [zcI]
  refine newB_h rfl fun w3 hw3 => ?_
  have hb3 : w3.heap[w2.heap.size]? = some (.cells (raw [] 0 false []).toArray y_api_Inode (0, 0)) := by rw [hw3]; exact push_new
  refine stI rfl hb3 rfl (vs := raw [] 0 false []) rfl one_raw fun w4 hw4 => ?_
  have hx4 : Ext [] w2.heap w4.heap := by rw [hw4, hw3]; exact (Ext.push _).set_own (.inl (Nat.le_refl _))
  refine iteP_f rfl ?_
  refine loopP_of (fun (s : Int) W => s = 0 ∧ W = w4) (fun _ _ => 0) ⟨rfl, rfl⟩ ?_
  rintro _ W ⟨rfl, rfl⟩
  refine iteP_f rfl ?_
  exact ⟨rfl, hx2.trans hx4⟩
end Go.Proofs.Ytbmegmbnlajbbaa
