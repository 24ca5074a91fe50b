/- The laws' helpers: awake, fits, play, same. -/
import Derived.Test.YtbmegmbnlajbbaaGreatUt
import Derived.Test.YtbmegmbnlajbbaaGreatTc
namespace Go.Proofs.YtbmegmbnlajbbaaGreat
open Go Go.Fw Go.Proofs Go.Sort

theorem bIno (a b : ByteArray) (k : Int) (w : World) : (Instr.build y_api_Inode #[(0, .string a), (1, .int .i64 k)]).run P w = .ok (.agg #[.string a, .int .i64 k, .bool false, .string .empty]) w := by kernel_rfl
theorem bIno3 (a b : ByteArray) (k : Int) (w : World) : (Instr.build y_api_Inode #[(0, .string a), (1, .int .i64 k), (3, .string b)]).run P w = .ok (.agg #[.string a, .int .i64 k, .bool false, .string b]) w := by kernel_rfl
set_option maxRecDepth 20000 in
theorem put1 : putL [] [47, 97] 2 false [] = (0, [⟨[[97]], 2, false, []⟩]) := by decide +kernel
set_option maxRecDepth 20000 in
theorem put2 : putL [⟨[[97]], 2, false, []⟩] [47, 97, 47, 102] 1 false [104, 105] = (0, [⟨[[97]], 2, false, []⟩, ⟨[[97], [102]], 1, false, [104, 105]⟩]) := by decide +kernel
set_option maxRecDepth 20000 in
theorem put3 : putL [⟨[[97]], 2, false, []⟩, ⟨[[97], [102]], 1, false, [104, 105]⟩] [47, 97] 3 false [] = (130, [⟨[[97]], 2, false, []⟩, ⟨[[97], [102]], 1, false, [104, 105]⟩]) := by decide +kernel
theorem awake_c {w : World} {H : Heap} (hw : w.heap = H) : CallF P F_l12_awake #[] w fun e w' => e = .returned (.bool true) ∧ Ext [] H w'.heap := by
  refine fn_l12_awake ?_
  unfold T_l12_awake
  refine callF_of (new_c 1 9 hw) ?_
  rintro e w1 (⟨h, _⟩ | ⟨_, p, m, rfl, hU, hx1, hp1, hp2, hm1, hm2⟩)
  · exact absurd (by decide) h
  refine ⟨(some ⟨p, 0, none⟩, 0), rfl, ?_⟩
  refine joinP_in ?_
  refine iteP_f rfl ?_
  refine iteP_f rfl ?_
  have own : ∀ {W W' : World}, Ext [] H W.heap → Ext [p, m] W.heap W'.heap → Ext [] H W'.heap := fun h1 h2 => h1.own h2 (by intro b hb hlt; simp at hb; omega)
  refine genQ_of (s := .any) _ (bIno _ .empty _ _) ?_
  refine callF_of (put_c (t := [47, 97]) (k := 2) (o := false) (d := []) rfl hU) ?_
  rintro e w3 ⟨rfl, hU3, hx3⟩
  rw [put1] at hU3 ⊢
  refine ⟨0, rfl, ?_⟩
  have hx03 := own hx1 hx3
  refine genQ_of (s := .any) _ (bIno3 _ _ _ _) ?_
  refine callF_of (put_c (t := [47, 97, 47, 102]) (k := 1) (o := false) (d := [104, 105]) rfl hU3) ?_
  rintro e w4 ⟨rfl, hU4, hx4⟩
  rw [put2] at hU4 ⊢
  refine ⟨0, rfl, ?_⟩
  have hx04 := own hx03 hx4
  refine genQ_of (s := .any) _ (bIno _ .empty _ _) ?_
  refine callF_of (put_c (t := [47, 97]) (k := 3) (o := false) (d := []) rfl hU4) ?_
  rintro e w5 ⟨rfl, hU5, hx5⟩
  rw [put3] at hU5 ⊢
  refine ⟨130, rfl, ?_⟩
  have hx05 := own hx04 hx5
  refine iteP_t rfl ?_
  refine iteP_t rfl ?_
  refine iteP_t rfl ?_
  refine callF_of (count_c rfl hU5) ?_
  rintro e w6 ⟨rfl, hw6⟩
  subst w6
  refine ⟨2, rfl, ?_⟩
  refine iteP_t rfl ?_
  refine callF_of (size_c rfl hU5) ?_
  rintro e w7 ⟨rfl, hw7⟩
  subst w7
  refine ⟨2, rfl, ?_⟩
  refine iteP_t rfl ?_
  refine callF_of (over_c rfl hU5) ?_
  rintro e w8 ⟨rfl, hw8⟩
  refine ⟨true, rfl, ?_⟩
  exact ⟨rfl, by rw [hw8]; exact hx05⟩
end Go.Proofs.YtbmegmbnlajbbaaGreat
