/- The contract of awake. -/
import Derived.Test.YtkolbfjheleoaaaDoorSh
import Derived.Test.YtkolbfjheleoaaaDoorFwN
import Derived.Test.YtkolbfjheleoaaaDoorFwShaN
namespace Go.Proofs.YtkolbfjheleoaaaDoor
open Go Go.Fw Go.Proofs

theorem length_del {r : SM} (hk : (r.map (·.1)).Nodup) {k : List UInt8} {v : BV} (hg : mget r k = some v) : (mdel r k).length + 1 = r.length := by
  induction r with
  | nil => simp [mget] at hg
  | cons x r ih =>
    simp only [List.map_cons, List.nodup_cons] at hk
    by_cases e : x.1 = k
    · rw [mdel_cons_eq e, mdel_none fun y hy h => hk.1 (by rw [e, ← h]; exact List.mem_map.2 ⟨y, hy, rfl⟩)]
      simp
    · rw [mget_cons_ne e] at hg
      have := ih hk.2 hg
      rw [mdel_cons_ne e]
      simp only [List.length_cons]
      omega
theorem total_del' {r : SM} (hk : (r.map (·.1)).Nodup) {k : List UInt8} {v : BV} (hg : mget r k = some v) : total (mdel r k) + v.2.length = total r := by
  induction r with
  | nil => simp [mget] at hg
  | cons x r ih =>
    simp only [List.map_cons, List.nodup_cons] at hk
    by_cases e : x.1 = k
    · rw [mget_cons_eq e, Option.some.injEq] at hg
      rw [mdel_cons_eq e, mdel_none fun y hy h => hk.1 (by rw [e, ← h]; exact List.mem_map.2 ⟨y, hy, rfl⟩), ← hg]
      simp [total, Nat.add_comm]
    · rw [mget_cons_ne e] at hg
      have := ih hk.2 hg
      rw [mdel_cons_ne e]
      simp only [total, List.map_cons, List.sum_cons] at this ⊢
      omega
/-- Stores with one view have one size. -/
theorem same_view : ∀ {r s : SM}, (r.map (·.1)).Nodup → (s.map (·.1)).Nodup → (∀ k, vget r k = vget s k) → total r = total s ∧ r.length = s.length
  | [], s, _, _, h => by
    cases s with
    | nil => exact ⟨rfl, rfl⟩
    | cons y s =>
      have := h y.1
      unfold vget at this
      rw [mget_cons_eq rfl] at this
      simp [mget] at this
  | x :: r, s, hr, hs, h => by
    simp only [List.map_cons, List.nodup_cons] at hr
    have h1 := h x.1
    unfold vget at h1
    rw [mget_cons_eq rfl] at h1
    cases hg : mget s x.1 with
    | none => rw [hg] at h1; simp at h1
    | some v =>
      rw [hg] at h1
      simp only [Option.map_some, Option.some.injEq] at h1
      have hd : ((mdel s x.1).map (·.1)).Nodup := hs.sublist (List.Sublist.map _ List.filter_sublist)
      obtain ⟨i1, i2⟩ := same_view (r := r) (s := mdel s x.1) hr.2 hd fun k => by
        rw [vget_del]
        by_cases e : k = x.1
        · rw [if_pos e]
          unfold vget
          rw [mget_none_of]; rfl
          intro y hy e2
          exact hr.1 (by rw [← e, ← e2]; exact List.mem_map.2 ⟨y, hy, rfl⟩)
        · rw [if_neg e, ← h k]
          unfold vget
          rw [mget_cons_ne (Ne.symm e)]
      have t1 := total_del' hs hg
      have t2 := length_del hs hg
      simp only [total, List.map_cons, List.sum_cons, List.length_cons] at i1 t1 ⊢
      rw [h1]
      omega
theorem Store.ok {H : Heap} {fp : List Nat} {p : Nat} {q : Int} {r : SM} {c : Nat} (h : Store H fp p q r c) : MOk (fun L => L.length = 32) r c := by
  obtain ⟨m, _, _, h3, _⟩ := h; exact h3
/-- A store with one blob. -/
theorem one_view {r : SM} {c : Nat} (h : MOk (fun L => L.length = 32) r c) {k L : List UInt8} (hv : ∀ k', vget r k' = if k' = k then some L else none) : total r = L.length ∧ r.length = 1 := by
  have := same_view (r := r) (s := [(k, ((none, 0, 0), L), 0)]) h.keys (by simp) fun k' => by
    rw [hv]
    by_cases e : k' = k
    · subst e; rw [if_pos rfl]; unfold vget; rw [mget_cons_eq rfl]; rfl
    · rw [if_neg e]; unfold vget; rw [mget_cons_ne (Ne.symm e)]; rfl
  simpa [total] using this

/-- A variable of a digest's type. -/
theorem var27 {w : World} {H : Heap} {k : List UInt8} (hw : w.heap = H) (hk : k.length = 32) {K : Nat → World → Prop}
    (hK : ∀ w', w'.heap[H.size]? = some (.cells (byteCells k).toArray y_api_Digest (0, 0)) → Ext [] H w'.heap → H.size < w'.heap.size → K H.size w') :
    newB (zc P y_api_Digest) 27 w fun b w1 => genU P (storeVar y_api_Digest (⟨b, 0, none⟩ : Addr) (arr k)) w1 fun w2 => K b w2 := by
  refine newB_h hw fun w1 hw1 => ?_
  refine storeVar_h (size27.trans (by rw [cells_arr, hk])) (by rw [cells_arr, hk]; omega) one_byteCells hw1 push_new (by rw [zc27, cells_arr, hk]; simp) fun w5 hw5 => ?_
  rw [show setCells (zc P y_api_Digest) 0 (Value.cells (arr k)).toList = (byteCells k).toArray from by rw [setCells_all (by rw [zc27, Array.length_toList, cells_arr, hk]; simp)]; simp [Value.cells, arr]] at hw5
  exact hK w5 (by rw [hw5]; exact set_new push_new) (by rw [hw5]; exact (Ext.push _).set_own (.inl (Nat.le_refl _))) (by rw [hw5]; simp)
theorem u9 : P.underlying y_string = some .string := by kernel_rfl
theorem bs22_2 (x y : Int) (w : World) : (Instr.buildSlice y_S_uint8 2 #[(0, .int .u8 x), (1, .int .u8 y)]).run P w = .ok (.slice (some ⟨w.heap.size, 0, none⟩) 2 2) { w with heap := w.heap.push (.cells #[.int .u8 x, .int .u8 y] 5) } := by kernel_rfl
/-- Two bytes of the program's text. -/
theorem lit2 {w : World} {H : Heap} (x y : UInt8) {n m : Int} (hn : n = (x.toNat : Int)) (hm : m = (y.toNat : Int)) (hw : w.heap = H) {K : (Option Addr × Nat × Nat) → World → Prop}
    (hK : ∀ w', Cells w'.heap (some ⟨H.size, 0, none⟩) (byteCells [x, y]) → Ext [] H w'.heap → H.size < w'.heap.size → K (some ⟨H.size, 0, none⟩, 2, 2) w') :
    genL P (Instr.buildSlice y_S_uint8 2 #[(0, .int .u8 n), (1, .int .u8 m)]) .slc w fun t w1 => genL P (convert y_S_uint8 y_S_uint8 (.slice t.1 t.2.1 t.2.2)) .slc w1 K := by
  subst hn hm hw
  refine genL_of (s := .slc) (some ⟨w.heap.size, 0, none⟩, 2, 2) _ (bs22_2 _ _ w) ?_
  obtain ⟨w', h1, hcm, h2⟩ := mark_h (P := P) (w := { w with heap := w.heap.push (.cells #[.int .u8 (x.toNat : Int), .int .u8 (y.toNat : Int)] 5) }) (l := 2) (c := 2) (o := 0) u22 u5 rfl push_new
  refine genL_of (s := .slc) (some ⟨w.heap.size, 0, none⟩, 2, 2) w' h1 ?_ hcm
  refine hK w' ?_ (by rw [h2]; exact (Ext.push _).set_own (.inl (Nat.le_refl _))) (by rw [h2]; simp)
  rw [h2]
  exact .inr ⟨w.heap.size, 0, _, 5, _, rfl, set_new push_new, by simp [byteCells], by simp [byteCells]⟩

theorem ab_cd : Sha.sum [99, 100] ≠ Sha.sum [97, 98] := by
  rw [Sha.sum_eq, Sha.sum_eq, Sha.sum_ab, Sha.sum_cd]
  decide

set_option maxHeartbeats 4000000 in
theorem awake_c {w : World} {H : Heap} (hw : w.heap = H) (hR : Rounds H) : CallF P F_l05_awake #[] w fun e w' => e = .returned (.bool true) ∧ Ext [] H w'.heap := by
  have hH0 : 0 < H.size := by obtain ⟨_, _, _, h, _⟩ := hR; exact lt_of_get h
  refine fn_l05_awake ?_
  unfold T_l05_awake
  refine callF_of (new59_c 3 hw) ?_
  rintro e w1 ⟨p, fp, rfl, hS, hx1, hfp⟩
  refine ⟨some ⟨p, 0, none⟩, rfl, ?_⟩
  have hfl : ∀ b ∈ fp, b < w1.heap.size := fun b hb => (hfp b hb).2
  generalize hH1 : w1.heap = H1 at *
  have h0 : 0 ∉ fp := fun h => by have := (hfp 0 h).1; omega
  refine iteP_f rfl ?_
  refine lit2 97 98 rfl rfl hH1 fun w2 hc2 hx2 hs2 => ?_
  generalize hH2 : w2.heap = H2 at *
  refine callF_of (put_c (L := [97, 98]) hH2 (hS.ext hx2 (by simp)) (fun b hb => Nat.lt_of_lt_of_le (hfl b hb) hx2.1) (hR.ext (hx1.trans hx2) (by simp)) h0 hc2 rfl (by simp only; omega) (fun _ y hy => by cases hy; exact fun h => absurd (hfl _ h) (by simp)) (by simp [total]) (by decide) (by decide) (by intro k L h; simp [vget, mget] at h)) ?_
  rintro e w3 ⟨code, r', c', fp', rfl, hS3, hx3, hfl3, hsub3, hres, _⟩
  obtain ⟨rfl, hv⟩ := put_new hres (by simp) rfl (by simp [total]; decide)
  refine ⟨(arr (Sha.sum [97, 98]), 0), rfl, ?_⟩
  obtain ⟨ht, hn⟩ := one_view hS3.ok (k := Sha.sum [97, 98]) (L := [97, 98]) hv
  have hx23 : Ext [] H w3.heap := (hx1.trans hx2).own hx3 (by intro b hb hlt; have := (hfp b hb).1; omega)
  generalize hH3 : w3.heap = H3 at *
  have hsub3 : ∀ b ∈ fp', H.size ≤ b := fun b hb => by rcases hsub3 b hb with h | h; exact (hfp b h).1; exact Nat.le_trans (hx1.trans hx2).1 h
  refine var27 hH3 len_sum fun w4 hb4 hx4 hs4 => ?_
  generalize hH4 : w4.heap = H4 at *
  refine lit2 99 100 rfl rfl hH4 fun w5 hc5 hx5 hs5 => ?_
  generalize hH5 : w5.heap = H5 at *
  have hx35 := hx4.trans hx5
  have hfl5 : ∀ b ∈ fp', b < H5.size := fun b hb => Nat.lt_of_lt_of_le (hfl3 b hb) hx35.1
  refine callF_of (put_c (L := [99, 100]) hH5 (hS3.ext hx35 (by simp)) hfl5 (hR.ext (hx23.trans hx35) (by simp)) (fun h => by have := hsub3 0 h; omega) hc5 rfl (by simp only; omega)
    (fun _ y hy => by cases hy; exact fun h => absurd (hfl3 _ h) (by simp only; have := hx4.1; omega)) (by rw [ht]; simp) (by decide) (by decide) (by intro k L h; rw [hv] at h; split at h; cases h; simp; cases h)) ?_
  rintro e w6 ⟨code, r2, c2, fp2, rfl, hS6, hx6, hfl6, hsub6, hres, _⟩
  obtain ⟨rfl, hr2⟩ := put_full hres (by simp) (by rw [hv, if_neg ab_cd]; simp [vget, mget]) (by rw [ht]; decide)
  refine ⟨(arr nought, 3), rfl, ?_⟩
  rw [hr2] at hS6
  have hx6' : Ext [] H w6.heap := (hx23.trans hx35).own hx6 (by intro b hb hlt; have := hsub3 b hb; omega)
  have hb6 := hx6.get (hx5.get hb4 (by simp)) (fun h => absurd (hfl3 _ h) (by omega))
  generalize hH6 : w6.heap = H6 at *
  refine var27 hH6 len_nought fun w7 hb7 hx7 hs7 => ?_
  generalize hH7 : w7.heap = H7 at *
  refine ldA_all hH7 (hx7.get hb6 (by simp)) (by simp [byteCells, len_sum]) ?_
  refine callF_of (get_c (k := Sha.sum [97, 98]) hH7 (hS6.ext hx7 (by simp)) len_sum (hR.ext (hx6'.trans hx7) (by simp)) (by intro L h; rw [hv, if_pos rfl] at h; cases h; simp)) ?_
  rintro e w8 ⟨x, rfl, hx8, hgot, _⟩
  have hg0 : got (vget r' (Sha.sum [97, 98])) (Sha.sum [97, 98]) = 0 := by rw [hv, if_pos rfl]; simp [got]
  obtain ⟨L, hL, hO⟩ := hgot hg0
  rw [hv, if_pos rfl, Option.some.injEq] at hL
  subst hL
  refine ⟨(x, 0), by rw [hg0]; rfl, ?_⟩
  have hx8' := (hx6'.trans hx7).trans hx8
  have hS8 := (hS6.ext hx7 (by simp)).ext hx8 (by simp)
  refine iteP_t rfl ?_
  refine iteP_t rfl ?_
  refine iteP_t rfl ?_
  refine genQ_of (s := .str) _ (convS_h u22 u5 u9 rfl hO.cells (show x.2.1 = 2 by have := hO.len; simp [byteCells] at this; omega)) ?_
  refine iteP_t (beq_iff_eq.2 rfl) ?_
  refine callF_of (bytes_c rfl hS8) ?_
  rintro e w9 ⟨rfl, rfl⟩
  refine ⟨2, by rw [ht]; rfl, ?_⟩
  refine iteP_t rfl ?_
  refine callF_of (count_c rfl hS8) ?_
  rintro e w10 ⟨rfl, rfl⟩
  refine ⟨1, by rw [hn]; rfl, ?_⟩
  exact ⟨rfl, hx8'⟩
end Go.Proofs.YtkolbfjheleoaaaDoor
