/- The contracts of Put and of awake. -/
import Derived.Test.YtkolbfjheleoaaaDoorSg
namespace Go.Proofs.YtkolbfjheleoaaaDoor
open Go Go.Fw Go.Proofs

theorem bs37 (a : Option Addr) (l c : Nat) (w : World) : (Instr.buildSlice y_S_S_uint8 1 #[(0, .slice a l c)]).run P w = .ok (.slice (some ⟨w.heap.size, 0, none⟩) 1 1) { w with heap := w.heap.push (.cells #[.slice a l c] 22) } := by kernel_rfl
theorem fresh_one (L : List UInt8) : fresh [L] = [(Sha.sum L, L)] := rfl
theorem long_one (L : List UInt8) : long [L] ↔ 4096 < L.length := by simp [long]
def nought : List UInt8 := List.replicate 32 0
theorem len_nought : nought.length = 32 := by simp [nought]
def Small (r : SM) : Prop := ∀ k L, vget r k = some L → L.length < 1099511627776

theorem put_c {w : World} {H : Heap} {fp : List Nat} {p : Nat} {q : Int} {r : SM} {c : Nat} {a : Option Addr} {l lc : Nat} {L : List UInt8} (hw : w.heap = H) (hS : Store H fp p q r c) (hfp : ∀ b ∈ fp, b < H.size) (hR : Rounds H) (h0 : 0 ∉ fp)
    (hL : Cells H a (byteCells L)) (hl : l = L.length) (hc : l ≤ lc) (ha : L ≠ [] → ∀ y, a = some y → y.block ∉ fp)
    (hb : total r + 4096 < 1125899906842624) (hq : 0 ≤ q) (hq2 : q ≤ 9223372036854775807) (hlen : Small r) :
    CallF P F_blob_Store_Put #[.pointer (some ⟨p, 0, none⟩), .slice a l lc] w fun e w' => ∃ code r' c' fp', e = .returned (.tuple #[arr (if code = 0 then Sha.sum L else nought), .int .i64 code]) ∧ Store w'.heap fp' p q r' c' ∧ Ext fp H w'.heap ∧ (∀ b ∈ fp', b < w'.heap.size) ∧ (∀ b ∈ fp', b ∈ fp ∨ H.size ≤ b) ∧ PutRes q r [L] code r' ∧
      total r' ≤ total r + 4096 := by
  refine fn_blob_Store_Put ?_
  unfold T_blob_Store_Put
  refine newB_h hw fun w1 hw1 => ?_
  have hx1 : Ext [] H (H.push (.cells (zc P y_api_Digest) y_api_Digest)) := .push _
  have hz1 : (H.push (.cells (zc P y_api_Digest) y_api_Digest (0, 0)))[H.size]? = some (.cells (zc P y_api_Digest) y_api_Digest (0, 0)) := push_new
  generalize hH1 : H.push (.cells (zc P y_api_Digest) y_api_Digest (0, 0)) = H1 at *
  refine genL_of (s := .slc) (some ⟨H1.size, 0, none⟩, 1, 1) _ (by rw [bs37, hw1]; rfl) ?_
  have hx2 : Ext [] H1 (H1.push (.cells #[.slice a l lc] 22 (0, 0))) := .push _
  have hl2 : (H1.push (.cells #[.slice a l lc] 22 (0, 0)))[H1.size]? = some (.cells #[.slice a l lc] 22 (0, 0)) := push_new
  generalize hH2 : H1.push (.cells #[.slice a l lc] 22 (0, 0)) = H2 at *
  have hx02 := hx1.trans hx2
  have hs1 : H1.size = H.size + 1 := by rw [← hH1]; simp
  have hs2 : H2.size = H.size + 2 := by rw [← hH2]; simp [hs1]
  refine callF_of (putall_c (w := { w1 with heap := H2 }) (H := H2) (Ls := [L]) rfl (hS.ext hx02 (by simp)) (fun b hb => by have := hfp b hb; omega) (hR.ext hx02 (by simp)) h0 ⟨by simp, fun i hi => ?_⟩ (by simpa using hb) hq hq2 hlen) ?_
  · obtain rfl : i = 0 := by simp at hi; omega
    exact ⟨H1.size, 0, _, _, _, (a, l, lc), rfl, hl2, rfl, hL.ext hx02 (by simp), hl, hc⟩
  rintro e w3 ⟨code, r', c', fp', rfl, hS3, hx3, hfp3, hsub, hres, htot⟩
  refine ⟨code, rfl, ?_⟩
  have hx03 : Ext fp H w3.heap := (hx02.mono (by simp)).trans hx3
  have hz3 := (hx3.get (hx2.get hz1 (by simp)) (fun h => absurd (hfp _ h) (by omega)))
  generalize hH3 : w3.heap = H3 at *
  have hsub' : ∀ b ∈ fp', b ∈ fp ∨ H.size ≤ b := fun b hb => by rcases hsub b hb with h | h; exact .inl h; exact .inr (by omega)
  have hn3 : H.size ∉ fp' := fun h => by rcases hsub _ h with h | h; exact absurd (hfp _ h) (by omega); omega
  refine iteP_ne (fun hne => ?_) (fun heq => ?_)
  · refine genQ_of (s := .any) (arr nought) (b27 _) ?_
    refine storeVar_h (size27.trans (by rw [cells_arr, len_nought])) (by rw [cells_arr, len_nought]; omega) one_byteCells hH3 hz3 (by rw [zc27, cells_arr, len_nought]; simp) fun w5 hw5 => ?_
    rw [show setCells (zc P y_api_Digest) 0 (Value.cells (arr nought)).toList = (byteCells nought).toArray from by rw [setCells_all (by rw [zc27, Array.length_toList, cells_arr, len_nought]; simp)]; simp [Value.cells, arr]] at hw5
    refine ldA_all hw5 (set_new hz3) (by simp [byteCells, nought]) ?_
    have hx5 : Ext [H.size] H3 w5.heap := by rw [hw5]; exact Ext.set _ (by simp)
    refine ⟨code, r', c', fp', by rw [if_neg hne]; rfl, hS3.ext hx5 (fun b hb => ?_), hx03.own hx5 (by intro b hb hlt; simp at hb; omega), fun b hb => Nat.lt_of_lt_of_le (hfp3 b hb) hx5.1, hsub', hres, by simpa using htot⟩
    simp only [List.mem_singleton]
    rintro rfl
    exact hn3 hb
  · subst heq
    have hlens : L.length ≤ 4096 := by
      by_cases h : 4096 < L.length
      · exact absurd (hres.1 ((long_one L).2 h)).1 (by decide)
      · omega
    refine callF_of (sum_c hH3 (hL.ext hx03 fun y hy hv => ha (by rintro rfl; exact hv rfl) y hy) hl hc (hR.ext hx03 h0) (by omega)) ?_
    rintro e w4 ⟨rfl, hx4⟩
    refine ⟨arr (Sha.sum L), rfl, ?_⟩
    have hz4 := hx4.get hz3 (by simp)
    refine storeVar_h (size27.trans (by rw [cells_arr, len_sum])) (by rw [cells_arr, len_sum]; omega) one_byteCells rfl hz4 (by rw [zc27, cells_arr, len_sum]; simp) fun w5 hw5 => ?_
    rw [show setCells (zc P y_api_Digest) 0 (Value.cells (arr (Sha.sum L))).toList = (byteCells (Sha.sum L)).toArray from by rw [setCells_all (by rw [zc27, Array.length_toList, cells_arr, len_sum]; simp)]; simp [Value.cells, arr]] at hw5
    refine ldA_all hw5 (set_new hz4) (by simp [byteCells, len_sum]) ?_
    have hx5 : Ext [H.size] H3 w5.heap := by rw [hw5]; exact (hx4.mono (by simp)).trans (Ext.set _ (by simp))
    refine ⟨0, r', c', fp', by rw [if_pos rfl]; rfl, hS3.ext hx5 (fun b hb => ?_), hx03.own hx5 (by intro b hb hlt; simp at hb; omega), fun b hb => Nat.lt_of_lt_of_le (hfp3 b hb) hx5.1, hsub', hres, by simpa using htot⟩
    simp only [List.mem_singleton]
    rintro rfl
    exact hn3 hb

/-- One blob is put. -/
theorem put_long {q : Int} {r r' : SM} {L : List UInt8} {code : Int} (h : PutRes q r [L] code r') (hl : 4096 < L.length) : code = 2 ∧ r' = r := h.1 ((long_one L).2 hl)
theorem put_full {q : Int} {r r' : SM} {L : List UInt8} {code : Int} (h : PutRes q r [L] code r') (hl : L.length ≤ 4096) (hv : vget r (Sha.sum L) = none) (hq : q < (total r : Int) + L.length) : code = 3 ∧ r' = r := by
  refine h.2.1 (by rw [long_one]; omega) ?_
  simp [extra, fresh_one, hv]; omega
theorem put_new {q : Int} {r r' : SM} {L : List UInt8} {code : Int} (h : PutRes q r [L] code r') (hl : L.length ≤ 4096) (hv : vget r (Sha.sum L) = none) (hq : (total r : Int) + L.length ≤ q) :
    code = 0 ∧ ∀ k, vget r' k = if k = Sha.sum L then some L else vget r k := by
  obtain ⟨h1, h2⟩ := h.2.2 (by rw [long_one]; omega) (by simp [extra, fresh_one, hv]; omega)
  refine ⟨h1, fun k => ?_⟩
  rw [h2]
  by_cases e : k = Sha.sum L
  · subst e; simp [fget, fresh_one, putv, hv]
  · have e' : ¬ Sha.sum L = k := fun h => e h.symm
    simp [fget, fresh_one, putv, e, e']
theorem put_old {q : Int} {r r' : SM} {L old : List UInt8} {code : Int} (h : PutRes q r [L] code r') (hl : L.length ≤ 4096) (hv : vget r (Sha.sum L) = some old) (hq : (total r : Int) ≤ q) :
    code = 0 ∧ ∀ k, vget r' k = if k = Sha.sum L ∧ Sha.sum old ≠ k then some L else vget r k := by
  obtain ⟨h1, h2⟩ := h.2.2 (by rw [long_one]; omega) (by simp [extra, fresh_one, hv]; omega)
  refine ⟨h1, fun k => ?_⟩
  rw [h2]
  by_cases e : k = Sha.sum L
  · subst e
    by_cases e2 : Sha.sum old = Sha.sum L
    · simp [fget, fresh_one, putv, hv, e2]
    · simp [fget, fresh_one, putv, hv, e2]
  · have e' : ¬ Sha.sum L = k := fun h => e h.symm
    simp [fget, fresh_one, putv, e, e']
end Go.Proofs.YtkolbfjheleoaaaDoor
