/- The reference's store: what lies where, and its reads. -/
import Derived.Test.YtkolbfjheleoaaaDoorSp
namespace Go.Proofs.YtkolbfjheleoaaaDoor
open Go Go.Fw Go.Proofs

/-- A blob of the reference's: a digest, and a slice. -/
def encB (x : List UInt8 × BV × Nat) : List Value := byteCells (pad x.1) ++ [slcV x.2.1.1]
theorem len_encB (x : List UInt8 × BV × Nat) : (encB x).length = 33 := by simp [encB, length_byteCells, len_pad]
theorem one_encB {x : List UInt8 × BV × Nat} : oneCells (encB x) := by
  intro v hv
  rcases List.mem_append.1 hv with h | h
  · exact one_byteCells v h
  · simp only [List.mem_singleton] at h; subst h; rfl
/-- Keys rise. -/
def Rising (rl : SM) : Prop := rl.Pairwise fun a b => Lib.compareBytes a.1 b.1 < 0
structure ROk (rl : SM) : Prop where
  len : ∀ x ∈ rl, x.1.length = 32
  rise : Rising rl
def RStore (H : Heap) (fp : List Nat) (p : Nat) (q : Int) (rl : SM) : Prop :=
  ∃ x, H[p]? = some (.cells #[.int .i64 q, slcV x] y_r05_Store (0, 0)) ∧ Mine H 0 y_r05_Blob 33 x (rl.flatMap encB) ∧ p ∈ fp ∧ (∀ b ∈ ownM x, b ∈ fp) ∧ Vals H fp rl ∧ Apart rl ∧ ROk rl
theorem RStore.ext {M fp : List Nat} {H H' : Heap} {p : Nat} {q : Int} {rl : SM} (h : RStore H fp p q rl) (hx : Ext M H H') (hM : ∀ b ∈ fp, b ∉ M) : RStore H' fp p q rl := by
  obtain ⟨x, h1, h2, h3, h4, h5, h6⟩ := h
  exact ⟨x, hx.get h1 (hM p h3), h2.ext hx (fun b hb => hM b (h4 b hb)), h3, h4, h5.ext hx hM, h6⟩
theorem Rising.nodup {rl : SM} (h : Rising rl) : (rl.map (·.1)).Nodup := by
  unfold Rising at h
  rw [List.nodup_iff_pairwise_ne, List.pairwise_map]
  exact h.imp fun {a b} hab e => by rw [e, (cmpB_eq).2 rfl] at hab; omega
theorem mine_len {H : Heap} {B : Nat} {x : Option Addr × Nat × Nat} {rl : SM} (h : Mine H B y_r05_Blob 33 x (rl.flatMap encB)) : x.2.1 = rl.length := by
  have := h.len
  rw [length_flatMap_k encB len_encB] at this
  omega
theorem uB : P.underlying y_S_r05_Blob = some (.slice y_r05_Blob) := by kernel_rfl
theorem EB : Elem P y_r05_Blob 33 56 := elem_of (z := Value.agg ((List.replicate 32 (Value.int .u8 0)) ++ [Value.slice none 0 0]).toArray) (by kernel_rfl) rfl
theorem szB : (P.info? y_r05_Blob).map (·.size) = some 33 := by kernel_rfl
theorem bR (a : Int) (w : World) : (Instr.build y_r05_Store #[(0, .int .i64 a)]).run P w = .ok (.agg #[.int .i64 a, .slice none 0 0]) w := by kernel_rfl

theorem newr_c {w : World} {H : Heap} (q : Int) (hw : w.heap = H) : CallF P F_r05_New #[.int .i64 q] w fun e w' => ∃ p, e = .returned (.pointer (some ⟨p, 0, none⟩)) ∧ RStore w'.heap [p] p (max q 0) [] ∧ Ext [] H w'.heap ∧ H.size ≤ p ∧ p < w'.heap.size := by
  refine fn_r05_New ?_
  unfold T_r05_New
  refine genQ_of (s := .int .i64) (max q 0) ?_ ?_
  · rw [run_max_int2]
    congr 2
    show (if (0 : Int) > q then 0 else q) = max q 0
    split <;> omega
  refine genQ_of (s := .any) _ (bR _ _) ?_
  refine newB_h hw fun w1 hw1 => ?_
  refine ⟨H.size, rfl, ⟨(none, 0, 0), by rw [hw1]; exact push_new, .inl ⟨rfl, rfl⟩, by simp, by simp [ownM], (by intro x hx; cases hx), (by intro x hx; cases hx), ⟨by simp, .nil⟩⟩, by rw [hw1]; exact .push _, Nat.le_refl _, by rw [hw1]; simp⟩

/-- An element's cells, by its place. -/
theorem elem_ix {α : Type} {enc : α → List Value} {sz : Nat} {H : Heap} {a : Option Addr} {len : Nat} (hk : ∀ x, (enc x).length = sz) (h0 : 0 < sz) {xs : List α} {v : α} {i : Nat} {n : Int} (hL : Cells H a (xs.flatMap enc))
    (hlen : len = xs.length) (hi : xs[i]? = some v) (hn : n = (i : Int)) {K : Addr → Prop} (hK : ∀ b o c T fr, a.map (·.block) = some b → H[b]? = some (.cells c T fr) → o + sz ≤ c.size → (∀ j, j < sz → c[o + j]? = (enc v)[j]?) → (a = some ⟨b, 0, none⟩ → o = i * sz) → K ⟨b, o, none⟩) : ixS a len sz n K := by
  have hlt := (List.getElem?_eq_some_iff.1 hi).1
  rcases hL with h | ⟨b, o, c, T, fr, rfl, hb, hsz, hc⟩
  · have := congrArg List.length h
    rw [length_flatMap_k enc hk] at this
    have := Nat.mul_pos (show 0 < xs.length by omega) h0
    simp_all
  · refine ixS_h i hn (by omega) ?_
    have hm : i * sz + sz ≤ xs.length * sz := by
      have := Nat.mul_le_mul_right sz (show i + 1 ≤ xs.length by omega)
      rw [Nat.add_mul] at this; omega
    rw [length_flatMap_k enc hk] at hsz
    refine hK b (o + i * sz) c T fr rfl hb (by omega) (fun j hj => ?_) (fun h => by cases h; omega)
    have h2 : (xs.flatMap enc)[i * sz + j]? = (enc v)[j]? := by
      rw [getElem_flatMap enc hk h0]
      have h3 : (i * sz + j) / sz = i := by
        rw [Nat.mul_comm, Nat.mul_add_div h0, Nat.div_eq_of_lt hj]; rfl
      have h4 : (i * sz + j) % sz = j := by
        rw [Nat.mul_comm, Nat.mul_add_mod, Nat.mod_eq_of_lt hj]
      rw [h3, h4, hi]; rfl
    rw [← hc, Array.getElem?_toList, Array.getElem?_extract, length_flatMap_k enc hk, if_pos (by omega)] at h2
    rw [← h2]
    congr 1; omega
theorem key_cells {c : Array Value} {o : Nat} {x : List UInt8 × BV × Nat} (h32 : x.1.length = 32) (hs : o + 33 ≤ c.size) (h : ∀ j, j < 33 → c[o + j]? = (encB x)[j]?) : c.extract o (o + 32) = (byteCells x.1).toArray := by
  apply Array.ext_getElem?
  intro j
  rw [Array.getElem?_extract]
  by_cases hj : j < 32
  · rw [if_pos (by omega), h j (by omega), encB, List.getElem?_append_left (by rw [length_byteCells, len_pad]; exact hj), pad_eq h32]
    simp
  · rw [if_neg (by omega), Array.getElem?_eq_none (by simp [length_byteCells, h32]; omega)]
theorem val_cell {c : Array Value} {o : Nat} {x : List UInt8 × BV × Nat} (h : ∀ j, j < 33 → c[o + j]? = (encB x)[j]?) : c[o + 32]? = some (slcV x.2.1.1) := by
  rw [h 32 (by omega), encB, List.getElem?_append_right (by rw [length_byteCells, len_pad]; omega), length_byteCells, len_pad]
  rfl
/-- An element's digest; an element's slice. -/
theorem blob_key {w : World} {H : Heap} {a : Option Addr} {len i : Nat} {n : Int} {rl : SM} {x : List UInt8 × BV × Nat} (hw : w.heap = H) (hL : Cells H a (rl.flatMap encB)) (hlen : len = rl.length) (hi : rl[i]? = some x) (hn : n = (i : Int)) (h32 : x.1.length = 32) {K : Array Value → Prop}
    (hK : K (byteCells x.1).toArray) : ixS a len 33 n fun p => ldA P 32 p w K := by
  refine elem_ix len_encB (by omega) hL hlen hi hn fun b o c T fr _ hb hs hc _ => ?_
  refine ldA_h hw hb (by omega) ?_
  rw [key_cells h32 hs hc]; exact hK
theorem blob_val {w : World} {H : Heap} {a : Option Addr} {len i : Nat} {n : Int} {rl : SM} {x : List UInt8 × BV × Nat} (hw : w.heap = H) (hL : Cells H a (rl.flatMap encB)) (hlen : len = rl.length) (hi : rl[i]? = some x) (hn : n = (i : Int)) {K : Option Addr × Nat × Nat → Prop}
    (hK : K x.2.1.1) : ixS a len 33 n fun p => ld .slc (Addr.add p 32) w K := by
  refine elem_ix len_encB (by omega) hL hlen hi hn fun b o c T fr _ hb hs hc _ => ?_
  rw [add_none]
  exact ld_h (s := .slc) hw hb (val_cell hc) hK

/-- The reference's comparison of digests. -/
theorem refcompare_c {w : World} {k k' : List UInt8} (hk : k.length = 32) (hk' : k'.length = 32) :
    CallF P F_r01_Compare #[arr k, arr k'] w fun e w' => e = .returned (.int .i64 (Lib.compareBytes k k')) ∧ Ext [] w.heap w'.heap := by
  refine fn_r01_Compare ?_
  unfold T_r01_Compare
  refine newB_h rfl fun w1 hw1 => ?_
  refine newB_h hw1 fun w2 hw2 => ?_
  have hx2 : Ext [] w.heap w2.heap := by rw [hw2]; exact (Ext.push _).trans (Ext.push _)
  have ha : w2.heap[w.heap.size]? = some (.cells (byteCells k).toArray y_api_Digest (0, 0)) := by rw [hw2]; exact push_old push_new
  have hb : w2.heap[(w.heap.push (.cells (Value.cells (arr k)) y_api_Digest)).size]? = some (.cells (byteCells k').toArray y_api_Digest (0, 0)) := by rw [hw2]; exact push_new
  generalize (w.heap.push (.cells (Value.cells (arr k)) y_api_Digest)).size = b3 at *
  have hstep : ∀ (L L' : List UInt8), L.length = L'.length → ∀ i, (∀ j, j < i → L[j]? = L'[j]?) → i ≤ L.length → Lib.compareBytes L L' = Lib.compareBytes (L.drop i) (L'.drop i) := by
    intro L
    induction L with
    | nil => intro L' hl i _ hi; cases L' with
      | nil => simp
      | cons => simp at hl
    | cons x L ih =>
      intro L' hl i hj hi
      cases L' with
      | nil => simp at hl
      | cons y L' =>
        cases i with
        | zero => rfl
        | succ i =>
          have h0 := hj 0 (by omega)
          simp at h0
          subst h0
          simp only [Lib.compareBytes, UInt8.lt_irrefl, if_false, List.drop_succ_cons]
          exact ih L' (by simpa using hl) i (fun j h => by have := hj (j + 1) (by omega); simpa using this) (by simpa using hi)
  refine loopP_of (fun (s : Int) W => ∃ i : Nat, s = (i : Int) ∧ i ≤ 32 ∧ W.heap = w2.heap ∧ ∀ j, j < i → k[j]? = k'[j]?) (fun s _ => (32 - s).toNat) ⟨0, rfl, by omega, rfl, by intro j h; omega⟩ ?_
  rintro _ W ⟨i, rfl, hi, hW, heq⟩
  have hdrop : ∀ (L : List UInt8) (h : i < L.length), L.drop i = L[i] :: L.drop (i + 1) := fun L h => List.drop_eq_getElem_cons h
  have hs := hstep k k' (by omega) i heq (by omega)
  refine iteP_dec (fun hlt => ?_) (fun hge => ?_)
  · have hik : i < k.length := by omega
    have hik' : i < k'.length := by omega
    rw [hdrop k hik, hdrop k' hik'] at hs
    simp only [Lib.compareBytes] at hs
    refine drewP_h hW fun W1 hW1 => ?_
    refine ixR_0 i rfl (by omega) ?_
    refine ixR_0 i rfl (by omega) ?_
    refine ld_h (s := .int .u8) (t := (k[i].toNat : Int)) hW1 ha (by rw [List.getElem?_toArray, byteCells_get hik, List.getD_eq_getElem?_getD, List.getElem?_eq_getElem hik]; rfl) ?_
    refine ld_h (s := .int .u8) (t := (k'[i].toNat : Int)) hW1 hb (by rw [List.getElem?_toArray, byteCells_get hik', List.getD_eq_getElem?_getD, List.getElem?_eq_getElem hik']; rfl) ?_
    refine iteP_dec (fun hl => ?_) (fun hnl => ?_)
    · have : k[i] < k'[i] := by rw [UInt8.lt_iff_toNat_lt]; omega
      rw [if_pos this] at hs
      exact ⟨by rw [hs], by rw [hW1]; exact hx2⟩
    have hn1 : ¬ k[i] < k'[i] := by rw [UInt8.lt_iff_toNat_lt]; omega
    rw [if_neg hn1] at hs
    refine drewP_h hW1 fun W2 hW2 => ?_
    refine ixR_0 i rfl (by omega) ?_
    refine ixR_0 i rfl (by omega) ?_
    refine ld_h (s := .int .u8) (t := (k[i].toNat : Int)) hW2 ha (by rw [List.getElem?_toArray, byteCells_get hik, List.getD_eq_getElem?_getD, List.getElem?_eq_getElem hik]; rfl) ?_
    refine ld_h (s := .int .u8) (t := (k'[i].toNat : Int)) hW2 hb (by rw [List.getElem?_toArray, byteCells_get hik', List.getD_eq_getElem?_getD, List.getElem?_eq_getElem hik']; rfl) ?_
    refine iteP_dec (fun hl => ?_) (fun hnl2 => ?_)
    · have : k'[i] < k[i] := by rw [UInt8.lt_iff_toNat_lt]; omega
      rw [if_pos this] at hs
      exact ⟨by rw [hs], by rw [hW2]; exact hx2⟩
    refine addI_to ((i + 1 : Nat) : Int) (by omega) (by omega) (by omega) ?_
    refine ⟨⟨i + 1, rfl, by omega, hW2, fun j hj => ?_⟩, by omega⟩
    by_cases e : j = i
    · subst e
      rw [List.getElem?_eq_getElem hik, List.getElem?_eq_getElem hik']
      congr 1
      rw [← UInt8.toNat_inj]; omega
    · exact heq j (by omega)
  · have : i = 32 := by omega
    subst this
    rw [List.drop_of_length_le (by omega), List.drop_of_length_le (by omega)] at hs
    exact ⟨by rw [hs]; rfl, by rw [hW]; exact hx2⟩
end Go.Proofs.YtkolbfjheleoaaaDoor

/- The reference's store: what it finds, and its reads. -/
namespace Go.Proofs.YtkolbfjheleoaaaDoor
open Go Go.Fw Go.Proofs

/-- A digest's place among keys that rise. -/
structure Split (rl : SM) (k : List UInt8) (pre rest : SM) : Prop where
  eq : rl = pre ++ rest
  lo : ∀ x ∈ pre, Lib.compareBytes x.1 k < 0
  hi : ∀ x ∈ rest, ¬ Lib.compareBytes x.1 k < 0
theorem split_at {rl : SM} {k : List UInt8} (hr : Rising rl) {i : Nat} (hi : i ≤ rl.length) (h1 : ∀ x ∈ rl.take i, Lib.compareBytes x.1 k < 0) (h2 : ∀ h : i < rl.length, ¬ Lib.compareBytes (rl[i]).1 k < 0) : Split rl k (rl.take i) (rl.drop i) := by
  refine ⟨(List.take_append_drop i rl).symm, h1, fun x hx => ?_⟩
  obtain ⟨j, hj, rfl⟩ := List.mem_iff_getElem.1 hx
  simp only [List.length_drop] at hj
  rw [List.getElem_drop]
  by_cases hj0 : j = 0
  · subst hj0; exact h2 (by omega)
  · have h3 := h2 (by omega)
    have h4 : Lib.compareBytes (rl[i]'(by omega)).1 (rl[i + j]'(by omega)).1 < 0 := List.pairwise_iff_getElem.1 hr i (i + j) (by omega) (by omega) (by omega)
    intro h5
    exact h3 (cmpB_lt.2 (List.lt_trans (cmpB_lt.1 h4) (cmpB_lt.1 h5)))
def hit (rest : SM) (k : List UInt8) : Bool := match rest with | [] => false | x :: _ => decide (x.1 = k)
theorem hit_none {rl pre rest : SM} {k : List UInt8} (h : Split rl k pre rest) (hr : Rising rl) (hh : hit rest k = false) : vget rl k = none := by
  unfold vget
  rw [mget_none_of]; rfl
  intro x hx e
  rw [h.eq] at hx
  rcases List.mem_append.1 hx with hx | hx
  · have := h.lo x hx; rw [e, cmpB_eq.2 rfl] at this; omega
  · cases rest with
    | nil => cases hx
    | cons y rest =>
      rcases List.mem_cons.1 hx with rfl | hx
      · simp [hit, e] at hh
      · have h1 : Lib.compareBytes y.1 x.1 < 0 := by
          have := hr; unfold Rising at this; rw [h.eq] at this
          exact (List.pairwise_cons.1 (List.pairwise_append.1 this).2.1).1 x hx
        rw [e] at h1
        exact h.hi y (by simp) h1
theorem hit_some {rl pre rest : SM} {k : List UInt8} (h : Split rl k pre rest) (hr : Rising rl) (hh : hit rest k = true) : ∃ x t, rest = x :: t ∧ x.1 = k ∧ vget rl k = some x.2.1.2 ∧ rl[pre.length]? = some x ∧ x ∈ rl := by
  cases rest with
  | nil => simp [hit] at hh
  | cons x t =>
    have e : x.1 = k := by simpa [hit] using hh
    have hm : x ∈ rl := by rw [h.eq]; simp
    exact ⟨x, t, rfl, e, by rw [← e]; exact vget_mem hr.nodup hm, by rw [h.eq]; simp, hm⟩
theorem hit_vget {rl pre rest : SM} {k : List UInt8} (h : Split rl k pre rest) (hr : Rising rl) : hit rest k = (vget rl k).isSome := by
  cases hh : hit rest k with
  | false => rw [hit_none h hr hh]; rfl
  | true => obtain ⟨x, t, _, _, h1, _⟩ := hit_some h hr hh; rw [h1]; rfl

set_option maxHeartbeats 2000000 in
theorem find_c {w : World} {H : Heap} {fp : List Nat} {p : Nat} {q : Int} {rl : SM} {k : List UInt8} (hw : w.heap = H) (hS : RStore H fp p q rl) (hk : k.length = 32) (hn : rl.length < 1099511627776) :
    CallF P F_r05_Store_find #[.pointer (some ⟨p, 0, none⟩), arr k] w fun e w' => ∃ pre rest, e = .returned (.tuple #[.int .i64 (pre.length : Int), .bool (hit rest k)]) ∧ Split rl k pre rest ∧ Ext [] H w'.heap := by
  obtain ⟨x, h1, h2, h3, h4, h5, h6, h7⟩ := hS
  have hxl := mine_len h2
  refine fn_r05_Store_find ?_
  unfold T_r05_Store_find
  refine newB_h hw fun w1 hw1 => ?_
  have hx1 : Ext [] H w1.heap := by rw [hw1]; exact .push _
  have hb1 : w1.heap[H.size]? = some (.cells (byteCells k).toArray y_api_Digest (0, 0)) := by rw [hw1]; exact push_new
  have h11 := hx1.get h1 (by simp)
  have h21 := h2.ext hx1 (by simp)
  refine joinP_of (fun (s : Int) W => ∃ i : Nat, s = (i : Int) ∧ i ≤ rl.length ∧ Ext [] w1.heap W.heap ∧ (∀ y ∈ rl.take i, Lib.compareBytes y.1 k < 0) ∧ ∀ h : i < rl.length, ¬ Lib.compareBytes (rl[i]).1 k < 0) ?_ ?_
  · refine loopP_of (fun (s : Int) W => ∃ i : Nat, s = (i : Int) ∧ i ≤ rl.length ∧ Ext [] w1.heap W.heap ∧ ∀ y ∈ rl.take i, Lib.compareBytes y.1 k < 0) (fun s _ => (rl.length - s).toNat) ⟨0, rfl, Nat.zero_le _, .refl _ _, by simp⟩ ?_
    rintro _ W ⟨i, rfl, hi, hxW, hlo⟩
    refine joinP_in ?_
    refine drewP_h rfl fun W1 hW1 => ?_
    have hx1 : Ext [] w1.heap W1.heap := by rw [hW1]; exact hxW
    simp only [withAddr_some, add_none, Nat.zero_add]
    refine ld_h (s := .slc) (t := x) rfl (hx1.get h11 (by simp)) rfl ?_
    refine iteP_dec (fun hlt => ?_) (fun hge => ?_)
    · have hil : i < rl.length := by omega
      refine ld_h (s := .slc) (t := x) rfl (hx1.get h11 (by simp)) rfl ?_
      refine blob_key rfl (h21.ext hx1 (by simp)).cells hxl (List.getElem?_eq_getElem hil) rfl (h7.len _ (List.getElem_mem hil)) ?_
      refine ldA_all rfl (hx1.get hb1 (by simp)) (by simp [byteCells, hk]) ?_
      refine callF_of (refcompare_c (h7.len _ (List.getElem_mem hil)) hk) ?_
      rintro e W2 ⟨rfl, hx2⟩
      refine ⟨_, rfl, ?_⟩
      refine iteP_dec (fun hl => ?_) (fun hnl => ⟨i, rfl, hi, hx1.trans hx2, hlo, fun _ => hnl⟩)
      refine addI_to ((i + 1 : Nat) : Int) (by omega) (by omega) (by omega) ?_
      refine ⟨⟨i + 1, rfl, by omega, hx1.trans hx2, fun y hy => ?_⟩, by omega⟩
      rw [List.take_add_one, List.getElem?_eq_getElem hil] at hy
      rcases List.mem_append.1 hy with hy | hy
      · exact hlo y hy
      · simp only [Option.toList_some, List.mem_singleton] at hy; subst hy; exact hl
    · exact ⟨i, rfl, hi, hx1, hlo, fun h => by omega⟩
  · rintro _ W ⟨i, rfl, hi, hxW, hlo, hhi⟩
    refine drewP_h rfl fun W1 hW1 => ?_
    have hx1' : Ext [] w1.heap W1.heap := by rw [hW1]; exact hxW
    have hsp := split_at h7.rise hi hlo hhi
    have hpl : (rl.take i).length = i := by simp; omega
    simp only [withAddr_some, add_none, Nat.zero_add]
    refine ld_h (s := .slc) (t := x) rfl (hx1'.get h11 (by simp)) rfl ?_
    refine iteP_dec (fun hlt => ?_) (fun hge => ?_)
    · have hil : i < rl.length := by omega
      refine ld_h (s := .slc) (t := x) rfl (hx1'.get h11 (by simp)) rfl ?_
      refine blob_key rfl (h21.ext hx1' (by simp)).cells hxl (List.getElem?_eq_getElem hil) rfl (h7.len _ (List.getElem_mem hil)) ?_
      refine ldA_all rfl (hx1'.get hb1 (by simp)) (by simp [byteCells, hk]) ?_
      refine genQ_of (s := .bool) _ (eqM_arr u27 u5 c5 g27 (h7.len _ (List.getElem_mem hil)) hk) ?_
      refine ⟨rl.take i, rl.drop i, ?_, hsp, hx1.trans hx1'⟩
      rw [hpl, List.drop_eq_getElem_cons hil]
      rfl
    · refine ⟨rl.take i, rl.drop i, ?_, hsp, hx1.trans hx1'⟩
      rw [hpl, List.drop_of_length_le (by omega)]
      rfl
theorem rhas_c {w : World} {H : Heap} {fp : List Nat} {p : Nat} {q : Int} {rl : SM} {k : List UInt8} (hw : w.heap = H) (hS : RStore H fp p q rl) (hk : k.length = 32) (hn : rl.length < 1099511627776) :
    CallF P F_r05_Store_Has #[.pointer (some ⟨p, 0, none⟩), arr k] w fun e w' => e = .returned (.bool (vget rl k).isSome) ∧ Ext [] H w'.heap := by
  have hr : Rising rl := by obtain ⟨_, _, _, _, _, _, _, h7⟩ := hS; exact h7.rise
  refine fn_r05_Store_Has ?_
  unfold T_r05_Store_Has
  refine newB_h hw fun w1 hw1 => ?_
  have hx1 : Ext [] H w1.heap := by rw [hw1]; exact .push _
  refine ldA_all hw1 push_new (by simp [arr, Value.cells, byteCells, hk]) ?_
  refine callF_of (find_c rfl (hS.ext hx1 (by simp)) hk hn) ?_
  rintro e w2 ⟨pre, rest, rfl, hsp, hx2⟩
  refine ⟨((pre.length : Int), hit rest k), rfl, ?_⟩
  exact ⟨by rw [hit_vget hsp hr], hx1.trans hx2⟩
theorem total_take {rl : SM} {i : Nat} (h : i < rl.length) : total (rl.take (i + 1)) = total (rl.take i) + (rl[i]).2.1.2.length := by
  unfold total
  rw [List.take_add_one, List.getElem?_eq_getElem h, List.map_append, List.sum_append]
  simp
theorem total_take_le {rl : SM} {i : Nat} : total (rl.take i) ≤ total rl := by
  conv => rhs; rw [← List.take_append_drop i rl]
  unfold total
  rw [List.map_append, List.sum_append]
  omega
theorem vals_ix {H : Heap} {fp : List Nat} {rl : SM} (h : Vals H fp rl) {i : Nat} {x : List UInt8 × BV × Nat} (hi : rl[i]? = some x) : x.2.1.1.2.1 = x.2.1.2.length := by
  have := (h x (List.mem_of_getElem? hi)).1.len
  rw [length_byteCells] at this; omega
theorem rbytes_c {w : World} {H : Heap} {fp : List Nat} {p : Nat} {q : Int} {rl : SM} (hw : w.heap = H) (hS : RStore H fp p q rl) (hn : rl.length < 1099511627776) (ht : total rl < 1125899906842624) :
    CallF P F_r05_Store_Bytes #[.pointer (some ⟨p, 0, none⟩)] w fun e w' => e = .returned (.int .i64 (total rl : Int)) ∧ w' = w := by
  obtain ⟨x, h1, h2, h3, h4, h5, h6, h7⟩ := hS
  have hxl := mine_len h2
  refine fn_r05_Store_Bytes ?_
  unfold T_r05_Store_Bytes
  refine loopP_of (fun (s : Int × Int) W => ∃ i : Nat, s = ((total (rl.take i) : Int), (i : Int)) ∧ i ≤ rl.length ∧ W = w) (fun s _ => (rl.length - s.2).toNat) ⟨0, rfl, Nat.zero_le _, rfl⟩ ?_
  rintro _ _ ⟨i, rfl, hi, rfl⟩
  simp only [withAddr_some, add_none, Nat.zero_add]
  refine ld_h (s := .slc) (t := x) hw h1 rfl ?_
  refine iteP_dec (fun hlt => ?_) (fun hge => ?_)
  · have hil : i < rl.length := by omega
    refine ld_h (s := .slc) (t := x) hw h1 rfl ?_
    refine blob_val hw h2.cells hxl (List.getElem?_eq_getElem hil) rfl ?_
    have hv := vals_ix h5 (List.getElem?_eq_getElem hil)
    have ht1 := total_take hil
    have ht2 := total_take_le (rl := rl) (i := i + 1)
    refine addI_to ((total (rl.take (i + 1)) : Nat) : Int) (by rw [hv]; omega) (by omega) (by omega) ?_
    refine addI_to ((i + 1 : Nat) : Int) (by omega) (by omega) (by omega) ?_
    exact ⟨⟨i + 1, rfl, by omega, trivial⟩, by omega⟩
  · have : i = rl.length := by omega
    subst this
    rw [List.take_length]
    exact ⟨rfl, trivial⟩
end Go.Proofs.YtkolbfjheleoaaaDoor

/- The reference's store: Get, Spoil, fresh, Drop. -/
namespace Go.Proofs.YtkolbfjheleoaaaDoor
open Go Go.Fw Go.Proofs

/-- An empty slice of a type's. -/
theorem nil8 {w : World} {H : Heap} (hw : w.heap = H) {K : (Option Addr × Nat × Nat) → World → Prop} (hK : ∀ w', Ext [] H w'.heap → Mine w'.heap H.size y_uint8 1 (some ⟨H.size, 0, none⟩, 0, 0) [] → K (some ⟨H.size, 0, none⟩, 0, 0) w') : genL P (Instr.buildSlice y_S_uint8 0 #[]) .slc w K := by
  refine genL_of (s := .slc) (some ⟨H.size, 0, none⟩, 0, 0) { w with heap := H.push (.cells #[] y_uint8) } (by rw [← hw]; kernel_rfl) ?_
  exact hK _ (.push _) (.inr ⟨H.size, #[], rfl, Nat.le_refl _, push_new, rfl, rfl, Nat.le_refl _, rfl⟩)
theorem nilB {w : World} {H : Heap} (hw : w.heap = H) {K : (Option Addr × Nat × Nat) → World → Prop} (hK : ∀ w', Ext [] H w'.heap → Mine w'.heap H.size y_r05_Blob 33 (some ⟨H.size, 0, none⟩, 0, 0) [] → K (some ⟨H.size, 0, none⟩, 0, 0) w') : genL P (Instr.buildSlice y_S_r05_Blob 0 #[]) .slc w K := by
  refine genL_of (s := .slc) (some ⟨H.size, 0, none⟩, 0, 0) { w with heap := H.push (.cells #[] y_r05_Blob) } (by rw [← hw]; kernel_rfl) ?_
  exact hK _ (.push _) (.inr ⟨H.size, #[], rfl, Nat.le_refl _, push_new, rfl, rfl, Nat.le_refl _, rfl⟩)
/-- A copy of bytes. -/
theorem copy8 {w : World} {H : Heap} {B : Nat} {a : Option Addr} {l c : Nat} {L : List UInt8} {x : Option Addr × Nat × Nat} (hw : w.heap = H) (hx : Mine H B y_uint8 1 x []) (hB : B ≤ H.size) (hL : Cells H a (byteCells L)) (hl : l = L.length) (hlen : L.length < 140000000000000) {K : (Option Addr × Nat × Nat) → World → Prop}
    (hK : ∀ x' w', Mine w'.heap B y_uint8 1 x' (byteCells L) → x'.2.1 = L.length → Ext (ownM x) H w'.heap → K x' w') : genL P (Builtin.append_ #[y_S_uint8, y_S_uint8] y_S_uint8 #[.slice x.1 x.2.1 x.2.2, .slice a l c]) .slc w K := by
  subst hl
  have h0 : x.2.1 = 0 := by have := hx.len; simp at this; omega
  refine append22 hw hx hB (Src.slc hw hL (by simp)) one_byteCells (by omega) ?_
  intro x2 w2 hO2 hl2 hx2 hm2
  rw [List.nil_append] at hO2
  exact hK x2 w2 hO2 (by omega) hx2

theorem RStore.rise {H : Heap} {fp : List Nat} {p : Nat} {q : Int} {rl : SM} (hS : RStore H fp p q rl) : Rising rl := by obtain ⟨_, _, _, _, _, _, _, h7⟩ := hS; exact h7.rise
theorem RStore.keys {H : Heap} {fp : List Nat} {p : Nat} {q : Int} {rl : SM} (hS : RStore H fp p q rl) : (rl.map (·.1)).Nodup := hS.rise.nodup

set_option maxHeartbeats 2000000 in
theorem rget_c {w : World} {H : Heap} {fp : List Nat} {p : Nat} {q : Int} {rl : SM} {k : List UInt8} (hw : w.heap = H) (hS : RStore H fp p q rl) (hk : k.length = 32) (hn : rl.length < 1099511627776) (hlen : ∀ L, vget rl k = some L → L.length < 1099511627776) :
    CallF P F_r05_Store_Get #[.pointer (some ⟨p, 0, none⟩), arr k] w fun e w' => ∃ x, e = .returned (.tuple #[slcV x, .int .i64 (got (vget rl k) k)]) ∧ Ext [] H w'.heap ∧
      (got (vget rl k) k = 0 → ∃ L, vget rl k = some L ∧ Mine w'.heap H.size y_uint8 1 x (byteCells L)) ∧ (got (vget rl k) k ≠ 0 → x = (none, 0, 0)) := by
  refine fn_r05_Store_Get ?_
  unfold T_r05_Store_Get
  refine newB_h hw fun w1 hw1 => ?_
  have hx1 : Ext [] H w1.heap := by rw [hw1]; exact .push _
  have hb1 : w1.heap[H.size]? = some (.cells (byteCells k).toArray y_api_Digest (0, 0)) := by rw [hw1]; exact push_new
  have hs1 : H.size ≤ w1.heap.size := hx1.1
  refine ldA_all rfl hb1 (by simp [byteCells, hk]) ?_
  refine callF_of (find_c rfl (hS.ext hx1 (by simp)) hk hn) ?_
  rintro e w2 ⟨pre, rest, rfl, hsp, hx2⟩
  refine ⟨((pre.length : Int), hit rest k), rfl, ?_⟩
  have hx02 := hx1.trans hx2
  cases hh : hit rest k with
  | false =>
    refine iteP_t rfl ?_
    rw [hit_none hsp hS.rise hh]
    exact ⟨(none, 0, 0), rfl, hx02, (by intro h; simp [got] at h), fun _ => rfl⟩
  | true =>
    refine iteP_f rfl ?_
    obtain ⟨y, t, _, _, hvy, hget, hmem⟩ := hit_some hsp hS.rise hh
    have hL := hlen _ hvy
    obtain ⟨x, h1, h2, h3, h4, h5, h6, h7⟩ := hS
    have hxl := mine_len h2
    have hyl := vals_ix h5 hget
    refine drewP_h rfl fun w3 hw3 => ?_
    have hx03 : Ext [] H w3.heap := by rw [hw3]; exact hx02
    simp only [withAddr_some, add_none, Nat.zero_add]
    refine ld_h (s := .slc) (t := x) rfl (hx03.get h1 (by simp)) rfl ?_
    refine blob_val rfl (h2.ext hx03 (by simp)).cells hxl hget rfl ?_
    have hb3 : w3.heap[H.size]? = some (.cells (byteCells k).toArray y_api_Digest (0, 0)) := by rw [hw3]; exact hx2.get hb1 (by simp)
    refine ldA_all rfl hb3 (by simp [byteCells, hk]) ?_
    refine callF_of (refsum_c rfl ((h5 y hmem).1.ext hx03 (by simp)).cells hyl (by omega)) ?_
    rintro e w4 ⟨rfl, hx4⟩
    refine ⟨arr (Sha.sum y.2.1.2), rfl, ?_⟩
    have hx04 := hx03.trans hx4
    refine ⟨ldA_all rfl (hx4.get hb3 (by simp)) (by simp [byteCells, hk]) rfl, ?_⟩
    refine genQ_of (s := .bool) _ (neqM_arr u27 u5 c5 g27 len_sum hk) ?_
    rw [hvy]
    by_cases e : Sha.sum y.2.1.2 = k
    · refine iteP_f (by simp [e]) ?_
      refine nil8 rfl fun w5 hx5 hm5 => ?_
      have hx05 := hx04.trans hx5
      refine ld_h (s := .slc) (t := x) rfl (hx05.get h1 (by simp)) rfl ?_
      refine blob_val rfl (h2.ext hx05 (by simp)).cells hxl hget rfl ?_
      refine copy8 rfl hm5 hx5.1 ((h5 y hmem).1.ext hx05 (by simp)).cells hyl (by omega) ?_
      intro x' w6 hm6 hl6 hx6
      refine ⟨x', by simp [got, e]; rfl, hx05.own hx6 (by intro b hb; have := hx04.1; simp [ownM] at hb; omega), fun _ => ⟨_, rfl, hm6.mono hx04.1⟩, fun h => absurd (by simp [got, e]) h⟩
    · refine iteP_t (by simp [e]) ?_
      exact ⟨(none, 0, 0), by simp [got, e]; rfl, hx04, (by intro h; simp [got, e] at h), fun _ => rfl⟩

def newsum (rl ol : SM) : Nat := ((rl.filter fun x => (vget ol x.1).isNone).map fun x => x.2.1.2.length).sum
theorem newsum_take {rl ol : SM} {i : Nat} (h : i < rl.length) : newsum (rl.take (i + 1)) ol = newsum (rl.take i) ol + if (vget ol (rl[i]).1).isSome then 0 else (rl[i]).2.1.2.length := by
  unfold newsum
  rw [List.take_add_one, List.getElem?_eq_getElem h, List.filter_append, List.map_append, List.sum_append]
  cases hv : vget ol (rl[i]).1 <;> simp [hv]
theorem newsum_le {rl ol : SM} : newsum rl ol ≤ total rl := by
  induction rl with
  | nil => simp [newsum]
  | cons x l ih =>
    unfold newsum total at *
    simp only [List.filter_cons, List.map_cons, List.sum_cons]
    split
    · simp only [List.map_cons, List.sum_cons]; omega
    · omega
theorem rfresh_c {w : World} {H : Heap} {fp fo : List Nat} {p o : Nat} {q qo : Int} {rl ol : SM} (hw : w.heap = H) (hS : RStore H fp p q rl) (hO : RStore H fo o qo ol) (hn : rl.length < 1099511627776) (hno : ol.length < 1099511627776) (ht : total rl < 1125899906842624) :
    CallF P F_r05_Store_fresh #[.pointer (some ⟨p, 0, none⟩), .pointer (some ⟨o, 0, none⟩)] w fun e w' => e = .returned (.int .i64 (newsum rl ol : Int)) ∧ Ext [] H w'.heap := by
  obtain ⟨x, h1, h2, h3, h4, h5, h6, h7⟩ := hS
  have hxl := mine_len h2
  refine fn_r05_Store_fresh ?_
  unfold T_r05_Store_fresh
  refine loopP_of (fun (s : Int × Int) W => ∃ i : Nat, s = ((newsum (rl.take i) ol : Int), (i : Int)) ∧ i ≤ rl.length ∧ Ext [] H W.heap) (fun s _ => (rl.length - s.2).toNat) ⟨0, rfl, Nat.zero_le _, by rw [hw]; exact .refl _ _⟩ ?_
  rintro _ W ⟨i, rfl, hi, hxW⟩
  simp only [withAddr_some, add_none, Nat.zero_add]
  refine ld_h (s := .slc) (t := x) rfl (hxW.get h1 (by simp)) rfl ?_
  refine iteP_dec (fun hlt => ?_) (fun hge => ?_)
  · have hil : i < rl.length := by omega
    have hget := List.getElem?_eq_getElem hil
    have hk := h7.len _ (List.getElem_mem hil)
    have hv := vals_ix h5 hget
    refine joinP_of (fun (s : Int) W2 => s = (newsum (rl.take (i + 1)) ol : Int) ∧ Ext [] H W2.heap) ?_ ?_
    · refine ld_h (s := .slc) (t := x) rfl (hxW.get h1 (by simp)) rfl ?_
      refine blob_key rfl (h2.ext hxW (by simp)).cells hxl hget rfl hk ?_
      refine callF_of (find_c rfl (hO.ext hxW (by simp)) hk hno) ?_
      rintro e W2 ⟨pre, rest, rfl, hsp, hx2⟩
      refine ⟨((pre.length : Int), hit rest (rl[i]).1), rfl, ?_⟩
      have hns := newsum_take (rl := rl) (ol := ol) hil
      have hle := newsum_le (rl := rl.take (i + 1)) (ol := ol)
      have hle2 := total_take_le (rl := rl) (i := i + 1)
      rw [← hit_vget hsp hO.rise] at hns
      cases hh : hit rest (rl[i]).1 with
      | false =>
        rw [hh] at hns
        simp only [Bool.false_eq_true, if_false] at hns
        refine iteP_t rfl ?_
        have hx02 := hxW.trans hx2
        refine ld_h (s := .slc) (t := x) rfl (hx02.get h1 (by simp)) rfl ?_
        refine blob_val rfl (h2.ext hx02 (by simp)).cells hxl hget rfl ?_
        refine addI_to ((newsum (rl.take (i + 1)) ol : Nat) : Int) (by rw [hv]; omega) (by omega) (by omega) ?_
        exact ⟨rfl, hx02⟩
      | true =>
        rw [hh] at hns
        simp only [if_true, Nat.add_zero] at hns
        refine iteP_f rfl ?_
        exact ⟨by rw [hns], hxW.trans hx2⟩
    · rintro _ W2 ⟨rfl, hx2⟩
      refine addI_to ((i + 1 : Nat) : Int) (by omega) (by omega) (by omega) ?_
      exact ⟨⟨i + 1, rfl, by omega, hx2⟩, by omega⟩
  · have : i = rl.length := by omega
    subst this
    rw [List.take_length]
    exact ⟨rfl, hxW⟩
end Go.Proofs.YtkolbfjheleoaaaDoor
