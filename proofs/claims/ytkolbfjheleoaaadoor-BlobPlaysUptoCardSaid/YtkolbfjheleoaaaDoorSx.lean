/- The reference's store: Spoil and Drop. -/
import Derived.Test.YtkolbfjheleoaaaDoorSu
namespace Go.Proofs.YtkolbfjheleoaaaDoor
open Go Go.Fw Go.Proofs

abbrev BE := List UInt8 × BV × Nat
theorem mget_append {a b : SM} {k : List UInt8} : mget (a ++ b) k = match mget a k with | some v => some v | none => mget b k := by
  induction a with
  | nil => rfl
  | cons x a ih =>
    rw [List.cons_append]
    by_cases e : x.1 = k
    · rw [mget_cons_eq e, mget_cons_eq e]
    · rw [mget_cons_ne e, mget_cons_ne e, ih]
theorem vget_mid {pre t : SM} {y : BE} {k' : List UInt8} (h : ∀ x ∈ pre, x.1 ≠ y.1) : vget (pre ++ y :: t) k' = if k' = y.1 then some y.2.1.2 else vget (pre ++ t) k' := by
  unfold vget
  rw [mget_append, mget_append]
  by_cases e : k' = y.1
  · subst e
    rw [if_pos rfl, mget_none_of h, mget_cons_eq rfl]
    rfl
  · rw [if_neg e, mget_cons_ne (Ne.symm e)]
theorem rise_mid {pre t : SM} {y : BE} : Rising (pre ++ y :: t) ↔ Rising (pre ++ t) ∧ (∀ x ∈ pre, Lib.compareBytes x.1 y.1 < 0) ∧ ∀ x ∈ t, Lib.compareBytes y.1 x.1 < 0 := by
  unfold Rising
  rw [List.pairwise_append, List.pairwise_append, List.pairwise_cons]
  constructor
  · rintro ⟨h1, ⟨h2, h3⟩, h4⟩
    exact ⟨⟨h1, h3, fun a ha b hb => h4 a ha b (by simp [hb])⟩, fun a ha => h4 a ha y (by simp), h2⟩
  · rintro ⟨⟨h1, h3, h4⟩, h5, h2⟩
    refine ⟨h1, ⟨h2, h3⟩, fun a ha b hb => ?_⟩
    rcases List.mem_cons.1 hb with rfl | hb
    · exact h5 a ha
    · exact h4 a ha b hb
theorem lt_ne {a b : List UInt8} (h : Lib.compareBytes a b < 0) : a ≠ b := by rintro rfl; rw [cmpB_eq.2 rfl] at h; omega
theorem mem_mid {pre t : SM} {y x : BE} : x ∈ pre ++ y :: t ↔ x = y ∨ x ∈ pre ++ t := by
  simp only [List.mem_append, List.mem_cons]
  constructor
  · rintro (h | h | h)
    · exact .inr (.inl h)
    · exact .inl h
    · exact .inr (.inr h)
  · rintro (h | h | h)
    · exact .inr (.inl h)
    · exact .inl h
    · exact .inr (.inr h)
theorem Apart.sub {r r' : SM} (h : Apart r) (hs : ∀ x ∈ r', x ∈ r) : Apart r' := fun x hx y hy => h x (hs x hx) y (hs y hy)
theorem Apart.mid {pre t : SM} {y : BE} (h : Apart (pre ++ t)) (hy : ∀ x ∈ pre ++ t, ∀ b ∈ ownM y.2.1.1, b ∉ ownM x.2.1.1) : Apart (pre ++ y :: t) := by
  intro a ha b hb hne c hc hc2
  rcases mem_mid.1 ha with e1 | ha' <;> rcases mem_mid.1 hb with e2 | hb'
  · exact hne (by rw [e1, e2])
  · exact hy b hb' c (by rw [← e1]; exact hc) hc2
  · exact hy a ha' c (by rw [← e2]; exact hc2) hc
  · exact h a ha' b hb' hne c hc hc2
theorem ROk.sub {pre t : SM} {y : BE} (h : ROk (pre ++ y :: t)) : ROk (pre ++ t) := ⟨fun x hx => h.len x (mem_mid.2 (.inr hx)), (rise_mid.1 h.rise).1⟩
theorem ROk.mid {pre t : SM} {y : BE} (h : ROk (pre ++ t)) (hl : y.1.length = 32) (h1 : ∀ x ∈ pre, Lib.compareBytes x.1 y.1 < 0) (h2 : ∀ x ∈ t, Lib.compareBytes y.1 x.1 < 0) : ROk (pre ++ y :: t) :=
  ⟨fun x hx => by rcases mem_mid.1 hx with rfl | hx; exact hl; exact h.len x hx, rise_mid.2 ⟨h.rise, h1, h2⟩⟩
theorem total_mid {pre t : SM} {y : BE} : total (pre ++ y :: t) = y.2.1.2.length + total (pre ++ t) := by
  unfold total
  simp only [List.map_append, List.map_cons, List.sum_append, List.sum_cons]
  omega
theorem enc_mid {pre t : SM} {y y' : BE} (h : encB y = encB y') : (pre ++ y :: t).flatMap encB = (pre ++ y' :: t).flatMap encB := by
  simp only [List.flatMap_append, List.flatMap_cons, h]
/-- The elements of a row of blobs, from one on. -/
theorem Cells.dropB {H : Heap} {a : Option Addr} {rl : SM} (h : Cells H a (rl.flatMap encB)) (k cap : Nat) (hcap : rl.length ≤ cap) : Cells H (if cap = k then a else a.map (·.add (k * 33))) ((rl.drop k).flatMap encB) := by
  by_cases hk : k < rl.length
  · rw [if_neg (by omega)]
    have hl : (rl.flatMap encB).length = rl.length * 33 := length_flatMap_k encB len_encB _
    have := h.part (k * 33) ((rl.length - k) * 33) (by rw [hl, ← Nat.add_mul]; exact Nat.mul_le_mul_right 33 (by omega))
    have he : ((rl.flatMap encB).drop (k * 33)).take ((rl.length - k) * 33) = (rl.drop k).flatMap encB := by
      have h1 : rl.flatMap encB = (rl.take k).flatMap encB ++ (rl.drop k).flatMap encB := by rw [← List.flatMap_append, List.take_append_drop]
      have h2 : ((rl.take k).flatMap encB).length = k * 33 := by rw [length_flatMap_k encB len_encB, List.length_take, Nat.min_eq_left (by omega)]
      have h3 : ((rl.drop k).flatMap encB).length = (rl.length - k) * 33 := by rw [length_flatMap_k encB len_encB, List.length_drop]
      rw [h1, List.drop_left' h2, List.take_of_length_le (by omega)]
    rwa [he] at this
  · left; rw [List.drop_eq_nil_of_le (by omega)]; rfl
theorem Cells.takeB {H : Heap} {a : Option Addr} {rl : SM} (h : Cells H a (rl.flatMap encB)) (k : Nat) : Cells H a ((rl.take k).flatMap encB) := by
  have := h.take (((rl.take k).flatMap encB).length)
  have h1 : rl.flatMap encB = (rl.take k).flatMap encB ++ (rl.drop k).flatMap encB := by rw [← List.flatMap_append, List.take_append_drop]
  rwa [h1, List.take_left] at this
theorem one_flat {rl : SM} : oneCells (rl.flatMap encB) := by
  intro v hv
  obtain ⟨x, _, hx⟩ := List.mem_flatMap.1 hv
  exact one_encB v hx
/-- Blobs are appended. -/
theorem appB {w : World} {H : Heap} {B : Nat} {x : Option Addr × Nat × Nat} {a : Option Addr} {l c : Nat} {r1 r2 : SM} (hw : w.heap = H) (hx : Mine H B y_r05_Blob 33 x (r1.flatMap encB)) (hB : B ≤ H.size) (hL : Cells H a (r2.flatMap encB)) (hl : l = r2.length) (hlen : r1.length + r2.length < 1099511627776) {K : (Option Addr × Nat × Nat) → World → Prop}
    (hK : ∀ x' w', Mine w'.heap B y_r05_Blob 33 x' ((r1 ++ r2).flatMap encB) → x'.2.1 = r1.length + r2.length → Ext (ownM x) H w'.heap → (∀ b, b ∈ ownM x' → b ∈ ownM x ∨ H.size ≤ b) → K x' w') :
    genL P (Builtin.append_ #[y_S_r05_Blob, y_S_r05_Blob] y_S_r05_Blob #[.slice x.1 x.2.1 x.2.2, .slice a l c]) .slc w K := by
  have hxl := mine_len hx
  refine append_g EB (by omega) uB (slice_noint uB) hw hx hB (Src.slc hw hL (by rw [length_flatMap_k encB len_encB, hl])) one_flat (by omega) ?_
  intro x' w' hm hl' hx' hs
  refine hK x' w' ?_ (by omega) hx' hs
  rw [List.flatMap_append]; exact hm

set_option maxHeartbeats 2000000 in
theorem rspoil_c {w : World} {H : Heap} {fp : List Nat} {p : Nat} {q : Int} {rl : SM} {k : List UInt8} {at_ : Int} {t : UInt8} (hw : w.heap = H) (hS : RStore H fp p q rl) (hk : k.length = 32) (hn : rl.length < 1099511627776) :
    CallF P F_r05_Store_Spoil #[.pointer (some ⟨p, 0, none⟩), arr k, .int .i64 at_, .int .u8 (t.toNat : Int)] w fun e w' => e = .returned (.int .i64 (spoilCode (vget rl k) at_ t)) ∧ ∃ rl', RStore w'.heap fp p q rl' ∧ Ext fp H w'.heap ∧
      ∀ k', vget rl' k' = if spoilCode (vget rl k) at_ t = 0 ∧ k' = k then (vget rl k).map fun L => spoilt L at_ t else vget rl k' := by
  refine fn_r05_Store_Spoil ?_
  unfold T_r05_Store_Spoil
  refine newB_h hw fun w1 hw1 => ?_
  have hx1 : Ext [] H w1.heap := by rw [hw1]; exact .push _
  refine ldA_all rfl (by rw [hw1]; exact push_new) (by simp [arr, Value.cells, byteCells, hk]) ?_
  refine callF_of (find_c rfl (hS.ext hx1 (by simp)) hk hn) ?_
  rintro e w2 ⟨pre, rest, rfl, hsp, hx2⟩
  refine ⟨((pre.length : Int), hit rest k), rfl, ?_⟩
  have hx02 := hx1.trans hx2
  have keep : ∀ (C : Int), C ≠ 0 → spoilCode (vget rl k) at_ t = C → (Ending.returned (.int .i64 C) = Ending.returned (.int .i64 (spoilCode (vget rl k) at_ t)) ∧ ∃ rl', RStore w2.heap fp p q rl' ∧ Ext fp H w2.heap ∧
      ∀ k', vget rl' k' = if spoilCode (vget rl k) at_ t = 0 ∧ k' = k then (vget rl k).map fun L => spoilt L at_ t else vget rl k') := by
    intro C hC hs
    refine ⟨by rw [hs], rl, hS.ext hx02 (by simp), hx02.mono (by simp), fun k' => ?_⟩
    rw [if_neg (by rw [hs]; exact fun h => hC h.1)]
  cases hh : hit rest k with
  | false =>
    refine iteP_t rfl ?_
    exact keep 50 (by omega) (by rw [hit_none hsp hS.rise hh]; rfl)
  | true =>
    refine iteP_f rfl ?_
    obtain ⟨y, tl, rfl, hyk, hvy, hget, hmem⟩ := hit_some hsp hS.rise hh
    obtain ⟨x, h1, h2, h3, h4, h5, h6, h7⟩ := hS
    have hxl := mine_len h2
    have hyl := vals_ix h5 hget
    have h12 := hx02.get h1 (by simp)
    have h22 := h2.ext hx02 (by simp)
    have one : ∀ h : at_ < 0 ∨ (y.2.1.2.length : Int) ≤ at_ ∨ t = 0, spoilCode (vget rl k) at_ t = 1 := by intro h; rw [hvy]; simp only [spoilCode, if_pos h]
    refine joinP_in ?_
    refine iteP_dec (fun h => keep 1 (by omega) (one (.inl h))) (fun ha0 => ?_)
    simp only [withAddr_some, add_none, Nat.zero_add]
    refine ld_h (s := .slc) (t := x) rfl h12 rfl ?_
    refine blob_val rfl h22.cells hxl hget rfl ?_
    refine iteP_dec (fun h => keep 1 (by omega) (one (.inr (.inl (by omega))))) (fun hal => ?_)
    refine iteP_eq (fun h => keep 1 (by omega) (one (.inr (.inr (UInt8.toNat_inj.1 (by simpa using h)))))) (fun ht => ?_)
    obtain ⟨i, rfl⟩ : ∃ i : Nat, at_ = (i : Int) := ⟨at_.toNat, by omega⟩
    have hil : i < y.2.1.2.length := by omega
    have hs0 : spoilCode (vget rl k) (i : Int) t = 0 := by
      rw [hvy]
      simp only [spoilCode]
      rw [if_neg]
      rintro (h | h | h)
      · omega
      · omega
      · subst h; exact ht rfl
    obtain ⟨hO, hOf⟩ := h5 y hmem
    obtain ⟨bb, cc, hxa, hbb, hic, hci, hput⟩ := (hO.ext hx02 (by simp)).put (i := i) (by simpa using hil) (.int .u8 ((y.2.1.2.getD i 0 ^^^ t).toNat : Int))
    refine ld_h (s := .slc) (t := x) rfl h12 rfl ?_
    refine blob_val rfl h22.cells hxl hget rfl ?_
    rw [hxa]
    refine ixS_1 i rfl (by omega) ?_
    rw [Nat.zero_add]
    refine ld_h (t := ((y.2.1.2.getD i 0).toNat : Int)) rfl hbb (by rw [hci, byteCells_get hil]; rfl) ?_
    refine xor8 _ _ ?_
    refine ixS_1 i rfl (by omega) ?_
    rw [Nat.zero_add]
    refine stC_h rfl hbb hic fun w3 hw3 => ?_
    rw [← hw3] at hput
    have hbf : bb ∈ fp := hOf bb (by simp only [ownM]; rw [hxa]; simp)
    have hx23 : Ext [bb] w2.heap w3.heap := by rw [hw3]; exact Ext.set _ (by simp)
    have heq := hsp.eq
    subst heq
    obtain ⟨_, hlo, hhi⟩ := rise_mid.1 h7.rise
    have hlen : (spoilt y.2.1.2 (i : Int) t).length = y.2.1.2.length := by simp [spoilt]
    have hspb : byteCells (spoilt y.2.1.2 (i : Int) t) = (byteCells y.2.1.2).set i (.int .u8 ((y.2.1.2.getD i 0 ^^^ t).toNat : Int)) := by
      simp only [spoilt, byteCells, Int.toNat_natCast, List.map_set]
    refine ⟨by rw [hs0], pre ++ (y.1, (y.2.1.1, spoilt y.2.1.2 (i : Int) t), y.2.2) :: tl, ⟨x, hx23.get h12 ?_, ?_, h3, h4, ?_, ?_, ?_⟩, (hx02.mono (by simp)).trans (hx23.mono (by simpa using hbf)), ?_⟩
    · simp only [List.mem_singleton]; rintro rfl; rw [h12] at hbb; cases hbb
    · have henc : (pre ++ (y.1, (y.2.1.1, spoilt y.2.1.2 (i : Int) t), y.2.2) :: tl).flatMap encB = (pre ++ y :: tl).flatMap encB := enc_mid rfl
      rw [henc]
      refine h22.ext hx23 fun b hb => ?_
      simp only [List.mem_singleton]; rintro rfl
      rcases h22 with ⟨rfl, _⟩ | ⟨b2, c2, hx2', _, hb2, _⟩
      · simp [ownM] at hb
      · simp only [ownM, hx2', List.mem_singleton] at hb; subst hb; rw [hbb] at hb2; cases hb2
    · intro z hz
      rcases mem_mid.1 hz with rfl | hz
      · refine ⟨?_, hOf⟩
        show Mine _ _ _ _ _ (byteCells (spoilt y.2.1.2 (i : Int) t))
        rw [hspb]; exact hput
      · obtain ⟨hz1, hz2⟩ := h5 z (mem_mid.2 (.inr hz))
        refine ⟨(hz1.ext hx02 (by simp)).ext hx23 fun b hb => ?_, hz2⟩
        simp only [List.mem_singleton]; rintro rfl
        refine h6 y hmem z (mem_mid.2 (.inr hz)) ?_ b (by simp only [ownM]; rw [hxa]; simp) hb
        rcases List.mem_append.1 hz with hz | hz
        · exact (lt_ne (hlo z hz)).symm
        · exact lt_ne (hhi z hz)
    · refine Apart.mid (h6.sub fun z hz => mem_mid.2 (.inr hz)) fun z hz b hb => ?_
      refine h6 y hmem z (mem_mid.2 (.inr hz)) ?_ b hb
      rcases List.mem_append.1 hz with hz | hz
      · exact (lt_ne (hlo z hz)).symm
      · exact lt_ne (hhi z hz)
    · exact h7.sub.mid (h7.len y hmem) hlo hhi
    · intro k'
      rw [hs0, hvy, vget_mid (y := (y.1, (y.2.1.1, spoilt y.2.1.2 (i : Int) t), y.2.2)) fun z hz => lt_ne (hlo z hz)]
      show (if k' = y.1 then some (spoilt y.2.1.2 (i : Int) t) else _) = _
      by_cases e : k' = k
      · subst e; simp [hyk]
      · rw [if_neg (by rw [hyk]; exact e), if_neg (fun h => e h.2), vget_mid (y := y) (fun z hz => lt_ne (hlo z hz)), if_neg (by rw [hyk]; exact e)]
end Go.Proofs.YtkolbfjheleoaaaDoor

/- The reference's store: Drop and Clone. -/
namespace Go.Proofs.YtkolbfjheleoaaaDoor
open Go Go.Fw Go.Proofs

theorem mine_le {H : Heap} {B : Nat} {T : TypeId} {sz : Nat} {x : Option Addr × Nat × Nat} {vs : List Value} (h : Mine H B T sz x vs) : x.2.1 ≤ x.2.2 := by
  rcases h with ⟨rfl, _⟩ | ⟨b, c, _, _, _, _, _, h, _⟩
  · exact Nat.le_refl _
  · exact h
theorem mine_lt {H : Heap} {B : Nat} {T : TypeId} {sz : Nat} {x : Option Addr × Nat × Nat} {vs : List Value} (h : Mine H B T sz x vs) : ∀ b ∈ ownM x, b < H.size ∧ ∃ c, H[b]? = some (.cells c T (0, 0)) := by
  intro b hb
  rcases h with ⟨rfl, _⟩ | ⟨b2, c, hx, _, hb2, _⟩
  · simp [ownM] at hb
  · simp only [ownM, hx, List.mem_singleton] at hb
    subst hb; exact ⟨lt_of_get hb2, c, hb2⟩
theorem slB_to {H : Heap} {a : Option Addr} {l c : Nat} {rl : SM} {i : Nat} {n : Int} (hL : Cells H a (rl.flatMap encB)) (hlen : l = rl.length) (hc : l ≤ c) (hi : i ≤ rl.length) (hn : n = (i : Int)) :
    ∃ a', (∀ w, (Instr.sliceAt y_S_r05_Blob (.slice a l c) none (some (.int .i64 n)) none).run P w = .ok (.slice a' i c) w) ∧ Cells H a' ((rl.take i).flatMap encB) := by
  refine ⟨_, fun w => run_slice_slc (l := 0) (h := i) uB szB .no (.yes hn) (Nat.zero_le _) (by omega), ?_⟩
  exact Cells.takeB (rl := rl) (Cells.dropB hL 0 c (by omega)) i
theorem slB_from {H : Heap} {a : Option Addr} {l c : Nat} {rl : SM} {i : Nat} {n : Int} (hL : Cells H a (rl.flatMap encB)) (hlen : l = rl.length) (hc : l ≤ c) (hi : i ≤ rl.length) (hn : n = (i : Int)) :
    ∃ a', (∀ w, (Instr.sliceAt y_S_r05_Blob (.slice a l c) (some (.int .i64 n)) none none).run P w = .ok (.slice a' (l - i) (c - i)) w) ∧ Cells H a' ((rl.drop i).flatMap encB) := by
  refine ⟨_, fun w => run_slice_slc (l := i) (h := l) uB szB (.yes hn) .no (by omega) (by omega), ?_⟩
  exact Cells.dropB hL i c (by omega)
theorem Vals.sub {H : Heap} {fp : List Nat} {r r' : SM} (h : Vals H fp r) (hs : ∀ x ∈ r', x ∈ r) : Vals H fp r' := fun x hx => h x (hs x hx)
theorem Vals.mono {H : Heap} {fp fp' : List Nat} {r : SM} (h : Vals H fp r) (hs : ∀ x ∈ fp, x ∈ fp') : Vals H fp' r := fun x hx => ⟨(h x hx).1, fun b hb => hs b ((h x hx).2 b hb)⟩
/-- A blob's bytes lie in no block that is not of bytes. -/
theorem Vals.off {H H' : Heap} {fp : List Nat} {r : SM} {b : Nat} {c : Array Value} {T : TypeId} {o : Obj} (h : Vals H fp r) (hb : H[b]? = some (.cells c T (0, 0))) (hT : T ≠ y_uint8) (hx : Ext [b] H H') : Vals H' fp r := by
  intro x hxr
  refine ⟨(h x hxr).1.ext hx fun b' hb' => ?_, (h x hxr).2⟩
  simp only [List.mem_singleton]; rintro rfl
  obtain ⟨_, c', h'⟩ := mine_lt (h x hxr).1 _ hb'
  rw [hb] at h'
  injection h' with h'
  injection h' with _ h2
  exact hT h2

set_option maxHeartbeats 2000000 in
theorem rdrop_c {w : World} {H : Heap} {fp : List Nat} {p : Nat} {q : Int} {rl : SM} {k : List UInt8} (hw : w.heap = H) (hS : RStore H fp p q rl) (hk : k.length = 32) (hn : rl.length < 549755813888) :
    CallF P F_r05_Store_Drop #[.pointer (some ⟨p, 0, none⟩), arr k] w fun e w' => e = .returned (.int .i64 (if (vget rl k).isSome then 0 else 50)) ∧ ∃ rl' fp', RStore w'.heap fp' p q rl' ∧ Ext fp H w'.heap ∧ (∀ b ∈ fp', b ∈ fp ∨ (H.size ≤ b ∧ b < w'.heap.size)) ∧
      ∀ k', vget rl' k' = if k' = k then none else vget rl k' := by
  refine fn_r05_Store_Drop ?_
  unfold T_r05_Store_Drop
  refine newB_h hw fun w1 hw1 => ?_
  have hx1 : Ext [] H w1.heap := by rw [hw1]; exact .push _
  refine ldA_all rfl (by rw [hw1]; exact push_new) (by simp [arr, Value.cells, byteCells, hk]) ?_
  refine callF_of (find_c rfl (hS.ext hx1 (by simp)) hk (by omega)) ?_
  rintro e w2 ⟨pre, rest, rfl, hsp, hx2⟩
  refine ⟨((pre.length : Int), hit rest k), rfl, ?_⟩
  have hx02 := hx1.trans hx2
  have hhv := hit_vget hsp hS.rise
  rw [← hhv]
  cases hh : hit rest k with
  | false =>
    refine iteP_t rfl ?_
    refine ⟨rfl, rl, fp, hS.ext hx02 (by simp), hx02.mono (by simp), fun b hb => .inl hb, fun k' => ?_⟩
    split
    · rename_i e; rw [e]; exact hit_none hsp hS.rise hh
    · rfl
  | true =>
    refine iteP_f rfl ?_
    obtain ⟨y, tl, rfl, hyk, hvy, hget, hmem⟩ := hit_some hsp hS.rise hh
    obtain ⟨x, h1, h2, h3, h4, h5, h6, h7⟩ := hS
    have heq := hsp.eq
    subst heq
    obtain ⟨_, hlo, hhi⟩ := rise_mid.1 h7.rise
    have hxl := mine_len h2
    have hxc := mine_le h2
    have hln : (pre ++ y :: tl).length = pre.length + 1 + tl.length := by simp; omega
    refine drewP_h rfl fun w3 hw3 => ?_
    have hx03 : Ext [] H w3.heap := by rw [hw3]; exact hx02
    have h13 := hx03.get h1 (by simp)
    have h23 := h2.ext hx03 (by simp)
    simp only [withAddr_some, add_none, Nat.zero_add]
    refine addI_to ((pre.length + 1 : Nat) : Int) (by omega) (by omega) (by omega) ?_
    obtain ⟨a1, hr1, hC1⟩ := slB_to (i := pre.length) h23.cells hxl hxc (by omega) rfl
    obtain ⟨a2, hr2, hC2⟩ := slB_from (i := pre.length + 1) h23.cells hxl hxc (by omega) rfl
    rw [List.take_left] at hC1
    rw [show (pre ++ y :: tl).drop (pre.length + 1) = tl from by rw [show pre ++ y :: tl = (pre ++ [y]) ++ tl from by simp]; exact List.drop_left' (by simp)] at hC2
    refine ld_h (s := .slc) (t := x) rfl h13 rfl ?_
    refine genQ_of (s := .slc) (a1, pre.length, x.2.2) (hr1 _) ?_
    refine ld_h (s := .slc) (t := x) rfl h13 rfl ?_
    refine genQ_of (s := .slc) (a2, x.2.1 - (pre.length + 1), x.2.2 - (pre.length + 1)) (hr2 _) ?_
    refine nilB rfl fun w4 hx4 hm4 => ?_
    have hx04 := hx03.trans hx4
    have h14 := hx04.get h1 (by simp)
    refine ⟨genQ_of (s := .slc) (a2, x.2.1 - (pre.length + 1), x.2.2 - (pre.length + 1)) (hr2 _) rfl, ?_⟩
    refine ⟨ld_h (s := .slc) (t := x) rfl h14 rfl rfl, ?_⟩
    refine ⟨genQ_of (s := .slc) (a1, pre.length, x.2.2) (hr1 _) rfl, ?_⟩
    refine ⟨ld_h (s := .slc) (t := x) rfl h14 rfl rfl, ?_⟩
    refine appB (r1 := []) (r2 := pre) rfl hm4 hx4.1 (hC1.ext hx4 (by simp)) rfl (by simp; omega) ?_
    intro x5 w5 hm5 hl5 hx5 hs5
    have hs34 := hx4.1
    have hs03 := hx03.1
    have hx05 : Ext [] H w5.heap := hx04.own hx5 (by intro b hb; simp [ownM] at hb; omega)
    have hx35 : Ext [] w3.heap w5.heap := hx4.own hx5 (by intro b hb; simp [ownM] at hb; omega)
    have h15 := hx05.get h1 (by simp)
    refine ⟨genQ_of (s := .slc) (a2, x.2.1 - (pre.length + 1), x.2.2 - (pre.length + 1)) (hr2 _) rfl, ?_⟩
    refine ⟨ld_h (s := .slc) (t := x) rfl h15 rfl rfl, ?_⟩
    rw [List.nil_append] at hm5
    refine appB (r1 := pre) (r2 := tl) rfl hm5 (Nat.le_trans hs34 hx5.1) (hC2.ext hx35 (by simp)) (by simp only; omega) (by omega) ?_
    intro x6 w6 hm6 hl6 hx6 hs6
    have hx06 : Ext [] H w6.heap := hx05.own hx6 (by intro b hb; have := ownM_ge hm5 b hb; omega)
    have h16 := hx06.get h1 (by simp)
    refine stC_h rfl h16 (by simp) fun w7 hw7 => ?_
    have hx67 : Ext [p] w6.heap w7.heap := by rw [hw7]; exact Ext.set _ (by simp)
    have hg6 := ownM_ge hm6
    have hm7 : Mine w7.heap 0 y_r05_Blob 33 x6 ((pre ++ tl).flatMap encB) := by
      refine (hm6.ext hx67 fun b hb => ?_).mono (Nat.zero_le _)
      have := hg6 b hb
      have := lt_of_get h1
      simp only [List.mem_singleton]; omega
    refine ⟨rfl, pre ++ tl, fp ++ ownM x6, ⟨x6, by rw [hw7]; exact set_new h16, hm7, by simp [h3], fun b hb => by simp [hb], ?_, h6.sub fun z hz => mem_mid.2 (.inr hz), h7.sub⟩, (hx06.mono (by simp)).trans (hx67.mono (by simpa using h3)), ?_, ?_⟩
    · have hV6 : Vals w6.heap fp (pre ++ tl) := (h5.ext hx06 (by simp)).sub fun z hz => mem_mid.2 (.inr hz)
      exact (hV6.off (o := .map #[] 0) h16 (by decide) hx67).mono fun b hb => by simp [hb]
    · intro b hb
      rcases List.mem_append.1 hb with hb | hb
      · exact .inl hb
      · exact .inr ⟨by have := hg6 b hb; omega, (mine_lt hm7 b hb).1⟩
    · intro k'
      by_cases e : k' = k
      · rw [if_pos e, e, ← hyk]
        unfold vget
        rw [mget_none_of fun z hz => ?_]; rfl
        rcases List.mem_append.1 hz with hz | hz
        · exact lt_ne (hlo z hz)
        · exact (lt_ne (hhi z hz)).symm
      · rw [if_neg e, vget_mid (y := y) (fun z hz => lt_ne (hlo z hz)), if_neg (by rw [hyk]; exact e)]
end Go.Proofs.YtkolbfjheleoaaaDoor

/- The reference's store: Clone. -/
namespace Go.Proofs.YtkolbfjheleoaaaDoor
open Go Go.Fw Go.Proofs

theorem fill_cons {place : Nat → Option (Nat × Nat)} {cells : Array Value} {i off size : Nat} {v : Value} {rest : List (Nat × Value)} (hp : place i = some (off, size)) (hs : v.cells.size = size) (ho : off + size ≤ cells.size) : Instr.fill place cells ((i, v) :: rest) = Instr.fill place (setCells cells off v.cells.toList) rest := by
  simp only [Instr.fill, hp, hs, ne_eq, not_true_eq_false, decide_false, Bool.false_or]
  rw [if_neg (by simp; omega)]
  have h := fold_setCells off v.cells.toList 0 cells
  simp only [Nat.add_zero] at h
  rw [← Array.foldl_toList, Array.toList_zipIdx, h]
theorem cells_slcV {x : Option Addr × Nat × Nat} : (slcV x).cells = #[slcV x] := rfl
theorem built73 (u v : Value) : P.built y_r05_Blob [(0, u), (1, v)] = Instr.fill (fun i => #[(0, 32), (32, 1)][i]?) ((List.replicate 32 (Value.int .u8 0)) ++ [Value.slice none 0 0]).toArray [(0, u), (1, v)] := by kernel_rfl
theorem bBlob {A : List Value} (hA : A.length = 32) (x : Option Addr × Nat × Nat) (w : World) : (Instr.build y_r05_Blob #[(0, .agg A.toArray), (1, slcV x)]).run P w = .ok (.agg (A ++ [slcV x]).toArray) w := by
  refine run_build w _ _ _ ?_
  show P.built y_r05_Blob [(0, .agg A.toArray), (1, slcV x)] = _
  have hc : (Value.agg A.toArray).cells = A.toArray := rfl
  rw [built73, fill_cons (off := 0) (size := 32) rfl (by rw [hc]; simpa using hA) (by simp), fill_cons (off := 32) (size := 1) rfl rfl (by simp)]
  simp only [Instr.fill]
  congr 1
  rw [hc, cells_slcV]
  apply Array.ext_getElem?
  intro j
  show (setCells (setCells _ 0 A.toArray.toList) 32 [slcV x])[j]? = _
  rw [get_setCells (by simp), get_setCells (by simp; omega)]
  simp only [List.length_cons, List.length_nil, List.getElem?_toArray, hA]
  by_cases h1 : j < 32
  · rw [if_neg (by omega), if_pos (by omega), List.getElem?_append_left (by omega)]
    simp
  · by_cases h2 : j = 32
    · subst h2; simp [hA]
    · rw [if_neg (by omega), if_neg (by omega)]
      rw [List.getElem?_eq_none (by simp; omega), List.getElem?_eq_none (by simp; omega)]

/-- A row of one blob. -/
theorem row1B {w : World} {H : Heap} (hw : w.heap = H) (y : BE) (h32 : y.1.length = 32) {K : (Option Addr × Nat × Nat) → World → Prop} (hK : ∀ a w1, Ext [] H w1.heap → Cells w1.heap a ([y].flatMap encB) → K (a, 1, 1) w1) :
    genQ P (Instr.build y_r05_Blob #[(0, .agg (byteCells y.1).toArray), (1, .slice y.2.1.1.1 y.2.1.1.2.1 y.2.1.1.2.2)]) .any w fun t => genL P (Instr.buildSlice y_S_r05_Blob 1 #[(0, t)]) .slc w K := by
  refine genQ_of (s := .any) _ (bBlob (A := byteCells y.1) (by rw [length_byteCells, h32]) y.2.1.1 w) ?_
  have hc : (Value.agg (byteCells y.1 ++ [slcV y.2.1.1]).toArray).cells = (encB y).toArray := by
    show (byteCells y.1 ++ [slcV y.2.1.1]).toArray = _
    rw [encB, pad_eq h32]
  refine genL_of (s := .slc) (some ⟨w.heap.size, 0, none⟩, 1, 1) _ (build1_g EB uB (v := .agg (byteCells y.1 ++ [slcV y.2.1.1]).toArray) (by rw [hc]; simp [len_encB]) (by omega) (by omega)) ?_
  refine hK _ _ (by rw [← hw]; exact .push _) (.inr ⟨w.heap.size, 0, _, _, _, rfl, push_new, ?_, ?_⟩)
  · rw [hc]; simp
  · rw [hc]; simp
/-- The bytes of a list, told apart from where they lie. -/
def bare (r : SM) : List (List UInt8 × List UInt8) := r.map fun x => (x.1, x.2.1.2)
theorem bare_vget : ∀ {r s : SM}, bare r = bare s → ∀ k, vget r k = vget s k
  | [], [], _, _ => rfl
  | [], y :: s, h, _ => by simp [bare] at h
  | x :: r, [], h, _ => by simp [bare] at h
  | x :: r, y :: s, h, k => by
    simp only [bare, List.map_cons, List.cons.injEq, Prod.mk.injEq] at h
    obtain ⟨⟨h1, h2⟩, h3⟩ := h
    have ih := bare_vget (r := r) (s := s) h3 k
    unfold vget at ih ⊢
    by_cases e : x.1 = k
    · rw [mget_cons_eq e, mget_cons_eq (by rw [← h1]; exact e)]; simp [h2]
    · rw [mget_cons_ne e, mget_cons_ne (by rw [← h1]; exact e)]; exact ih
theorem bare_keys {r s : SM} (h : bare r = bare s) : r.map (·.1) = s.map (·.1) := by
  have := congrArg (List.map (·.1)) h
  simpa [bare, Function.comp_def] using this
theorem bare_ok {r s : SM} (h : bare r = bare s) (hs : ROk s) : ROk r := by
  have hk := bare_keys h
  refine ⟨fun x hx => ?_, ?_⟩
  · have : x.1 ∈ s.map (·.1) := by rw [← hk]; exact List.mem_map.2 ⟨x, hx, rfl⟩
    obtain ⟨y, hy, e⟩ := List.mem_map.1 this
    rw [← e]; exact hs.len y hy
  · have h1 : (s.map (·.1)).Pairwise fun a b => Lib.compareBytes a b < 0 := List.pairwise_map.2 hs.rise
    rw [← hk] at h1
    exact List.pairwise_map.1 h1
theorem bare_take {r : SM} {i : Nat} (h : i < r.length) : bare (r.take (i + 1)) = bare (r.take i) ++ [((r[i]).1, (r[i]).2.1.2)] := by
  unfold bare
  rw [List.take_add_one, List.getElem?_eq_getElem h, List.map_append]; rfl
theorem bare_len {r s : SM} (h : bare r = bare s) : r.length = s.length := by simpa [bare] using congrArg List.length h

set_option maxHeartbeats 4000000 in
theorem rclone_c {w : World} {H : Heap} {fp : List Nat} {p : Nat} {q : Int} {rl : SM} (hw : w.heap = H) (hS : RStore H fp p q rl) (hn : rl.length < 549755813888) (hlen : ∀ x ∈ rl, x.2.1.2.length < 1099511627776) :
    CallF P F_r05_Store_Clone #[.pointer (some ⟨p, 0, none⟩)] w fun e w' => ∃ p' fp' rl', e = .returned (.pointer (some ⟨p', 0, none⟩)) ∧ RStore w'.heap fp' p' q rl' ∧ Ext [] H w'.heap ∧ (∀ b ∈ fp', H.size ≤ b ∧ b < w'.heap.size) ∧ bare rl' = bare rl := by
  obtain ⟨x, h1, h2, h3, h4, h5, h6, h7⟩ := hS
  have hxl := mine_len h2
  refine fn_r05_Store_Clone ?_
  unfold T_r05_Store_Clone
  simp only [withAddr_some, add_none, Nat.zero_add]
  refine ld_h (s := .int .i64) (t := q) hw h1 rfl ?_
  refine genQ_of (s := .any) _ (bR q _) ?_
  refine newB_h hw fun w1 hw1 => ?_
  have hx1 : Ext [] H w1.heap := by rw [hw1]; exact .push _
  have hs1 : w1.heap.size = H.size + 1 := by rw [hw1]; simp
  refine loopP_of (fun (s : Int) W => ∃ (i : Nat) (xc : Option Addr × Nat × Nat) (cl : SM), s = (i : Int) ∧ i ≤ rl.length ∧ Ext [] H W.heap ∧ H.size < W.heap.size ∧ W.heap[H.size]? = some (.cells #[.int .i64 q, slcV xc] y_r05_Store (0, 0)) ∧ Mine W.heap (H.size + 1) y_r05_Blob 33 xc (cl.flatMap encB) ∧
    bare cl = bare (rl.take i) ∧ (∀ z ∈ cl, Mine W.heap (H.size + 1) y_uint8 1 z.2.1.1 (byteCells z.2.1.2)) ∧ Apart cl) (fun s _ => (rl.length - s).toNat)
    ⟨0, (none, 0, 0), [], rfl, Nat.zero_le _, hx1, by omega, by rw [hw1]; exact push_new, .inl ⟨rfl, rfl⟩, rfl, (by intro z hz; cases hz), (by intro z hz; cases hz)⟩ ?_
  rintro _ W ⟨i, xc, cl, rfl, hi, hxW, hsW, hbW, hmW, hbare, hvals, hap⟩
  refine ld_h (s := .slc) (t := x) rfl (hxW.get h1 (by simp)) rfl ?_
  refine iteP_dec (fun hlt => ?_) (fun hge => ?_)
  · have hil : i < rl.length := by omega
    have hget := List.getElem?_eq_getElem hil
    have hmem : rl[i] ∈ rl := List.getElem_mem hil
    have hk := h7.len _ hmem
    have hyl := vals_ix h5 hget
    have hLl := hlen _ hmem
    have hcl : cl.length = i := by rw [bare_len hbare]; simp; omega
    have hcll : xc.2.1 = i := by have := hmW.len; rw [length_flatMap_k encB len_encB] at this; omega
    obtain ⟨hyM, _⟩ := h5 _ hmem
    generalize rl[i] = y at *
    refine drewP_h rfl fun w3 hw3 => ?_
    have hx3 : Ext [] W.heap w3.heap := by rw [hw3]; exact .refl _ _
    have hx03 : Ext [] H w3.heap := hxW.trans hx3
    have hb3 := hx3.get hbW (by simp)
    have h13 := hx03.get h1 (by simp)
    have h23 := h2.ext hx03 (by simp)
    refine ld_h (s := .slc) (t := xc) rfl hb3 rfl ?_
    refine ld_h (s := .slc) (t := x) rfl h13 rfl ?_
    refine elem_ix len_encB (by omega) h23.cells hxl hget rfl fun rb o c T fr _ hrb hrs hrc _ => ?_
    have hkey : c.extract o (o + 32) = (byteCells y.1).toArray := key_cells hk hrs hrc
    refine ldA_h rfl hrb (by omega) ?_
    rw [hkey]
    refine ld_h (s := .slc) (t := x) rfl h13 rfl ?_
    refine elem_ix len_encB (by omega) h23.cells hxl hget rfl fun rb' o' c' T' fr' _ hrb' hrs' hrc' _ => ?_
    simp only [add_none]
    refine ld_h (s := .slc) (t := y.2.1.1) rfl hrb' (val_cell hrc') ?_
    refine nil8 rfl fun w4 hx4 hm4 => ?_
    have hx04 := hx03.trans hx4
    refine ⟨ld_h (s := .slc) (t := y.2.1.1) rfl (hx4.get hrb' (by simp)) (val_cell hrc') rfl, ?_⟩
    refine ⟨ld_h (s := .slc) (t := x) rfl (hx04.get h1 (by simp)) rfl rfl, ?_⟩
    refine ⟨ldA_h rfl (hx4.get hrb (by simp)) (by omega) (by rw [hkey]), ?_⟩
    refine ⟨ld_h (s := .slc) (t := x) rfl (hx04.get h1 (by simp)) rfl rfl, ?_⟩
    refine ⟨ld_h (s := .slc) (t := xc) rfl (hx4.get hb3 (by simp)) rfl rfl, ?_⟩
    refine copy8 rfl hm4 hx4.1 (hyM.ext hx04 (by simp)).cells hyl (by omega) ?_
    intro x5 w5 hm5 hl5 hx5
    have hx35 : Ext [] w3.heap w5.heap := hx4.own hx5 (by intro b hb; simp [ownM] at hb; omega)
    have hx05 := hx03.trans hx35
    refine ⟨ldA_h rfl (hx35.get hrb (by simp)) (by omega) (by rw [hkey]), ?_⟩
    refine ⟨ld_h (s := .slc) (t := x) rfl (hx05.get h1 (by simp)) rfl rfl, ?_⟩
    refine ⟨ld_h (s := .slc) (t := xc) rfl (hx35.get hb3 (by simp)) rfl rfl, ?_⟩
    refine row1B rfl (y.1, (x5, y.2.1.2), 0) hk fun a6 w6 hx6 hC6 => ?_
    have hx36 := hx35.trans hx6
    refine ⟨ld_h (s := .slc) (t := xc) rfl (hx36.get hb3 (by simp)) rfl rfl, ?_⟩
    have hm6 : Mine w6.heap (H.size + 1) y_r05_Blob 33 xc (cl.flatMap encB) := hmW.ext (hx3.trans hx36) (by simp)
    refine appB (r1 := cl) (r2 := [(y.1, (x5, y.2.1.2), 0)]) rfl hm6 (by have := (hx3.trans hx36).1; omega) hC6 rfl (by simp; omega) ?_
    intro x7 w7 hm7 hl7 hx7 hs7
    have hb6 := hx36.get hb3 (by simp)
    have hnb : H.size ∉ ownM xc := fun h => by have := ownM_ge hm6 _ h; omega
    have hb7 := hx7.get hb6 hnb
    refine stC_h rfl hb7 (by simp) fun w8 hw8 => ?_
    have hx78 : Ext [H.size] w7.heap w8.heap := by rw [hw8]; exact Ext.set _ (by simp)
    have hg7 := ownM_ge hm7
    have hx06 := hx03.trans hx36
    have hx08 : Ext [] H w8.heap := (hx06.own hx7 (by intro b hb hlt; have := ownM_ge hm6 _ hb; omega)).own hx78 (by intro b hb hlt; simp at hb; omega)
    refine addI_to ((i + 1 : Nat) : Int) (by omega) (by omega) (by omega) ?_
    have hs56 := hx6.1
    have hs35 := hx35.1
    have hs4 := hx4.1
    have hsw3 : W.heap.size ≤ w3.heap.size := hx3.1
    have hg5 := ownM_ge hm5
    have tail : ∀ {z : BV}, Mine w6.heap (H.size + 1) y_uint8 1 z.1 (byteCells z.2) → Mine w8.heap (H.size + 1) y_uint8 1 z.1 (byteCells z.2) := by
      intro z hz
      refine (hz.ext hx7 fun b hb hb2 => ?_).ext hx78 fun b hb => ?_
      · obtain ⟨_, c1, e1⟩ := mine_lt hz b hb
        obtain ⟨_, c2, e2⟩ := mine_lt hm6 b hb2
        rw [e1] at e2; cases e2
      · have := ownM_ge hz b hb
        simp only [List.mem_singleton]; omega
    refine ⟨⟨i + 1, x7, cl ++ [(y.1, (x5, y.2.1.2), 0)], rfl, by omega, hx08, by have := hx7.1; have := hx78.1; have := hx36.1; omega, by rw [hw8]; exact set_new hb7, hm7.ext hx78 (fun b hb => by have := hg7 b hb; simp; omega), ?_, ?_, ?_⟩, by omega⟩
    · unfold bare at hbare ⊢
      rw [List.take_add_one, hget, List.map_append, List.map_append, hbare]; rfl
    · intro z hz
      rcases List.mem_append.1 hz with hz | hz
      · exact tail ((hvals z hz).ext (hx3.trans hx36) (by simp))
      · simp only [List.mem_singleton] at hz; subst hz
        exact tail (z := (x5, y.2.1.2)) ((hm5.mono (by omega)).ext hx6 (by simp))
    · refine Apart.mid (t := []) (by rw [List.append_nil]; exact hap) fun z hz b hb hb2 => ?_
      rw [List.append_nil] at hz
      have h8 := hg5 b hb
      have h9 := (mine_lt (hvals z hz) b hb2).1
      omega
  · have hie : i = rl.length := by omega
    subst hie
    rw [List.take_length] at hbare
    refine ⟨H.size, H.size :: (ownM xc ++ cl.flatMap fun z => ownM z.2.1.1), cl, rfl, ⟨xc, hbW, hmW.mono (Nat.zero_le _), by simp, fun b hb => by simp [hb], fun z hz => ⟨(hvals z hz).mono (Nat.zero_le _), fun b hb => by simp only [List.mem_cons, List.mem_append, List.mem_flatMap]; exact .inr (.inr ⟨z, hz, hb⟩)⟩, hap, bare_ok hbare h7⟩, hxW, ?_, hbare⟩
    intro b hb
    simp only [List.mem_cons, List.mem_append, List.mem_flatMap] at hb
    rcases hb with rfl | hb | ⟨z, hz, hb⟩
    · exact ⟨Nat.le_refl _, hsW⟩
    · exact ⟨by have := ownM_ge hmW b hb; omega, (mine_lt hmW b hb).1⟩
    · exact ⟨by have := ownM_ge (hvals z hz) b hb; omega, (mine_lt (hvals z hz) b hb).1⟩
end Go.Proofs.YtkolbfjheleoaaaDoor
