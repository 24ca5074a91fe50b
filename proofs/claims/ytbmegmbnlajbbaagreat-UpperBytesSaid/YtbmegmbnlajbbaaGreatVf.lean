/- The upper branch: Encode. -/
import Derived.Test.YtbmegmbnlajbbaaGreatVe
namespace Go.Proofs.YtbmegmbnlajbbaaGreat
open Go Go.Fw Go.Proofs Go.Sort

/-- The bytes of a whole number, taken as one without a sign. -/
def uintB (k : Int) : List UInt8 := numB (IntKind.u64.wrap k).toNat
def inoB (i : Ino) : List UInt8 := textB (showP i.names) ++ uintB i.kind ++ flagB i.opq ++ textB i.data
def inosB (L : List Ino) : List UInt8 := (L.map inoB).flatten
def encU (nn bb : Int) (L : List Ino) : List UInt8 := uintB nn ++ uintB bb ++ uintB L.length ++ inosB L
theorem wrap64_lt (k : Int) : 0 ≤ IntKind.u64.wrap k ∧ IntKind.u64.wrap k < 18446744073709551616 := by
  simp only [IntKind.wrap, IntKind.bits, IntKind.signed]
  have e : (2 : Int) ^ 64 = 18446744073709551616 := by decide
  simp only [e, Bool.false_and, Bool.false_eq_true, if_false]
  omega
theorem cvU {k : Int} {K : Int → Prop} (h : ∀ n : Nat, n = (IntKind.u64.wrap k).toNat → n < 18446744073709551616 → K (n : Int)) : cvI .u64 k K := by
  have hw := wrap64_lt k
  refine ⟨((IntKind.u64.wrap k).toNat : Int), by omega, h _ rfl (by omega)⟩
theorem uintB_len {k : Int} : (uintB k).length ≤ 10 := numB_len64 (by have := wrap64_lt k; omega)
theorem zcO : zc P y_wire_Out = #[slcV (none, 0, 0)] := by kernel_rfl
theorem show_len {p : Path} (h : okP p) : (showP p).length ≤ 137 := by
  have h1 := h.small
  unfold showP
  cases p with
  | nil => simp [joinP]
  | cons x p =>
    simp only [List.length_cons, tlen_join]
    simp only [List.length_cons] at h1
    omega
theorem inoB_len {i : Ino} (h : okP i.names) (hd : i.data.length ≤ 1024) : (inoB i).length ≤ 1300 := by
  have h1 := h.small
  have h2 := show_len h
  have h3 := numB_len64 (n := (showP i.names).length) (by omega)
  have h4 := numB_len64 (n := i.data.length) (by omega)
  have h5 := uintB_len (k := i.kind)
  have h6 : (flagB i.opq).length ≤ 10 := numB_len64 (by split <;> omega)
  simp only [inoB, textB, List.length_append]
  omega
theorem inosB_len : ∀ {L : List Ino}, (∀ i ∈ L, (inoB i).length ≤ 1300) → (inosB L).length ≤ 1300 * L.length
  | [], _ => by simp [inosB]
  | i :: L, h => by
    have h1 := h i (by simp)
    have h2 := inosB_len (L := L) fun j hj => h j (by simp [hj])
    simp only [inosB, List.map_cons, List.flatten_cons, List.length_append, List.length_cons] at *
    omega
theorem OutW.rebase {H1 : Heap} {F : List Nat} {b : Nat} {L : List UInt8} {w w' : World} (h : OutW H1 F b L w) (hx : Ext [] w.heap w'.heap) : ∃ F', OutW w'.heap F' b L w' ∧ (∀ c ∈ F', c ∈ F ∨ H1.size ≤ c) ∧ ∀ c ∈ F', c < w.heap.size := by
  obtain ⟨x, h1, h2, h3, h4, h5, h6⟩ := h
  have := hx.1
  have := lt_of_get h2
  refine ⟨ownM x, ⟨x, .refl _ _, hx.get h2 (by simp), h3.ext hx (by simp), h4, fun c hc => .inl hc, by omega⟩, h5, fun c hc => ?_⟩
  rcases h3 with ⟨hx1, _⟩ | ⟨b', c', hx1, _, hb', _⟩
  · simp [ownM, hx1] at hc
  · simp [ownM, hx1] at hc
    subst hc
    exact lt_of_get hb'
theorem OutW.unbase {H1 : Heap} {F F' : List Nat} {b : Nat} {L L' : List UInt8} {w w1 w' : World} (h : OutW H1 F b L w) (hx : Ext [] w.heap w1.heap) (hF : ∀ c ∈ F', c ∈ F ∨ H1.size ≤ c) (h' : OutW w1.heap F' b L' w') : OutW H1 F b L' w' := by
  obtain ⟨x, h1, h2, h3, h4, h5, h6⟩ := h
  obtain ⟨y, g1, g2, g3, g4, g5, g6⟩ := h'
  have s1 := h1.1
  have s2 := hx.1
  refine ⟨y, (h1.trans (hx.mono (by simp))).own g1 (fun c hc hlt => ?_), g2, g3, g4, fun c hc => ?_, h6⟩
  · rcases List.mem_cons.1 hc with rfl | hc
    · simp
    · rcases hF c hc with h | h
      · exact List.mem_cons_of_mem _ h
      · omega
  · rcases g5 c hc with h | h
    · exact hF c h
    · exact .inr (by omega)
theorem OutW.ext {H1 : Heap} {F : List Nat} {b : Nat} {L : List UInt8} {w w' : World} (h : OutW H1 F b L w) (hx : Ext [] w.heap w'.heap) : OutW H1 F b L w' := by
  obtain ⟨x, h1, h2, h3, h4, h5, h6⟩ := h
  exact ⟨x, h1.trans (hx.mono (by simp)), hx.get h2 (by simp), h3.ext hx (by simp), h4, h5, h6⟩

set_option maxHeartbeats 8000000 in
theorem encode_c {w : World} {H : Heap} {p m : Nat} {nn bb : Int} {L : List Ino} (hw : w.heap = H) (hU : Up H p m nn bb L) :
    CallF P F_upper_Upper_Encode #[.pointer (some ⟨p, 0, none⟩)] w fun e w' => ∃ y, e = .returned (slcV y) ∧ Mine w'.heap H.size y_uint8 1 y (byteCells (encU nn bb L)) ∧ Ext [] H w'.heap := by
  have hG := hU.good
  have hmany := hG.many
  have hlen := inosB_len (L := L) fun i hi => inoB_len (hG.ok i hi).1 (hG.small i hi)
  have hpl := hU.lt
  have u1 := @uintB_len nn
  have u2 := @uintB_len bb
  have u3 := @uintB_len (L.length : Int)
  refine fn_upper_Upper_Encode ?_
  unfold T_upper_Upper_Encode
  refine iteP_f rfl ?_
  rw [zcO]
  refine newB_h hw fun w1 hw1 => ?_
  have hx1 : Ext [] H w1.heap := by rw [hw1]; exact .push _
  have hb1 : w1.heap[H.size]? = some (.cells #[slcV (none, 0, 0)] y_wire_Out (0, 0)) := by rw [hw1]; exact push_new
  have hO1 : OutW w1.heap [] H.size [] w1 := ⟨(none, 0, 0), .refl _ _, hb1, .inl ⟨rfl, rfl⟩, by simp [ownM], by simp [ownM], lt_of_get hb1⟩
  obtain ⟨M, c, q1, q2, q3, q4⟩ := id (hU.ext hx1 (by simp) (by simp))
  have hml : M.length = L.length := by have := q4.perm.length_eq; rwa [List.length_map] at this
  have keep : ∀ {b : Nat} {K : List UInt8} {W : World}, b < H.size → OutW w1.heap [] H.size K W → W.heap[b]? = w1.heap[b]? := by
    intro b K W hb ⟨x, h1, _⟩
    have := hx1.1
    exact h1.2 b (by omega) (by simp; omega)
  simp only [withAddr_some, add_none, Nat.zero_add]
  refine ld_h (s := .int .i64) (t := nn) rfl q1 rfl ?_
  refine cvU fun n1 e1 l1 => ?_
  refine callF_of (num_c n1 hO1 l1 (by simp)) ?_
  rintro e w2 ⟨rfl, hO2⟩
  refine ⟨(), rfl, ?_⟩
  have k2 := keep hpl.1 hO2
  refine ld_h (s := .int .i64) (t := bb) rfl (k2.trans q1) rfl ?_
  refine cvU fun n2 e2 l2 => ?_
  have g1 : numB n1 = uintB nn := by rw [e1]; rfl
  have g2 : numB n2 = uintB bb := by rw [e2]; rfl
  rw [g1, List.nil_append] at hO2
  refine callF_of (num_c n2 hO2 l2 (by omega)) ?_
  rintro e w3 ⟨rfl, hO3⟩
  refine ⟨(), rfl, ?_⟩
  rw [g2] at hO3
  refine ld_h (s := .map) (t := some m) rfl ((keep hpl.1 hO3).trans q1) rfl ?_
  refine genQ_of (s := .int .i64) _ (len_map_v uM rfl ((keep hpl.2 hO3).trans q2)) ?_
  rw [hml]
  refine cvU fun n3 e3 l3 => ?_
  have g3 : numB n3 = uintB (L.length : Int) := by rw [e3]; rfl
  refine callF_of (num_c n3 hO3 l3 (by simp only [List.length_append]; omega)) ?_
  rintro e w4 ⟨rfl, hO4⟩
  refine ⟨(), rfl, ?_⟩
  rw [g3] at hO4
  have hU4 : Up w4.heap p m nn bb L := ⟨M, c, (keep hpl.1 hO4).trans q1, (keep hpl.2 hO4).trans q2, q3, q4⟩
  refine callF_of (below_c (q := []) rfl hU4 (.inl rfl) rfl (by simp)) ?_
  rintro e w5 ⟨y, rfl, hm5, hx45⟩
  refine ⟨y, rfl, ?_⟩
  rw [below_all hG] at hm5
  have hyl := mineI_len hm5
  have hO5 := hO4.ext hx45
  have hH4 : w1.heap.size ≤ w4.heap.size := by obtain ⟨x, h1, _⟩ := hO4; exact h1.1
  obtain ⟨F', hR5, hF5, hF5l⟩ := hO4.rebase hx45
  have hHl : H.size < w4.heap.size := by have := lt_of_get hb1; omega
  refine loopP_of (fun (s : Int) W => ∃ i : Nat, s = (i : Int) ∧ i ≤ L.length ∧ OutW w5.heap F' H.size (uintB nn ++ uintB bb ++ uintB L.length ++ inosB (L.take i)) W) (fun s _ => (L.length - s).toNat) ⟨0, rfl, Nat.zero_le _, by simpa [inosB] using hR5⟩ ?_
  rintro _ W ⟨i, rfl, hi, hOW⟩
  have hxW : Ext (H.size :: F') w5.heap W.heap := by obtain ⟨x, h1, _⟩ := hOW; exact h1
  have hmW : Mine W.heap w4.heap.size y_api_Inode 4 y (L.flatMap encI) := hm5.ext hxW fun c hc hm => by
    have := ownM_ge hm5 c hc
    rcases List.mem_cons.1 hm with rfl | hm
    · omega
    · have := hF5l c hm; omega
  have hpre : (inosB (L.take i)).length ≤ 1300 * 1024 := by
    have h1 := inosB_len (L := L.take i) fun j hj => inoB_len (hG.ok j (List.mem_of_mem_take hj)).1 (hG.small j (List.mem_of_mem_take hj))
    have h2 : (L.take i).length ≤ 1024 := by simp; omega
    omega
  refine iteP_dec (fun hlt => ?_) (fun hge => ?_)
  · have hil : i < L.length := by omega
    have hget := List.getElem?_eq_getElem hil
    have hmem : L[i] ∈ L := List.getElem_mem hil
    have htake : L.take (i + 1) = L.take i ++ [L[i]] := by rw [List.take_add_one, hget]; rfl
    generalize L[i] = v at hget hmem htake
    have hsl := show_len (hG.ok v hmem).1
    have hdl := hG.small v hmem
    refine elem_ld (i := i) len_encI (by omega) rfl hmW.cells hyl hget rfl ?_
    rw [zcI]
    refine newB_h rfl fun w6 hw6 => ?_
    have hb6 : w6.heap[W.heap.size]? = some (.cells (raw [] 0 false []).toArray y_api_Inode (0, 0)) := by rw [hw6]; exact push_new
    refine stI rfl hb6 rfl (len_encI v) one_encI fun w7 hw7 => ?_
    have hb7 : w7.heap[W.heap.size]? = some (.cells (encI v).toArray y_api_Inode (0, 0)) := by rw [hw7]; exact set_new hb6
    have hx67 : Ext [] W.heap w7.heap := by rw [hw7, hw6]; exact (Ext.push _).set_own (.inl (Nat.le_refl _))
    obtain ⟨F7, hO7, hF7, hF7l⟩ := hOW.rebase hx67
    have hHW : H.size < W.heap.size := by have := hxW.1; have := hx45.1; omega
    have kp : ∀ {K : List UInt8} {W' : World}, OutW w7.heap F7 H.size K W' → W'.heap[W.heap.size]? = some (.cells (encI v).toArray y_api_Inode (0, 0)) := by
      intro K W' ⟨x, h1, _⟩
      refine h1.get hb7 fun h => ?_
      rcases List.mem_cons.1 h with h | h
      · omega
      · have := hF7l _ h; omega
    have ul := @uintB_len v.kind
    have fl : (flagB v.opq).length ≤ 10 := numB_len64 (by split <;> omega)
    have nl1 := numB_len64 (n := (showP v.names).length) (by omega)
    refine ld_h (s := .str) (t := strOf (showP v.names)) rfl hb7 rfl ?_
    refine callF_of (text_c (showP v.names) hO7 (by simp only [List.length_append]; omega)) ?_
    rintro e w8 ⟨rfl, hO8⟩
    refine ⟨(), rfl, ?_⟩
    refine ld_h (s := .int .i64) (t := v.kind) rfl (kp hO8) rfl ?_
    refine cvU fun k ek lk => ?_
    refine callF_of (num_c k hO8 lk (by simp only [List.length_append, textB]; omega)) ?_
    rintro e w9 ⟨rfl, hO9⟩
    refine ⟨(), rfl, ?_⟩
    rw [show numB k = uintB v.kind by rw [ek]; rfl] at hO9
    refine ld_h (s := .bool) (t := v.opq) rfl (kp hO9) rfl ?_
    refine callF_of (flag_c v.opq hO9 (by simp only [List.length_append, textB]; omega)) ?_
    rintro e w10 ⟨rfl, hO10⟩
    refine ⟨(), rfl, ?_⟩
    refine ld_h (s := .str) (t := strOf v.data) rfl (kp hO10) rfl ?_
    refine callF_of (text_c v.data hO10 (by simp only [List.length_append, textB]; omega)) ?_
    rintro e w11 ⟨rfl, hO11⟩
    refine ⟨(), rfl, ?_⟩
    refine addI_to ((i + 1 : Nat) : Int) (by omega) (by omega) (by omega) ?_
    refine ⟨⟨i + 1, rfl, by omega, ?_⟩, by omega⟩
    have := hOW.unbase hx67 hF7 hO11
    rw [htake]
    simpa [inosB, inoB] using this
  · obtain rfl : i = L.length := by omega
    rw [List.take_length] at hOW
    refine callF_of (bytes_c hOW (by rw [List.take_length] at hpre; simp only [List.length_append]; omega)) ?_
    rintro e w6 ⟨z, rfl, hm6, hx6⟩
    refine ⟨z, rfl, ?_⟩
    have hxH : Ext [] H W.heap := by
      have := hx1.1
      obtain ⟨x4, r1, r2, r3, r4, r5, r6⟩ := hO4
      have hx14 : Ext [] H w4.heap := hx1.own r1 (by intro c hc hlt; simp at hc; omega)
      exact (hx14.trans hx45).own hxW (by
        intro c hc hlt
        rcases List.mem_cons.1 hc with rfl | hc
        · omega
        · rcases hF5 c hc with h | h
          · simp at h
          · omega)
    have hsz := hxH.1
    exact ⟨z, rfl, hm6.mono hsz, hxH.trans hx6⟩
end Go.Proofs.YtbmegmbnlajbbaaGreat
