/- Bytes are made of fields: wire.Out. -/
import Derived.Test.YtbmegmbnlajbbaaGreatUx
namespace Go.Proofs.YtbmegmbnlajbbaaGreat
open Go Go.Fw Go.Proofs

/-- The bytes of a number. -/
def numB (n : Nat) : List UInt8 := if h : n ≤ 127 then [UInt8.ofNat n] else UInt8.ofNat (n % 128 + 128) :: numB (n / 128)
termination_by n
decreasing_by omega
theorem numB_low {n : Nat} (h : n ≤ 127) : numB n = [UInt8.ofNat n] := by rw [numB, dif_pos h]
theorem numB_high {n : Nat} (h : 127 < n) : numB n = UInt8.ofNat (n % 128 + 128) :: numB (n / 128) := by rw [numB, dif_neg (by omega)]
def textB (L : List UInt8) : List UInt8 := numB L.length ++ L
def flagB (b : Bool) : List UInt8 := numB (if b then 1 else 0)
/-- What a maker of bytes has made so far; F: what it may have written to since H1, beside itself. -/
def OutX (H1 : Heap) (F : List Nat) (b : Nat) (L : List UInt8) (W : World) (x : Option Addr × Nat × Nat) : Prop := Ext (b :: F) H1 W.heap ∧ W.heap[b]? = some (.cells #[slcV x] y_wire_Out (0, 0)) ∧ Mine W.heap 0 y_uint8 1 x (byteCells L) ∧ b ∉ ownM x ∧ (∀ c ∈ ownM x, c ∈ F ∨ H1.size ≤ c) ∧ b < H1.size
def OutW (H1 : Heap) (F : List Nat) (b : Nat) (L : List UInt8) (W : World) : Prop := ∃ x, OutX H1 F b L W x
theorem or128 (x : BitVec 8) : (x ||| 128#8).toNat = x.toNat % 128 + 128 := by
  revert x; decide
theorem or8 {n : Nat} {K : Int → Prop} (h : K ((n % 128 + 128 : Nat) : Int)) : orI .u8 ((n % 256 : Nat) : Int) 128 K := by
  refine ⟨_, ?_, h⟩
  have e1 : BitVec.ofInt 8 ((n % 256 : Nat) : Int) = BitVec.ofNat 8 n := by
    apply BitVec.eq_of_toNat_eq
    simp [BitVec.toNat_ofInt]
    omega
  show _ = IntKind.u8.wrap ((BitVec.ofInt 8 ((n % 256 : Nat) : Int) ||| BitVec.ofInt 8 128).toNat : Int)
  rw [e1]
  have e2 := or128 (BitVec.ofNat 8 n)
  have e3 : BitVec.ofInt 8 128 = 128#8 := by decide
  rw [e3, e2, wrap8_nat]
  simp only [BitVec.toNat_ofNat]
  omega
/-- One byte more. -/
theorem putB {w : World} {H1 : Heap} {F : List Nat} {b : Nat} {L : List UInt8} {x : Option Addr × Nat × Nat} {m : Nat} {K : World → Prop} (hO : OutX H1 F b L w x) (hm : m < 256) (hL : L.length ≤ 1099511627776) (hK : ∀ w', OutW H1 F b (L ++ [UInt8.ofNat m]) w' → K w') :
    genL P (Instr.buildSlice y_S_uint8 1 #[(0, (Value.int .u8 (m : Int)))]) .slc w fun (t18 : (Option Addr × Nat × Nat)) w_2 =>
    genL P (Builtin.append_ #[y_S_uint8, y_S_uint8] y_S_uint8 #[(Value.slice x.1 x.2.1 x.2.2), (Value.slice t18.1 t18.2.1 t18.2.2)]) .slc w_2 fun (t19 : (Option Addr × Nat × Nat)) w_3 =>
    withAddr (some ⟨b, 0, none⟩) fun p_1 =>
    stC p_1 (Value.slice t19.1 t19.2.1 t19.2.2) w_3 K := by
  obtain ⟨h1, h2, h3, h4, h5, h6⟩ := hO
  have hxl : x.2.1 = L.length := by have := h3.len; simp at this; omega
  refine genL_of (s := .slc) (some ⟨w.heap.size, 0, none⟩, 1, 1) _ (build1_g E8 uS8 (v := .int .u8 (m : Int)) rfl (by omega) (by omega)) ?_
  have hxp : Ext [] w.heap (w.heap.push (.cells (Value.int .u8 (m : Int)).cells y_uint8)) := .push _
  have hbl := lt_of_get h2
  refine append_g (n := 1) (us := byteCells [UInt8.ofNat m]) (H := w.heap.push (.cells (Value.int .u8 (m : Int)).cells y_uint8)) E8 (by omega) uS8 (slice_noint uS8) rfl (h3.ext hxp (by simp)) (Nat.zero_le _)
    (Src.slc rfl (.inr ⟨w.heap.size, 0, _, _, _, rfl, push_new, by simp [Value.cells], by simp [Value.cells, byteCells]; omega⟩) rfl) one_byteCells (by omega) ?_
  intro x' w4 hm4 hl4 hx4 hs4
  have hb4 : w4.heap[b]? = some (.cells #[slcV x] y_wire_Out (0, 0)) := hx4.get (hxp.get h2 (by simp)) h4
  show stC ⟨b, 0, none⟩ (slcV x') w4 K
  refine stC_h rfl hb4 (by simp) fun w5 hw5 => hK w5 ?_
  have hx5 : Ext [b] w4.heap w5.heap := by rw [hw5]; exact Ext.set _ (by simp)
  have hs1 := h1.1
  have hp1 := hxp.1
  have hbx : b ∉ ownM x' := fun h => by
    rcases hs4 b h with h | h
    · exact h4 h
    · have := hp1; omega
  refine ⟨x', ?_, by rw [hw5]; exact set_new hb4, ?_, hbx, fun c hc => ?_, h6⟩
  · have h14 : Ext (b :: F) H1 w4.heap := (h1.trans (hxp.mono (by simp))).own hx4 (fun c hc hlt => by
      rcases h5 c hc with h | h
      · exact List.mem_cons_of_mem _ h
      · omega)
    exact h14.trans (hx5.mono (by simp))
  · rw [← byteCells_append]
    exact hm4.ext hx5 (fun c hc => by simp only [List.mem_singleton]; rintro rfl; exact hbx hc)
  · rcases hs4 c hc with h | h
    · exact h5 c h
    · exact .inr (by omega)
theorem numB_len : ∀ (m n : Nat), n < 128 ^ (m + 1) → (numB n).length ≤ m + 1
  | 0, n, h => by rw [numB_low (by simp at h; omega)]; simp
  | m + 1, n, h => by
    by_cases hl : n ≤ 127
    · rw [numB_low hl]; simp
    · rw [numB_high (by omega), List.length_cons]
      have := numB_len m (n / 128) (by rw [Nat.pow_succ] at h; omega)
      omega
theorem numB_len64 {n : Nat} (h : n < 18446744073709551616) : (numB n).length ≤ 10 := numB_len 9 n (Nat.lt_of_lt_of_le h (by decide))
theorem shr7 {k : Nat} {K : Int → Prop} (h : K ((k / 128 : Nat) : Int)) : shrI .u64 (k : Int) 7 K := by
  refine ⟨by omega, _, ?_, h⟩
  have e : (2 : Int) ^ (min (Int.toNat 7) IntKind.u64.bits) = 128 := by decide
  rw [e, Int.fdiv_eq_ediv_of_nonneg _ (by omega)]
  omega
theorem num_c {w : World} {H1 : Heap} {F : List Nat} {b : Nat} {L : List UInt8} (n : Nat) (hO : OutW H1 F b L w) (hn : n < 18446744073709551616) (hL : L.length ≤ 549755813888) :
    CallF P F_wire_Out_Num #[.pointer (some ⟨b, 0, none⟩), .int .u64 (n : Int)] w fun e w' => e = .returned (.tuple #[]) ∧ OutW H1 F b (L ++ numB n) w' := by
  have hnl := numB_len64 hn
  refine fn_wire_Out_Num ?_
  unfold T_wire_Out_Num
  refine iteP_f rfl ?_
  refine loopP_of (fun (s : Int) W => ∃ (k : Nat) (M : List UInt8), s = (k : Int) ∧ OutW H1 F b M W ∧ M ++ numB k = L ++ numB n) (fun s _ => s.toNat) ⟨n, L, rfl, hO, rfl⟩ ?_
  rintro _ W ⟨k, M, rfl, ⟨x, hX⟩, hM⟩
  have hMl : M.length ≤ 1099511627776 := by have := congrArg List.length hM; simp at this; omega
  refine iteP_dec (fun h => ?_) (fun h => ?_)
  · simp only [withAddr_some]
    refine ld_h (s := .slc) (t := x) rfl hX.2.1 rfl ?_
    refine ⟨_, (wrap8_nat k).symm, or8 ?_⟩
    refine putB hX (by omega) hMl fun w' hO' => shr7 ?_
    exact ⟨⟨k / 128, _, rfl, hO', by rw [← hM, numB_high (n := k) (by omega)]; simp⟩, by omega⟩
  · simp only [withAddr_some]
    refine ld_h (s := .slc) (t := x) rfl hX.2.1 rfl ?_
    refine ⟨_, (wrap8_nat k).symm, ?_⟩
    refine putB hX (by omega) hMl fun w' hO' => ?_
    rw [Nat.mod_eq_of_lt (by omega), show M ++ [UInt8.ofNat k] = L ++ numB n by rw [← hM, numB_low (by omega)]] at hO'
    exact ⟨trivial, hO'⟩
theorem flag_c {w : World} {H1 : Heap} {F : List Nat} {b : Nat} {L : List UInt8} (o : Bool) (hO : OutW H1 F b L w) (hL : L.length ≤ 549755813888) :
    CallF P F_wire_Out_Flag #[.pointer (some ⟨b, 0, none⟩), .bool o] w fun e w' => e = .returned (.tuple #[]) ∧ OutW H1 F b (L ++ flagB o) w' := by
  refine fn_wire_Out_Flag ?_
  unfold T_wire_Out_Flag
  cases o with
  | true =>
    refine iteP_t rfl ?_
    refine callF_of (num_c 1 hO (by omega) hL) ?_
    rintro e w' ⟨rfl, h⟩
    exact ⟨(), rfl, rfl, h⟩
  | false =>
    refine iteP_f rfl ?_
    refine callF_of (num_c 0 hO (by omega) hL) ?_
    rintro e w' ⟨rfl, h⟩
    exact ⟨(), rfl, rfl, h⟩
theorem text_c {w : World} {H1 : Heap} {F : List Nat} {b : Nat} {L : List UInt8} (M : List UInt8) (hO : OutW H1 F b L w) (hL : L.length + M.length ≤ 274877906944) :
    CallF P F_wire_Out_Text #[.pointer (some ⟨b, 0, none⟩), .string (strOf M)] w fun e w' => e = .returned (.tuple #[]) ∧ OutW H1 F b (L ++ textB M) w' := by
  refine fn_wire_Out_Text ?_
  unfold T_wire_Out_Text
  refine iteP_f rfl ?_
  have hnl := numB_len64 (n := M.length) (by omega)
  refine cvI_u64 (by omega) (by simp; omega) ?_
  refine callF_of (num_c M.length hO (by omega) (by omega)) ?_
  rintro e w1 ⟨rfl, x, hX⟩
  refine ⟨(), rfl, ?_⟩
  obtain ⟨h1, h2, h3, h4, h5, h6⟩ := hX
  have hxl : x.2.1 = (L ++ numB M.length).length := by have := h3.len; simp at this; simp; omega
  rw [List.length_append] at hxl
  simp only [withAddr_some]
  refine ld_h (s := .slc) (t := x) rfl h2 rfl ?_
  refine append_g E8 (by omega) uS8 ⟨_, uStr, by intro k h; cases h⟩ rfl h3 (Nat.zero_le _) (n := M.length) (us := byteCells M) Src.str one_byteCells (by omega) ?_
  intro x' w4 hm4 hl4 hx4 hs4
  have hb4 : w4.heap[b]? = some (.cells #[slcV x] y_wire_Out (0, 0)) := hx4.get h2 h4
  refine stC_h rfl hb4 (by simp) fun w5 hw5 => ?_
  have hx5 : Ext [b] w4.heap w5.heap := by rw [hw5]; exact Ext.set _ (by simp)
  have hs1 := h1.1
  have hbl := lt_of_get h2
  have hbx : b ∉ ownM x' := fun h => by
    rcases hs4 b h with h | h
    · exact h4 h
    · omega
  refine ⟨trivial, x', ?_, by rw [hw5]; exact set_new hb4, ?_, hbx, fun c hc => ?_, h6⟩
  · have h14 : Ext (b :: F) H1 w4.heap := h1.own hx4 (fun c hc hlt => by
      rcases h5 c hc with h | h
      · exact List.mem_cons_of_mem _ h
      · omega)
    exact h14.trans (hx5.mono (by simp))
  · rw [textB, ← List.append_assoc, ← byteCells_append]
    exact hm4.ext hx5 (fun c hc => by simp only [List.mem_singleton]; rintro rfl; exact hbx hc)
  · rcases hs4 c hc with h | h
    · exact h5 c h
    · exact .inr (by omega)
theorem bytes_c {w : World} {H1 : Heap} {F : List Nat} {b : Nat} {L : List UInt8} (hO : OutW H1 F b L w) (hL : L.length ≤ 549755813888) :
    CallF P F_wire_Out_Bytes #[.pointer (some ⟨b, 0, none⟩)] w fun e w' => ∃ y, e = .returned (slcV y) ∧ Mine w'.heap w.heap.size y_uint8 1 y (byteCells L) ∧ Ext [] w.heap w'.heap := by
  obtain ⟨x, h1, h2, h3, h4, h5, h6⟩ := hO
  have hxl : x.2.1 = L.length := by have := h3.len; simp at this; omega
  refine fn_wire_Out_Bytes ?_
  unfold T_wire_Out_Bytes
  refine iteP_f rfl ?_
  simp only [withAddr_some]
  refine ld_h (s := .slc) (t := x) rfl h2 rfl ?_
  refine append_g (x := (none, 0, 0)) (vs := []) (B := w.heap.size) E8 (by omega) uS8 (slice_noint uS8) rfl (.inl ⟨rfl, rfl⟩) (Nat.le_refl _) (Src.slc rfl h3.cells (by simp; omega)) one_byteCells (by simp only; omega) ?_
  intro y w' hm hl hx hs
  exact ⟨y, rfl, by simpa using hm, hx.mono (by simp [ownM])⟩
end Go.Proofs.YtbmegmbnlajbbaaGreat
