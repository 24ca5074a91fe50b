/- Numbers read out of bytes: the plain law. -/
import Derived.Test.YtbmegmbnlajbbaaGreatVf
namespace Go.Proofs.YtbmegmbnlajbbaaGreat
open Go Go.Fw Go.Proofs Go.Sort
/-- A number read; at: its byte, acc: what was read of it. -/
def rdN : Nat → Nat → List UInt8 → Option (Nat × List UInt8)
  | _, _, [] => none
  | at', acc, c :: R => if (at' = 9 ∧ 1 < c.toNat) ∨ (0 < at' ∧ c.toNat = 0) then none else
    if c.toNat < 128 then some (acc + c.toNat * 128 ^ at', R) else rdN (at' + 1) (acc + (c.toNat % 128) * 128 ^ at') R
def rdNum (R : List UInt8) : Option (Nat × List UInt8) := rdN 0 0 R
theorem ofNat_lt {n : Nat} (h : n < 256) : (UInt8.ofNat n).toNat = n := by simp; omega
theorem pow_step {e m : Nat} (he : e ≤ 9) (h : m < 2 ^ (64 - 7 * e)) (hm : 127 < m) : e < 9 ∧ m / 128 < 2 ^ (64 - 7 * (e + 1)) := by
  have h9 : e ≠ 9 := by rintro rfl; simp at h; omega
  have e1 : 2 ^ (64 - 7 * e) = 2 ^ (64 - 7 * (e + 1)) * 128 := by
    rw [show 64 - 7 * e = (64 - 7 * (e + 1)) + 7 by omega, Nat.pow_add]
  exact ⟨by omega, by rw [Nat.div_lt_iff_lt_mul (by omega)]; omega⟩
theorem rdN_num : ∀ (m e acc : Nat) (R : List UInt8), e ≤ 9 → m < 2 ^ (64 - 7 * e) → (e = 0 ∨ 0 < m) → rdN e acc (numB m ++ R) = some (acc + m * 128 ^ e, R) := by
  intro m
  induction m using Nat.strongRecOn with
  | ind m ih =>
    intro e acc R he hm h0
    by_cases hl : m ≤ 127
    · rw [numB_low hl]
      simp only [List.cons_append, List.nil_append, rdN, ofNat_lt (show m < 256 by omega)]
      rw [if_neg, if_pos (by omega)]
      rintro (⟨rfl, h⟩ | ⟨h, h'⟩)
      · simp at hm; omega
      · omega
    · obtain ⟨h9, hd⟩ := pow_step he hm (by omega)
      rw [numB_high (by omega)]
      simp only [List.cons_append, rdN, ofNat_lt (show m % 128 + 128 < 256 by omega)]
      rw [if_neg (by omega), if_neg (by omega), ih (m / 128) (by omega) _ _ _ (by omega) hd (.inr (by omega))]
      congr 2
      rw [Nat.pow_succ, show (m % 128 + 128) % 128 = m % 128 by omega]
      have h2 : m = m % 128 + 128 * (m / 128) := by omega
      generalize 128 ^ e = q at *
      calc acc + m % 128 * q + m / 128 * (q * 128) = acc + (m % 128 + 128 * (m / 128)) * q := by rw [Nat.add_mul, Nat.mul_comm q 128, ← Nat.mul_assoc, Nat.mul_comm (m / 128) 128]; omega
        _ = acc + m * q := by rw [← h2]
theorem rdNum_num {m : Nat} {R : List UInt8} (h : m < 18446744073709551616) : rdNum (numB m ++ R) = some (m, R) := by
  have := rdN_num m 0 0 R (by omega) (by simpa using h) (.inl rfl)
  simpa [rdNum] using this
theorem rdN_back : ∀ (R0 : List UInt8) (e acc n : Nat) (R : List UInt8), e ≤ 9 → rdN e acc R0 = some (n, R) → ∃ m, R0 = numB m ++ R ∧ n = acc + m * 128 ^ e ∧ m < 2 ^ (64 - 7 * e) ∧ (0 < e → 0 < m)
  | [], e, acc, n, R, he, h => by simp [rdN] at h
  | c :: R0, e, acc, n, R, he, h => by
    simp only [rdN] at h
    have hc := c.toNat_lt
    split at h
    · cases h
    · rename_i hbad
      split at h
      · rename_i hlt
        simp only [Option.some.injEq, Prod.mk.injEq] at h
        obtain ⟨rfl, rfl⟩ := h
        refine ⟨c.toNat, ?_, rfl, ?_, fun h => by omega⟩
        · rw [numB_low (by omega)]; simp
        · by_cases h9 : e = 9
          · subst h9; simp; omega
          · have : 2 ^ 8 ≤ 2 ^ (64 - 7 * e) := Nat.pow_le_pow_right (by omega) (by omega)
            omega
      · rename_i hge
        have h9 : e < 9 := by omega
        obtain ⟨m, e1, e2, e3, e4⟩ := rdN_back R0 (e + 1) _ n R (by omega) h
        have hm := e4 (by omega)
        refine ⟨c.toNat % 128 + 128 * m, ?_, ?_, ?_, fun _ => by omega⟩
        · rw [numB_high (by omega), show (c.toNat % 128 + 128 * m) % 128 + 128 = c.toNat by omega, show (c.toNat % 128 + 128 * m) / 128 = m by omega, e1]
          simp
        · rw [e2, Nat.pow_succ, Nat.add_mul]
          generalize 128 ^ e = q
          rw [Nat.mul_comm q 128, ← Nat.mul_assoc, Nat.mul_comm m 128]
          omega
        · have e5 : 2 ^ (64 - 7 * e) = 2 ^ (64 - 7 * (e + 1)) * 128 := by
            rw [show 64 - 7 * e = (64 - 7 * (e + 1)) + 7 by omega, Nat.pow_add]
          omega
theorem rdNum_back {R0 R : List UInt8} {n : Nat} (h : rdNum R0 = some (n, R)) : R0 = numB n ++ R ∧ n < 18446744073709551616 := by
  obtain ⟨m, h1, h2, h3, _⟩ := rdN_back R0 0 0 n R (by omega) h
  simp at h2
  subst h2
  exact ⟨h1, by simpa using h3⟩
/-- A text read. -/
def rdText (most : Nat) (R : List UInt8) : Option (List UInt8 × List UInt8) :=
  match rdNum R with
  | none => none
  | some (n, R) => if most < n ∨ R.length < n then none else some (R.take n, R.drop n)
def rdFlag : List UInt8 → Option (Bool × List UInt8)
  | [] => none
  | c :: R => if 1 < c.toNat then none else some (decide (c.toNat = 1), R)
theorem rdText_text {most : Nat} {M R : List UInt8} (h : M.length ≤ most) (hm : most < 18446744073709551616) : rdText most (textB M ++ R) = some (M, R) := by
  unfold rdText textB
  rw [List.append_assoc, rdNum_num (by omega)]
  simp only [List.length_append]
  rw [if_neg (by omega)]
  simp
theorem rdFlag_flag {o : Bool} {R : List UInt8} : rdFlag (flagB o ++ R) = some (o, R) := by
  cases o <;> simp [flagB, numB_low, rdFlag]
theorem rdText_back {most : Nat} {R0 M R : List UInt8} (h : rdText most R0 = some (M, R)) : R0 = textB M ++ R ∧ M.length ≤ most := by
  unfold rdText at h
  split at h
  · cases h
  · rename_i n R1 h1
    split at h
    · cases h
    · rename_i h2
      simp only [Option.some.injEq, Prod.mk.injEq] at h
      obtain ⟨rfl, rfl⟩ := h
      obtain ⟨h3, _⟩ := rdNum_back h1
      have hl : (R1.take n).length = n := by simp; omega
      refine ⟨?_, by omega⟩
      rw [textB, hl, h3, List.append_assoc, List.take_append_drop]
theorem rdFlag_back {R0 R : List UInt8} {o : Bool} (h : rdFlag R0 = some (o, R)) : R0 = flagB o ++ R := by
  unfold rdFlag at h
  split at h
  · cases h
  · rename_i c R1
    split at h
    · cases h
    · rename_i h2
      simp only [Option.some.injEq, Prod.mk.injEq] at h
      obtain ⟨rfl, rfl⟩ := h
      have hc : c = UInt8.ofNat c.toNat := by simp
      by_cases h1 : c.toNat = 1
      · rw [hc, h1]; simp [flagB, numB_low]
      · have h0 : c.toNat = 0 := by omega
        rw [hc, h0]; simp [flagB, numB_low]
end Go.Proofs.YtbmegmbnlajbbaaGreat
