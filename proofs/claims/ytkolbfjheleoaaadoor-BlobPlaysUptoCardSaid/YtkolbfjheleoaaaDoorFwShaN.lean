/- Digests, reckoned with plain numbers. -/
import Derived.Test.YtkolbfjheleoaaaDoorFwSha
import Derived.KernelRfl
namespace Go.Fw.Sha
open Go.Fw
def M32 : Nat := 4294967296
def rN (x n : Nat) : Nat := x >>> n ||| (x <<< (32 - n)) % M32
def force (n : Nat) (k : Nat → List Nat) : List Nat := Nat.rec (k 0) (fun m _ => k (Nat.succ m)) n
theorem force_eq (n : Nat) (k : Nat → List Nat) : force n k = k n := by cases n <;> rfl
def nextW (ws : List Nat) : Nat :=
  let x := ws.getD 1 0
  let y := ws.getD 14 0
  ((((rN x 17 ^^^ rN x 19 ^^^ x >>> 10) + ws.getD 6 0) % M32 + (rN y 7 ^^^ rN y 18 ^^^ y >>> 3)) % M32 + ws.getD 15 0) % M32
/-- The schedule, the last word first. -/
def schedN : Nat → List Nat → List Nat
  | 0, ws => ws
  | n + 1, ws => force (nextW ws) fun v => schedN n (v :: ws)
def notN (x : Nat) : Nat := 4294967295 - x
def oneN (e f g h k w : Nat) : Nat := ((((h + (rN e 6 ^^^ rN e 11 ^^^ rN e 25)) % M32 + (e &&& f ^^^ notN e &&& g)) % M32 + k) % M32 + w) % M32
def twoN (a b c : Nat) : Nat := ((rN a 2 ^^^ rN a 13 ^^^ rN a 22) + (a &&& b ^^^ a &&& c ^^^ b &&& c)) % M32
def roundsN : List Nat → List Nat → (a b c d e f g h : Nat) → List Nat
  | k :: ks, w :: ws, a, b, c, d, e, f, g, h =>
    force (oneN e f g h k w) fun t1 => force ((t1 + twoN a b c) % M32) fun a' => force ((d + t1) % M32) fun e' => roundsN ks ws a' a b c e' e f g
  | _, _, a, b, c, d, e, f, g, h => [a, b, c, d, e, f, g, h]

/-- A list of words as numbers. -/
def nums (f : Nat → BitVec 32) (n : Nat) : List Nat := (List.range n).map fun i => (f i).toNat
def numsR (f : Nat → BitVec 32) : Nat → List Nat
  | 0 => []
  | n + 1 => (f n).toNat :: numsR f n
theorem numsR_get (f : Nat → BitVec 32) : ∀ (n i : Nat), i < n → (numsR f n).getD i 0 = (f (n - 1 - i)).toNat
  | 0, _, h => by omega
  | n + 1, 0, _ => by simp [numsR]
  | n + 1, i + 1, h => by
    have := numsR_get f n i (by omega)
    simp only [numsR, List.getD_cons_succ, this]
    congr 2
    omega
theorem rotr_nat (x : BitVec 32) (n : Nat) : (rotr x n).toNat = rN x.toNat n := by
  simp [rotr, rN, M32]
theorem nextW_eq (m : Nat → BitVec 32) {t : Nat} (h : 16 ≤ t) : nextW (numsR (W m) t) = (W m t).toNat := by
  rw [W_ge h]
  simp only [nextW, numsR_get _ _ _ (show 1 < t by omega), numsR_get _ _ _ (show 14 < t by omega), numsR_get _ _ _ (show 6 < t by omega), numsR_get _ _ _ (show 15 < t by omega), BitVec.toNat_add, BitVec.toNat_xor, rotr_nat, BitVec.toNat_ushiftRight]
  rw [show t - 1 - 1 = t - 2 from by omega, show t - 1 - 14 = t - 15 from by omega, show t - 1 - 6 = t - 7 from by omega, show t - 1 - 15 = t - 16 from by omega]
  rfl
theorem sched_eq (m : Nat → BitVec 32) : ∀ (n t : Nat), 16 ≤ t → schedN n (numsR (W m) t) = numsR (W m) (t + n)
  | 0, t, _ => rfl
  | n + 1, t, h => by
    rw [schedN, force_eq, nextW_eq m h]
    show schedN n (numsR (W m) (t + 1)) = _
    rw [sched_eq m n (t + 1) (by omega), show t + 1 + n = t + (n + 1) from by omega]
theorem one_eq (s : Nat → BitVec 32) (k w : BitVec 32) : (one s k w).toNat = oneN (s 4).toNat (s 5).toNat (s 6).toNat (s 7).toNat k.toNat w.toNat := by
  simp only [one, oneN, BitVec.toNat_add, BitVec.toNat_xor, rotr_nat, BitVec.toNat_and, BitVec.toNat_not, notN]
  rfl
theorem two_eq (s : Nat → BitVec 32) : (two s).toNat = twoN (s 0).toNat (s 1).toNat (s 2).toNat := by
  simp only [two, twoN, BitVec.toNat_add, BitVec.toNat_xor, rotr_nat, BitVec.toNat_and]
  rfl
def numsF (f : Nat → BitVec 32) (t : Nat) : Nat → List Nat
  | 0 => []
  | n + 1 => (f t).toNat :: numsF f (t + 1) n
theorem rounds_eq (w s : Nat → BitVec 32) : ∀ (n t : Nat), roundsN (numsF K t n) (numsF w t n) (rnd w s t 0).toNat (rnd w s t 1).toNat (rnd w s t 2).toNat (rnd w s t 3).toNat (rnd w s t 4).toNat (rnd w s t 5).toNat (rnd w s t 6).toNat (rnd w s t 7).toNat =
    nums (rnd w s (t + n)) 8
  | 0, t => rfl
  | n + 1, t => by
    simp only [numsF, roundsN, force_eq]
    rw [← one_eq, ← two_eq]
    have h := rounds_eq w s n (t + 1)
    rw [show t + 1 + n = t + (n + 1) from by omega] at h
    rw [← h]
    congr 1
theorem numsR_rev (f : Nat → BitVec 32) : ∀ (n : Nat) (l : List Nat), (numsR f n).reverse ++ l = numsF f 0 n ++ l := by
  have key : ∀ (n t : Nat), numsF f t (n + 1) = numsF f t n ++ [(f (t + n)).toNat] := by
    intro n
    induction n with
    | zero => intro t; rfl
    | succ n ih =>
      intro t
      rw [numsF, ih (t + 1), show t + 1 + n = t + (n + 1) from by omega]
      rfl
  intro n
  induction n with
  | zero => intro l; rfl
  | succ n ih =>
    intro l
    rw [numsR, List.reverse_cons, List.append_assoc, ih, key, Nat.zero_add]
    simp
/-- A block goes in. -/
def compN (ms : List Nat) (s : List Nat) : List Nat :=
  let ws := (schedN 48 ms.reverse).reverse
  (roundsN kc ws (s.getD 0 0) (s.getD 1 0) (s.getD 2 0) (s.getD 3 0) (s.getD 4 0) (s.getD 5 0) (s.getD 6 0) (s.getD 7 0)).zipWith (fun x y => (y + x) % M32) s
theorem kc_eq : numsF K 0 64 = kc := by kernel_rfl
theorem comp_eq (s m : Nat → BitVec 32) : compN (numsF m 0 16) (nums s 8) = nums (comp s m) 8 := by
  have h1 : (numsF m 0 16).reverse = numsR (W m) 16 := by
    have h2 : numsR (W m) 16 = numsR m 16 := by
      have : ∀ n, n ≤ 16 → numsR (W m) n = numsR m n := by
        intro n
        induction n with
        | zero => intro _; rfl
        | succ n ih =>
          intro hn
          rw [numsR, numsR, ih (by omega), W_lt (by omega)]
      exact this 16 (Nat.le_refl _)
    rw [h2]
    have := numsR_rev m 16 []
    simp only [List.append_nil] at this
    rw [← this, List.reverse_reverse]
  have h3 : ((numsR (W m) 64).reverse) = numsF (W m) 0 64 := by
    have := numsR_rev (W m) 64 []
    simpa using this
  unfold compN
  simp only [h1]
  rw [sched_eq m 48 16 (Nat.le_refl _), h3, ← kc_eq]
  have h4 := rounds_eq (W m) s 64 0
  have h5 : ∀ i, i < 8 → (nums s 8).getD i 0 = (rnd (W m) s 0 i).toNat := by
    intro i hi
    simp [nums, List.getD_eq_getElem?_getD, hi, rnd]
  rw [h5 0 (by omega), h5 1 (by omega), h5 2 (by omega), h5 3 (by omega), h5 4 (by omega), h5 5 (by omega), h5 6 (by omega), h5 7 (by omega), h4]
  simp only [nums, Nat.zero_add]
  rw [List.zipWith_map, List.zipWith_self]
  apply List.map_congr_left
  intro i _
  simp only [comp, BitVec.toNat_add]
  rfl
def wordN (l : List UInt8) (n t : Nat) : Nat := ((nth l (64 * n + 4 * t)).toNat <<< 24) % M32 ||| ((nth l (64 * n + (4 * t + 1))).toNat <<< 16) % M32 ||| ((nth l (64 * n + (4 * t + 2))).toNat <<< 8) % M32 ||| (nth l (64 * n + (4 * t + 3))).toNat
def wordsN (l : List UInt8) (n : Nat) : Nat → Nat → List Nat
  | _, 0 => []
  | t, k + 1 => wordN l n t :: wordsN l n (t + 1) k
def blocksN (l : List UInt8) : Nat → List Nat
  | 0 => ic
  | n + 1 => compN (wordsN l n 0 16) (blocksN l n)
theorem b32_nat (b : UInt8) : (b32 b).toNat = b.toNat := by
  have := b.toNat_lt
  simp [b32]
theorem wordN_eq (l : List UInt8) (n t : Nat) : wordN l n t = (word (fun j => nth l (64 * n + j)) t).toNat := by
  simp only [wordN, word, BitVec.toNat_or, BitVec.toNat_shiftLeft, b32_nat]
  rfl
theorem wordsN_eq (l : List UInt8) (n : Nat) : ∀ (k t : Nat), wordsN l n t k = numsF (word (fun j => nth l (64 * n + j))) t k
  | 0, _ => rfl
  | k + 1, t => by rw [wordsN, numsF, wordN_eq, wordsN_eq l n k (t + 1)]
theorem ic_eq : nums init 8 = ic := by kernel_rfl
theorem blocksN_eq (l : List UInt8) : ∀ n, blocksN l n = nums (blocks l n) 8
  | 0 => ic_eq.symm
  | n + 1 => by rw [blocksN, blocks, ← comp_eq, blocksN_eq l n, wordsN_eq]
def sumN (l : List UInt8) : List UInt8 :=
  let s := blocksN (pad l) ((pad l).length / 64)
  (List.range 32).map fun i => UInt8.ofNat (s.getD (i / 4) 0 >>> (24 - 8 * (i % 4)))
theorem sum_eq (l : List UInt8) : sum l = sumN l := by
  unfold sum sumN
  apply List.map_congr_left
  intro i hi
  have hi : i < 32 := by simpa using hi
  simp only [blocksN_eq, out]
  have : (nums (blocks (pad l) ((pad l).length / 64)) 8).getD (i / 4) 0 = (blocks (pad l) ((pad l).length / 64) (i / 4)).toNat := by
    have : i / 4 < 8 := by omega
    simp [nums, List.getD_eq_getElem?_getD, this]
  rw [this]
  simp [lo8]
theorem sum_ab : sumN [97, 98] = [0xfb, 0x8e, 0x20, 0xfc, 0x2e, 0x4c, 0x3f, 0x24, 0x8c, 0x60, 0xc3, 0x9b, 0xd6, 0x52, 0xf3, 0xc1, 0x34, 0x72, 0x98, 0xbb, 0x97, 0x7b, 0x8b, 0x4d, 0x59, 0x03, 0xb8, 0x50, 0x55, 0x62, 0x06, 0x03] := by kernel_rfl
theorem sum_cd : sumN [99, 100] = [0x21, 0xe7, 0x21, 0xc3, 0x5a, 0x58, 0x23, 0xfd, 0xb4, 0x52, 0xfa, 0x2f, 0x9f, 0x0a, 0x61, 0x2c, 0x74, 0xfb, 0x95, 0x2e, 0x06, 0x92, 0x74, 0x89, 0xc6, 0xb2, 0x7a, 0x43, 0xb8, 0x17, 0xbe, 0xd4] := by kernel_rfl
end Go.Fw.Sha
