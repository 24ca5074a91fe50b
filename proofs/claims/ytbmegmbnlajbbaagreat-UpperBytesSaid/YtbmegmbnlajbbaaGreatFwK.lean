/- Laws for proofs over the printed propositions: one law a combinator; heaps; words. -/
import Derived.Test.YtbmegmbnlajbbaaGreatFwF
namespace Go.Fw
open Go

abbrev Heap := Array Obj

/- ---------- simple ones ---------- -/
@[simp] theorem withAddr_some {a : Addr} {K : Addr → Prop} : withAddr (some a) K = K a := rfl
theorem iteP_t {b : Bool} {A B : Prop} (h : b = true) (hA : A) : iteP b A B := ⟨fun _ => hA, fun h' => (by rw [h] at h'; cases h')⟩
theorem iteP_f {b : Bool} {A B : Prop} (h : b = false) (hB : B) : iteP b A B := ⟨fun h' => (by rw [h] at h'; cases h'), fun _ => hB⟩
theorem iteP_dec {p : Prop} [Decidable p] {A B : Prop} (hA : p → A) (hB : ¬ p → B) : iteP (decide p) A B := ⟨fun h => hA (of_decide_eq_true h), fun h => hB (of_decide_eq_false h)⟩
theorem iteP_of {p : Prop} {b : Bool} {A B : Prop} (h : b = true ↔ p) (hA : p → A) (hB : ¬ p → B) : iteP b A B :=
  ⟨fun h' => hA (h.1 h'), fun h' => hB fun hp => by rw [h.2 hp] at h'; cases h'⟩
theorem iteP_eq {a b : Int} {A B : Prop} (hA : a = b → A) (hB : a ≠ b → B) : iteP (a == b) A B := iteP_of (by simp) hA hB
theorem iteP_ne {a b : Int} {A B : Prop} (hA : a ≠ b → A) (hB : a = b → B) : iteP (a != b) A B := iteP_of (p := a ≠ b) (by simp) hA fun h => hB (by omega)
theorem nnV_of {v : Value} {K : Prop} (h : notNil v = true) (hK : K) : nnV v K := ⟨h, hK⟩

theorem wrap_i64 {n : Int} (h1 : -9223372036854775808 ≤ n) (h2 : n ≤ 9223372036854775807) : IntKind.i64.wrap n = n := by
  simp only [IntKind.wrap, IntKind.bits, IntKind.signed]
  have e : (2 : Int) ^ 64 = 18446744073709551616 := by decide
  have e' : (2 : Int) ^ (64 - 1) = 9223372036854775808 := by decide
  simp only [e, e', Bool.true_and]
  split
  · rename_i h; simp at h; omega
  · rename_i h; simp at h; omega
theorem wrap_u64 {n : Int} (h1 : 0 ≤ n) (h2 : n < 18446744073709551616) : IntKind.u64.wrap n = n := by
  simp only [IntKind.wrap, IntKind.bits, IntKind.signed]
  have e : (2 : Int) ^ 64 = 18446744073709551616 := by decide
  simp only [e, Bool.false_and, Bool.false_eq_true, if_false]
  omega
theorem wrap_u32 {n : Int} (h1 : 0 ≤ n) (h2 : n < 4294967296) : IntKind.u32.wrap n = n := by
  simp only [IntKind.wrap, IntKind.bits, IntKind.signed]
  have e : (2 : Int) ^ 32 = 4294967296 := by decide
  simp only [e, Bool.false_and, Bool.false_eq_true, if_false]
  omega
theorem wrap_u8 {n : Int} (h1 : 0 ≤ n) (h2 : n < 256) : IntKind.u8.wrap n = n := by
  simp only [IntKind.wrap, IntKind.bits, IntKind.signed]
  have e : (2 : Int) ^ 8 = 256 := by decide
  simp only [e, Bool.false_and, Bool.false_eq_true, if_false]
  omega
theorem addI_64 {a b : Int} {K : Int → Prop} (h1 : -9223372036854775808 ≤ a + b) (h2 : a + b ≤ 9223372036854775807) (hK : K (a + b)) : addI .i64 a b K := ⟨_, (wrap_i64 h1 h2).symm, hK⟩
theorem subI_64 {a b : Int} {K : Int → Prop} (h1 : -9223372036854775808 ≤ a - b) (h2 : a - b ≤ 9223372036854775807) (hK : K (a - b)) : subI .i64 a b K := ⟨_, (wrap_i64 h1 h2).symm, hK⟩
theorem mulI_64 {a b : Int} {K : Int → Prop} (h1 : -9223372036854775808 ≤ a * b) (h2 : a * b ≤ 9223372036854775807) (hK : K (a * b)) : mulI .i64 a b K := ⟨_, (wrap_i64 h1 h2).symm, hK⟩
/-- With the value that one wants to see. -/
theorem addI_to {a b : Int} {K : Int → Prop} (c : Int) (hc : a + b = c) (h1 : -9223372036854775808 ≤ c) (h2 : c ≤ 9223372036854775807) (hK : K c) : addI .i64 a b K := by subst hc; exact addI_64 h1 h2 hK
theorem subI_to {a b : Int} {K : Int → Prop} (c : Int) (hc : a - b = c) (h1 : -9223372036854775808 ≤ c) (h2 : c ≤ 9223372036854775807) (hK : K c) : subI .i64 a b K := by subst hc; exact subI_64 h1 h2 hK
theorem mulI_to {a b : Int} {K : Int → Prop} (c : Int) (hc : a * b = c) (h1 : -9223372036854775808 ≤ c) (h2 : c ≤ 9223372036854775807) (hK : K c) : mulI .i64 a b K := by subst hc; exact mulI_64 h1 h2 hK
theorem cvI_u64 {a : Int} {K : Int → Prop} (h1 : 0 ≤ a) (h2 : a < 18446744073709551616) (hK : K a) : cvI .u64 a K := ⟨_, (wrap_u64 h1 h2).symm, hK⟩
theorem cvI_u32 {a : Int} {K : Int → Prop} (h1 : 0 ≤ a) (h2 : a < 4294967296) (hK : K a) : cvI .u32 a K := ⟨_, (wrap_u32 h1 h2).symm, hK⟩
theorem cvI_i64 {a : Int} {K : Int → Prop} (h1 : -9223372036854775808 ≤ a) (h2 : a ≤ 9223372036854775807) (hK : K a) : cvI .i64 a K := ⟨_, (wrap_i64 h1 h2).symm, hK⟩

/- ---------- words ---------- -/
theorem ofInt_toNat {n : Nat} (x : BitVec n) : BitVec.ofInt n (x.toNat : Int) = x := by
  apply BitVec.eq_of_toNat_eq
  simp
theorem wrap32_nat (m : Nat) : IntKind.u32.wrap (m : Int) = ((m % 4294967296 : Nat) : Int) := by
  simp only [IntKind.wrap, IntKind.bits, IntKind.signed]
  have e : (2 : Int) ^ 32 = 4294967296 := by decide
  simp only [e, Bool.false_and, Bool.false_eq_true, if_false]
  omega
theorem wrap64_nat (m : Nat) : IntKind.u64.wrap (m : Int) = ((m % 18446744073709551616 : Nat) : Int) := by
  simp only [IntKind.wrap, IntKind.bits, IntKind.signed]
  have e : (2 : Int) ^ 64 = 18446744073709551616 := by decide
  simp only [e, Bool.false_and, Bool.false_eq_true, if_false]
  omega
theorem wrap8_nat (m : Nat) : IntKind.u8.wrap (m : Int) = ((m % 256 : Nat) : Int) := by
  simp only [IntKind.wrap, IntKind.bits, IntKind.signed]
  have e : (2 : Int) ^ 8 = 256 := by decide
  simp only [e, Bool.false_and, Bool.false_eq_true, if_false]
  omega
section w32
variable {K : Int → Prop} (x y : BitVec 32)
theorem addW (hK : K ((x + y).toNat : Int)) : addI .u32 (x.toNat : Int) (y.toNat : Int) K := by
  refine ⟨_, ?_, hK⟩
  rw [← Int.natCast_add, wrap32_nat]
  simp [BitVec.toNat_add]
theorem andW (hK : K ((x &&& y).toNat : Int)) : andI .u32 (x.toNat : Int) (y.toNat : Int) K := by
  refine ⟨_, ?_, hK⟩
  change _ = IntKind.u32.wrap ((BitVec.ofInt 32 (x.toNat : Int) &&& BitVec.ofInt 32 (y.toNat : Int)).toNat : Int)
  rw [ofInt_toNat, ofInt_toNat, wrap32_nat, Nat.mod_eq_of_lt (BitVec.isLt _)]
theorem orW (hK : K ((x ||| y).toNat : Int)) : orI .u32 (x.toNat : Int) (y.toNat : Int) K := by
  refine ⟨_, ?_, hK⟩
  change _ = IntKind.u32.wrap ((BitVec.ofInt 32 (x.toNat : Int) ||| BitVec.ofInt 32 (y.toNat : Int)).toNat : Int)
  rw [ofInt_toNat, ofInt_toNat, wrap32_nat, Nat.mod_eq_of_lt (BitVec.isLt _)]
theorem xorW (hK : K ((x ^^^ y).toNat : Int)) : xorI .u32 (x.toNat : Int) (y.toNat : Int) K := by
  refine ⟨_, ?_, hK⟩
  change _ = IntKind.u32.wrap ((BitVec.ofInt 32 (x.toNat : Int) ^^^ BitVec.ofInt 32 (y.toNat : Int)).toNat : Int)
  rw [ofInt_toNat, ofInt_toNat, wrap32_nat, Nat.mod_eq_of_lt (BitVec.isLt _)]
theorem xorW_max (hK : K ((~~~ x).toNat : Int)) : xorI .u32 (IntKind.max .u32) (x.toNat : Int) K := by
  refine ⟨_, ?_, hK⟩
  change _ = IntKind.u32.wrap ((BitVec.ofInt 32 (IntKind.max .u32) ^^^ BitVec.ofInt 32 (x.toNat : Int)).toNat : Int)
  rw [ofInt_toNat, wrap32_nat, Nat.mod_eq_of_lt (BitVec.isLt _)]
  have : BitVec.ofInt 32 (IntKind.max .u32) = BitVec.allOnes 32 := by decide
  rw [this, BitVec.allOnes_xor]
theorem xorW_lit (hK : K ((~~~ x).toNat : Int)) : xorI .u32 4294967295 (x.toNat : Int) K := xorW_max x hK
theorem shlW {i : Int} (n : Nat) (hi : i = (n : Int)) (hn : n ≤ 32) (hK : K ((x <<< n).toNat : Int)) : shlI .u32 (x.toNat : Int) i K := by
  subst hi
  refine ⟨by omega, _, ?_, hK⟩
  have h1 : min (n : Int).toNat IntKind.u32.bits = n := by simp [IntKind.bits]; omega
  rw [h1]
  have h2 : ((x.toNat : Int) * 2 ^ n) = ((x.toNat * 2 ^ n : Nat) : Int) := by simp
  rw [h2, wrap32_nat]
  simp [BitVec.toNat_shiftLeft, Nat.shiftLeft_eq]
theorem shrW {i : Int} (n : Nat) (hi : i = (n : Int)) (hn : n ≤ 32) (hK : K ((x >>> n).toNat : Int)) : shrI .u32 (x.toNat : Int) i K := by
  subst hi
  refine ⟨by omega, _, ?_, hK⟩
  have h1 : min (n : Int).toNat IntKind.u32.bits = n := by simp [IntKind.bits]; omega
  rw [h1]
  have h2 : (2 : Int) ^ n = ((2 ^ n : Nat) : Int) := by simp
  rw [h2, BitVec.toNat_ushiftRight, Nat.shiftRight_eq_div_pow, Int.fdiv_eq_ediv_of_nonneg _ (Int.natCast_nonneg _)]
  rfl
end w32

theorem shr64 {i : Int} {m : Nat} (n : Nat) (hi : i = (n : Int)) (hn : n ≤ 64) {K : Int → Prop} (hK : K ((m / 2 ^ n : Nat) : Int)) : shrI .u64 (m : Int) i K := by
  subst hi
  refine ⟨by omega, _, ?_, hK⟩
  have h1 : min (n : Int).toNat IntKind.u64.bits = n := by simp [IntKind.bits]; omega
  rw [h1]
  have h2 : (2 : Int) ^ n = ((2 ^ n : Nat) : Int) := by simp
  rw [h2, Int.fdiv_eq_ediv_of_nonneg _ (Int.natCast_nonneg _)]
  rfl
theorem cv8 {m : Nat} {K : Int → Prop} (hK : K ((UInt8.ofNat m).toNat : Int)) : cvI .u8 (m : Int) K := by
  refine ⟨_, ?_, hK⟩
  rw [wrap8_nat]
  simp
theorem mul64u {a b : Int} {K : Int → Prop} (c : Int) (hc : a * b = c) (h1 : 0 ≤ c) (h2 : c < 18446744073709551616) (hK : K c) : mulI .u64 a b K := by
  subst hc
  exact ⟨_, (wrap_u64 h1 h2).symm, hK⟩
def b32 (b : UInt8) : BitVec 32 := BitVec.ofNat 32 b.toNat
theorem cvB {b : UInt8} {K : Int → Prop} (hK : K ((b32 b).toNat : Int)) : cvI .u32 (b.toNat : Int) K := by
  refine ⟨_, ?_, hK⟩
  rw [wrap32_nat]
  simp [b32]
/-- The last byte of a word. -/
def lo8 (x : BitVec 32) : UInt8 := UInt8.ofNat x.toNat
theorem cvL (x : BitVec 32) {K : Int → Prop} (hK : K ((lo8 x).toNat : Int)) : cvI .u8 (x.toNat : Int) K := by
  refine ⟨_, ?_, hK⟩
  rw [wrap8_nat]
  simp [lo8]
/-- Cells that are bytes, words. -/
def Bytes (c : Array Value) (o : Nat) (f : Nat → UInt8) (n : Nat) : Prop := ∀ i, i < n → c[o + i]? = some (.int .u8 ((f i).toNat : Int))
def Words (c : Array Value) (o : Nat) (f : Nat → BitVec 32) (n : Nat) : Prop := ∀ i, i < n → c[o + i]? = some (.int .u32 ((f i).toNat : Int))
theorem Words.at {c : Array Value} {f : Nat → BitVec 32} {n : Nat} (h : Words c 0 f n) (i : Nat) (hi : i < n) : c[i]? = some (.int .u32 ((f i).toNat : Int)) := by simpa using h i hi
theorem Words.snoc {c : Array Value} {f : Nat → BitVec 32} {n : Nat} (h : Words c 0 f n) (hn : n < c.size) {x : BitVec 32} (hx : x = f n) : Words (c.setIfInBounds n (.int .u32 (x.toNat : Int))) 0 f (n + 1) := by
  intro i hi
  subst hx
  by_cases e : i = n
  · subst e; simp [hn]
  · rw [Array.getElem?_setIfInBounds_ne (by omega)]; exact h i (by omega)
theorem Bytes.at {c : Array Value} {f : Nat → UInt8} {n : Nat} (h : Bytes c 0 f n) (i : Nat) (hi : i < n) : c[i]? = some (.int .u8 ((f i).toNat : Int)) := by simpa using h i hi
theorem Bytes.snoc {c : Array Value} {f : Nat → UInt8} {n : Nat} (h : Bytes c 0 f n) (hn : n < c.size) {x : UInt8} (hx : x = f n) : Bytes (c.setIfInBounds n (.int .u8 (x.toNat : Int))) 0 f (n + 1) := by
  intro i hi
  subst hx
  by_cases e : i = n
  · subst e; simp [hn]
  · rw [Array.getElem?_setIfInBounds_ne (by omega)]; exact h i (by omega)

/- ---------- heaps ---------- -/
/-- Whatever lay there, but for the blocks of M, lies there as it was. -/
def Ext (M : List Nat) (H H' : Heap) : Prop := H.size ≤ H'.size ∧ ∀ b, b < H.size → b ∉ M → H'[b]? = H[b]?
theorem Ext.refl (M : List Nat) (H : Heap) : Ext M H H := ⟨Nat.le_refl _, fun _ _ _ => rfl⟩
theorem Ext.trans {M : List Nat} {H H' H'' : Heap} (h : Ext M H H') (h' : Ext M H' H'') : Ext M H H'' :=
  ⟨Nat.le_trans h.1 h'.1, fun b hb hn => (h'.2 b (Nat.lt_of_lt_of_le hb h.1) hn).trans (h.2 b hb hn)⟩
theorem Ext.mono {M M' : List Nat} {H H' : Heap} (hm : ∀ b, b ∈ M → b ∈ M') (h : Ext M H H') : Ext M' H H' := ⟨h.1, fun b hb hn => h.2 b hb fun hm' => hn (hm b hm')⟩
/-- Blocks that came later do not count. -/
theorem Ext.own {M M' : List Nat} {H H' H'' : Heap} (h : Ext M H H') (h' : Ext M' H' H'') (hm : ∀ b, b ∈ M' → b < H.size → b ∈ M) : Ext M H H'' :=
  ⟨Nat.le_trans h.1 h'.1, fun b hb hn => (h'.2 b (Nat.lt_of_lt_of_le hb h.1) fun hm' => hn (hm b hm' hb)).trans (h.2 b hb hn)⟩
theorem Ext.push {M : List Nat} {H : Heap} (o : Obj) : Ext M H (H.push o) := ⟨by simp, fun b hb _ => by rw [Array.getElem?_push_lt hb, Array.getElem?_eq_getElem hb]⟩
theorem Ext.get {M : List Nat} {H H' : Heap} {b : Nat} {o : Obj} (h : Ext M H H') (hb : H[b]? = some o) (hn : b ∉ M) : H'[b]? = some o := by
  rw [h.2 b (Array.getElem?_eq_some_iff.1 hb).1 hn, hb]
theorem lt_of_get {H : Heap} {b : Nat} {o : Obj} (hb : H[b]? = some o) : b < H.size := (Array.getElem?_eq_some_iff.1 hb).1

theorem push_new {H : Heap} {o : Obj} : (H.push o)[H.size]? = some o := by simp
theorem push_old {H : Heap} {o x : Obj} {b : Nat} (h : H[b]? = some x) : (H.push o)[b]? = some x := by
  rw [Array.getElem?_push_lt (lt_of_get h), ← h, Array.getElem?_eq_getElem (lt_of_get h)]
theorem set_new {H : Heap} {o x : Obj} {b : Nat} (h : H[b]? = some x) : (H.setIfInBounds b o)[b]? = some o := by
  simp [lt_of_get h]
theorem set_old {H : Heap} {o x : Obj} {b c : Nat} (h : H[c]? = some x) (hne : c ≠ b) : (H.setIfInBounds b o)[c]? = some x := by
  rw [Array.getElem?_setIfInBounds_ne (Ne.symm hne), h]
theorem Ext.set {M : List Nat} {H : Heap} {b : Nat} (o : Obj) (hb : b ∈ M) : Ext M H (H.setIfInBounds b o) :=
  ⟨by simp, fun c _ hn => by rw [Array.getElem?_setIfInBounds_ne]; intro e; subst e; exact hn hb⟩
/-- A block of one's own is written. -/
theorem Ext.set_own {M : List Nat} {H H' : Heap} {b : Nat} {o : Obj} (h : Ext M H H') (hb : H.size ≤ b ∨ b ∈ M) : Ext M H (H'.setIfInBounds b o) := by
  refine ⟨by simp; exact h.1, fun c hc hn => ?_⟩
  rw [Array.getElem?_setIfInBounds_ne]
  · exact h.2 c hc hn
  · intro e
    subst e
    rcases hb with hb | hb
    · omega
    · exact hn hb
theorem Ext.push_own {M : List Nat} {H H' : Heap} {o : Obj} (h : Ext M H H') : Ext M H (H'.push o) := h.trans (.push o)

section heap
variable {w : World} {H : Heap}
theorem cell_h (hw : w.heap = H) {b o : Nat} {c : Array Value} {T : TypeId} {fr : Nat × Nat} (hb : H[b]? = some (.cells c T fr)) : w.cell? ⟨b, o, none⟩ = c[o]? := by
  unfold World.cell?
  rw [hw]
  simp only [hb]
  simp
theorem ld_h {s : Sh} {b o : Nat} {c : Array Value} {T : TypeId} {fr : Nat × Nat} {K : s.T → Prop} {t : s.T} (hw : w.heap = H) (hb : H[b]? = some (.cells c T fr)) (hc : c[o]? = some (s.val t)) (hK : K t) :
    ld s ⟨b, o, none⟩ w K := ⟨t, by rw [cell_h hw hb, hc], hK⟩
theorem drewP_h {K : World → Prop} (hw : w.heap = H) (hK : ∀ w', w'.heap = H → K w') : drewP w K := by
  rintro w' rfl
  exact hK _ hw
theorem newB_h {c : Array Value} {T : TypeId} {K : Nat → World → Prop} (hw : w.heap = H) (hK : ∀ w', w'.heap = H.push (.cells c T) → K H.size w') : newB c T w K := by
  rintro b w' ⟨rfl, rfl⟩
  rw [hw]
  exact hK _ (by simp)
theorem setCell_h {b o : Nat} {c : Array Value} {T : TypeId} {fr : Nat × Nat} {v : Value} (hw : w.heap = H) (hb : H[b]? = some (.cells c T fr)) :
    (w.setCell ⟨b, o, none⟩ v).heap = H.setIfInBounds b (.cells (c.setIfInBounds o v) T fr) := by
  unfold World.setCell
  simp only [hw]
  apply Array.ext_getElem?
  intro i
  rw [Array.getElem?_modify]
  by_cases h : b = i
  · subst h
    rw [if_pos rfl, hb, set_new hb]
    simp
  · rw [if_neg h, Array.getElem?_setIfInBounds_ne h]
theorem frozen_h {b o : Nat} {c : Array Value} {T : TypeId} (hw : w.heap = H) (hb : H[b]? = some (.cells c T (0, 0))) : w.frozen? ⟨b, o, none⟩ = false := by
  unfold World.frozen?
  rw [hw]
  simp only [hb]
  simp
theorem stC_h {b o : Nat} {c : Array Value} {T : TypeId} {v : Value} {K : World → Prop} (hw : w.heap = H) (hb : H[b]? = some (.cells c T (0, 0))) (ho : o < c.size)
    (hK : ∀ w', w'.heap = H.setIfInBounds b (.cells (c.setIfInBounds o v) T (0, 0)) → K w') : stC ⟨b, o, none⟩ v w K := by
  refine ⟨⟨c[o], by rw [cell_h hw hb]; simp [ho]⟩, frozen_h hw hb, ?_⟩
  rintro w' rfl
  exact hK _ (setCell_h hw hb)
theorem add_none {b o n : Nat} : Addr.add ⟨b, o, none⟩ n = ⟨b, o + n, none⟩ := by
  unfold Addr.add
  split
  · rename_i h; subst h; rfl
  · rfl
theorem ixR_h {b o len size : Nat} {i : Int} {K : Addr → Prop} (k : Nat) (hi : i = (k : Int)) (hk : k < len) (hK : K ⟨b, o + k * size, none⟩) : ixR ⟨b, o, none⟩ len size i K := by
  subst hi
  refine ⟨by omega, by omega, ?_⟩
  rw [add_none]
  exact hK
theorem ixS_h {b o len size : Nat} {i : Int} {K : Addr → Prop} (k : Nat) (hi : i = (k : Int)) (hk : k < len) (hK : K ⟨b, o + k * size, none⟩) : ixS (some ⟨b, o, none⟩) len size i K := by
  subst hi
  refine ⟨_, rfl, by omega, by omega, ?_⟩
  rw [add_none]
  exact hK
theorem ixR_1 {b o len : Nat} {i : Int} {K : Addr → Prop} (k : Nat) (hi : i = (k : Int)) (hk : k < len) (hK : K ⟨b, o + k, none⟩) : ixR ⟨b, o, none⟩ len 1 i K := ixR_h k hi hk (by simpa using hK)
theorem ixS_1 {b o len : Nat} {i : Int} {K : Addr → Prop} (k : Nat) (hi : i = (k : Int)) (hk : k < len) (hK : K ⟨b, o + k, none⟩) : ixS (some ⟨b, o, none⟩) len 1 i K := ixS_h k hi hk (by simpa using hK)
theorem ixR_0 {b len : Nat} {i : Int} {K : Addr → Prop} (k : Nat) (hi : i = (k : Int)) (hk : k < len) (hK : K ⟨b, k, none⟩) : ixR ⟨b, 0, none⟩ len 1 i K := ixR_h k hi hk (by simpa using hK)
end heap

/-- Cells, read one by one. -/
theorem loadCells_h {P : Program} {w : World} {H : Heap} {b o n : Nat} {c : Array Value} {T : TypeId} {fr : Nat × Nat} (hw : w.heap = H) (hb : H[b]? = some (.cells c T fr)) (hn : o + n ≤ c.size) :
    (loadCells ⟨b, o, none⟩ n).run P w = .ok (c.extract o (o + n)) w := by
  have key : ∀ (m i : Nat) (acc : Array Value), o + i + m ≤ c.size → (loadCellsFrom ⟨b, o, none⟩ i m acc).run P w = .ok (acc ++ c.extract (o + i) (o + i + m)) w := by
    intro m
    induction m with
    | zero => intro i acc _; simp [loadCellsFrom]; omega
    | succ m ih =>
      intro i acc h
      have hc : w.cell? (Addr.add ⟨b, o, none⟩ i) = some c[o + i] := by
        rw [add_none, cell_h hw hb, Array.getElem?_eq_getElem (by omega)]
      simp only [loadCellsFrom, Sem.run_bind, run_load, hc, Result.andThen_ok]
      rw [ih (i + 1) _ (by omega)]
      congr 1
      apply Array.ext'
      simp only [Array.toList_append, Array.toList_push, Array.toList_extract, List.extract_eq_take_drop, List.append_assoc]
      congr 1
      have e1 : o + i + (m + 1) - (o + i) = m + 1 := by omega
      have e2 : o + (i + 1) + m - (o + (i + 1)) = m := by omega
      rw [e1, e2]
      have hlt : o + i < c.toList.length := by simp; omega
      rw [List.drop_eq_getElem_cons hlt]
      simp [List.take_succ_cons, Nat.add_assoc]
  have := key n 0 #[] (by omega)
  simpa [loadCells] using this
theorem ldA_h {P : Program} {w : World} {H : Heap} {b o n : Nat} {c : Array Value} {T : TypeId} {fr : Nat × Nat} {K : Array Value → Prop} (hw : w.heap = H) (hb : H[b]? = some (.cells c T fr)) (hn : o + n ≤ c.size)
    (hK : K (c.extract o (o + n))) : ldA P n ⟨b, o, none⟩ w K := ⟨_, loadCells_h hw hb hn, hK⟩
theorem ldA_all {P : Program} {w : World} {H : Heap} {b n : Nat} {c : Array Value} {T : TypeId} {fr : Nat × Nat} {K : Array Value → Prop} (hw : w.heap = H) (hb : H[b]? = some (.cells c T fr)) (hn : c.size = n)
    (hK : K c) : ldA P n ⟨b, 0, none⟩ w K := ldA_h hw hb (by omega) (by subst hn; simpa using hK)

/-- All cells of a list are those of one slot. -/
def oneCells (vs : List Value) : Prop := ∀ v ∈ vs, v.oneCell' = true
/-- Cells, written one by one. -/
def setCells (c : Array Value) (o : Nat) : List Value → Array Value
  | [] => c
  | v :: r => setCells (c.setIfInBounds o v) (o + 1) r
@[simp] theorem size_setCells {vs : List Value} : ∀ {c : Array Value} {o : Nat}, (setCells c o vs).size = c.size := by
  induction vs with
  | nil => intro c o; rfl
  | cons v r ih => intro c o; simp [setCells, ih]
theorem get_setCells {vs : List Value} : ∀ {c : Array Value} {o i : Nat}, o + vs.length ≤ c.size → (setCells c o vs)[i]? = if o ≤ i ∧ i < o + vs.length then vs[i - o]? else c[i]? := by
  induction vs with
  | nil =>
    intro c o i h
    simp only [setCells, List.length_nil, Nat.add_zero]
    rw [if_neg (by omega)]
  | cons v r ih =>
    intro c o i h
    simp only [List.length_cons] at h
    simp only [setCells, List.length_cons]
    rw [ih (by simp; omega)]
    by_cases h1 : i = o
    · subst h1
      rw [if_neg (by omega), if_pos (by omega)]
      have : i < c.size := by omega
      simp [this]
    · by_cases h2 : o + 1 ≤ i ∧ i < o + 1 + r.length
      · rw [if_pos h2, if_pos (by omega)]
        have : i - o = (i - (o + 1)) + 1 := by omega
        rw [this]
        simp
      · rw [if_neg h2, if_neg (by omega), Array.getElem?_setIfInBounds_ne (by omega)]
theorem setCells_all {vs : List Value} {c : Array Value} (h : vs.length = c.size) : setCells c 0 vs = vs.toArray := by
  apply Array.ext_getElem?
  intro i
  rw [get_setCells (by omega)]
  by_cases hi : i < vs.length
  · rw [if_pos (by omega)]; simp
  · rw [if_neg (by omega)]
    rw [Array.getElem?_eq_none (by omega), Array.getElem?_eq_none (by simp; omega)]
theorem set_set {H : Heap} {b : Nat} {x y : Obj} : (H.setIfInBounds b x).setIfInBounds b y = H.setIfInBounds b y := by
  apply Array.ext_getElem?
  intro i
  by_cases h : b = i
  · subst h
    by_cases hb : b < H.size
    · simp [hb]
    · rw [Array.getElem?_eq_none (by simp; omega), Array.getElem?_eq_none (by simp; omega)]
  · rw [Array.getElem?_setIfInBounds_ne h, Array.getElem?_setIfInBounds_ne h, Array.getElem?_setIfInBounds_ne h]
theorem storeCells_h {P : Program} {b : Nat} {T : TypeId} : ∀ (vs : List Value) (w : World) (H : Heap) (c : Array Value) (o i : Nat), oneCells vs → w.heap = H → H[b]? = some (.cells c T (0, 0)) → o + i + vs.length ≤ c.size →
    ∃ w', (storeCells ⟨b, o, none⟩ vs i).run P w = .ok () w' ∧ Calm w w' ∧ w'.heap = H.setIfInBounds b (.cells (setCells c (o + i) vs) T (0, 0)) := by
  intro vs
  induction vs with
  | nil =>
    intro w H c o i _ hw hb _
    refine ⟨w, by simp [storeCells], .refl w, ?_⟩
    simp only [setCells]
    rw [hw]
    apply Array.ext_getElem?
    intro j
    by_cases hj : b = j
    · subst hj; rw [set_new hb, hb]
    · rw [Array.getElem?_setIfInBounds_ne hj]
  | cons v r ih =>
    intro w H c o i h1 hw hb hn
    simp only [List.length_cons] at hn
    have hv := h1 v (by simp)
    have hc : w.cell? (Addr.add ⟨b, o, none⟩ i) = some c[o + i] := by
      rw [add_none, cell_h hw hb, Array.getElem?_eq_getElem (by omega)]
    have hf : w.frozen? (Addr.add ⟨b, o, none⟩ i) = false := by rw [add_none]; exact frozen_h hw hb
    obtain ⟨w', h2, h4, h3⟩ := ih (w.setCell (Addr.add ⟨b, o, none⟩ i) v) _ (c.setIfInBounds (o + i) v) o (i + 1) (fun x hx => h1 x (by simp [hx])) (by rw [add_none]; exact setCell_h hw hb) (set_new hb) (by simp; omega)
    refine ⟨w', ?_, h4, ?_⟩
    · simp only [storeCells, Sem.run_bind, run_store P w _ v .plain hv, hc, hf, Bool.false_eq_true, if_false, Result.andThen_ok, h2]
    · rw [h3, set_set]
      simp [setCells, Nat.add_assoc]
theorem storeVar_h {P : Program} {w : World} {H : Heap} {b o : Nat} {T t : TypeId} {c : Array Value} {v : Value} {K : World → Prop} (hs : P.cellsOf t = v.cells.size) (hs0 : v.cells.size ≠ 0) (h1 : oneCells v.cells.toList) (hw : w.heap = H)
    (hb : H[b]? = some (.cells c T (0, 0))) (hn : o + v.cells.size ≤ c.size) (hK : ∀ w', w'.heap = H.setIfInBounds b (.cells (setCells c o v.cells.toList) T (0, 0)) → K w') : genU P (storeVar t ⟨b, o, none⟩ v) w K := by
  obtain ⟨w', h2, h4, h3⟩ := storeCells_h (P := P) v.cells.toList w H c o 0 h1 hw hb (by simpa using hn)
  refine ⟨w', ?_, h4, hK w' (by simpa using h3)⟩
  have h0 : (sizeOf t).run P w = .ok v.cells.size w := by rw [run_sizeOf_cells (by omega), hs]
  simp only [storeVar, Sem.run_bind, h0, Result.andThen_ok, ne_eq, not_true_eq_false, if_false, h2]

/-- n words, n bytes as cells. -/
def W32 (s : Nat → BitVec 32) (n : Nat) : Array Value := ((List.range n).map fun i => Value.int .u32 ((s i).toNat : Int)).toArray
def B8 (f : Nat → UInt8) (n : Nat) : Array Value := ((List.range n).map fun i => Value.int .u8 ((f i).toNat : Int)).toArray
@[simp] theorem size_W32 {s : Nat → BitVec 32} {n : Nat} : (W32 s n).size = n := by simp [W32]
@[simp] theorem size_B8 {f : Nat → UInt8} {n : Nat} : (B8 f n).size = n := by simp [B8]
theorem words_W32 {s : Nat → BitVec 32} {n : Nat} : Words (W32 s n) 0 s n := by
  intro i hi
  simp [W32, hi]
theorem bytes_B8 {f : Nat → UInt8} {n : Nat} : Bytes (B8 f n) 0 f n := by
  intro i hi
  simp [B8, hi]
theorem one_W32 {s : Nat → BitVec 32} {n : Nat} : oneCells (W32 s n).toList := by
  intro v hv
  simp only [W32, List.mem_map] at hv
  obtain ⟨i, _, rfl⟩ := hv
  rfl
theorem one_B8 {f : Nat → UInt8} {n : Nat} : oneCells (B8 f n).toList := by
  intro v hv
  simp only [B8, List.mem_map] at hv
  obtain ⟨i, _, rfl⟩ := hv
  rfl
theorem Words.extract {c : Array Value} {s : Nat → BitVec 32} {o n : Nat} (h : Words c o s n) (hn : o + n ≤ c.size) : c.extract o (o + n) = W32 s n := by
  apply Array.ext_getElem?
  intro i
  by_cases hi : i < n
  · rw [Array.getElem?_extract, if_pos (by omega), h i hi, words_W32.at i hi]
  · rw [Array.getElem?_eq_none (by simp; omega), Array.getElem?_eq_none (by simp; omega)]
theorem Bytes.extract {c : Array Value} {f : Nat → UInt8} {o n : Nat} (h : Bytes c o f n) (hn : o + n ≤ c.size) : c.extract o (o + n) = B8 f n := by
  apply Array.ext_getElem?
  intro i
  by_cases hi : i < n
  · rw [Array.getElem?_extract, if_pos (by omega), h i hi, bytes_B8.at i hi]
  · rw [Array.getElem?_eq_none (by simp; omega), Array.getElem?_eq_none (by simp; omega)]

/- ---------- loops, joins, calls ---------- -/
theorem joinP_of {σ : Type} {m : (σ → World → Prop) → Prop} {k : σ → World → Prop} (J : σ → World → Prop) (h : m J) (hk : ∀ s w, J s w → k s w) : joinP σ m k := ⟨J, h, hk⟩
/-- Without a cut: the rest is gone through on every way. -/
theorem joinP_in {σ : Type} {m : (σ → World → Prop) → Prop} {k : σ → World → Prop} (h : m k) : joinP σ m k := ⟨k, h, fun _ _ h => h⟩
theorem loopP_of {σ : Type} {m : σ → World → (σ → World → Prop) → Prop} {s : σ} {w : World} (I : σ → World → Prop) (μ : σ → World → Nat) (h0 : I s w) (hr : ∀ s w, I s w → m s w fun s' w' => I s' w' ∧ μ s' w' < μ s w) :
    loopP σ m s w := ⟨I, μ, h0, hr⟩
theorem least {p : Nat → Prop} (h : ∃ n, p n) : ∃ n, p n ∧ ∀ m, p m → n ≤ m := by
  obtain ⟨n, hn⟩ := h
  induction n using Nat.strongRecOn with
  | _ n ih =>
    by_cases hm : ∃ m, m < n ∧ p m
    · obtain ⟨m, h1, h2⟩ := hm; exact ih m h1 h2
    · exact ⟨n, hn, fun m h => Nat.le_of_not_lt fun h' => hm ⟨m, h', h⟩⟩
/-- A loop whose measure is a ghost. -/
theorem loopP_ix {σ : Type} {m : σ → World → (σ → World → Prop) → Prop} {s : σ} {w : World} (I : Nat → σ → World → Prop) (n : Nat) (h0 : I n s w)
    (hr : ∀ n s w, I n s w → ∀ K : σ → World → Prop, (∀ n' s' w', n' < n → I n' s' w' → K s' w') → m s w K) : loopP σ m s w := by
  classical
  refine ⟨fun s w => ∃ n, I n s w, fun s w => if h : ∃ n, I n s w then Classical.choose (least h) else 0, ⟨n, h0⟩, fun s w h => ?_⟩
  refine hr _ s w (Classical.choose_spec (least h)).1 _ fun n' s' w' hn' hI => ⟨⟨n', hI⟩, ?_⟩
  have h' : ∃ n, I n s' w' := ⟨n', hI⟩
  have h : ∃ n, I n s w := h
  simp only [dif_pos h, dif_pos h']
  exact Nat.lt_of_le_of_lt ((Classical.choose_spec (least h')).2 n' hI) hn'
theorem CallF.mono {P : Program} {f : FuncId} {args : Array Value} {w : World} {R R' : Ending → World → Prop} (h : CallF P f args w R) (hr : ∀ e w', R e w' → R' e w') : CallF P f args w R' := ⟨h.1, h.2.mono fun e w' h => ⟨hr e w' h.1, h.2⟩⟩
theorem callQ_of {P : Program} {f : FuncId} {args : Array Value} {l : List Sh} {tup : Bool} {w : World} {K : Tup l → Prop} (t : Tup l) (h : CallF P f args w (fun e w' => e = .returned (retEV l tup t).2 ∧ w' = w)) (hK : K t) :
    callQ P f args l tup w K := ⟨t, h, hK⟩
theorem callF_of {P : Program} {f : FuncId} {args : Array Value} {l : List Sh} {tup : Bool} {w : World} {K : Tup l → World → Prop} {R : Ending → World → Prop} (h : CallF P f args w R)
    (hK : ∀ e w', R e w' → ∃ t, e = .returned (retEV l tup t).2 ∧ K t w') : callF P f args l tup w K := .go (h.mono hK)
/-- A contract whose answer is told. -/
theorem callF_to {P : Program} {f : FuncId} {args : Array Value} {l : List Sh} {tup : Bool} {w : World} {K : Tup l → World → Prop} {Q : Tup l → World → Prop}
    (h : CallF P f args w (fun e w' => ∃ t, e = .returned (retEV l tup t).2 ∧ Q t w')) (hK : ∀ t w', Q t w' → K t w') : callF P f args l tup w K := .go (h.mono fun _ _ ⟨t, he, hq⟩ => ⟨t, he, hK t _ hq⟩)
/-- A function of the model's own. -/
theorem callF_ext {P : Program} {f : FuncId} {args : Array Value} {l : List Sh} {tup : Bool} {w : World} {K : Tup l → World → Prop} (t : Tup l) (h : (callFunc f args).run P w = .ok (.value (retEV l tup t).2) w) (hK : K t w) : callF P f args l tup w K := .own _ _ h (.refl w) ⟨t, rfl, hK⟩
theorem callF_extW {P : Program} {f : FuncId} {args : Array Value} {l : List Sh} {tup : Bool} {w : World} {K : Tup l → World → Prop} (t : Tup l) (w' : World) (h : (callFunc f args).run P w = .ok (.value (retEV l tup t).2) w') (hc : Calm w w') (hK : K t w') : callF P f args l tup w K := .own _ _ h hc ⟨t, rfl, hK⟩
theorem genQ_of {P : Program} {m : Sem Value} {s : Sh} {w : World} {K : s.T → Prop} (t : s.T) (h : m.run P w = .ok (s.val t) w) (hK : K t) : genQ P m s w K := ⟨t, h, hK⟩
theorem genL_of {P : Program} {m : Sem Value} {s : Sh} {w : World} {K : s.T → World → Prop} (t : s.T) (w' : World) (h : m.run P w = .ok (s.val t) w') (hK : K t w') (hc : Calm w w' := by first | exact ⟨rfl, rfl, rfl, Nat.le_refl _⟩ | exact ⟨rfl, rfl, rfl, Nat.le_succ _⟩) : genL P m s w K := ⟨t, w', h, hc, hK⟩
theorem remI_n {a b : Int} {K : Int → Prop} (m n : Nat) (ha : a = (m : Int)) (hb : b = (n : Int)) (hn : n ≠ 0) (hK : K ((m % n : Nat) : Int)) : remI a b K := by
  subst ha hb
  exact ⟨by omega, _, by rw [Int.tmod_eq_emod_of_nonneg (by omega)]; rfl, hK⟩
theorem quoI_n {a b : Int} {K : Int → Prop} (m n : Nat) (ha : a = (m : Int)) (hb : b = (n : Int)) (hn : n ≠ 0) (hm : m < 9223372036854775808) (hK : K ((m / n : Nat) : Int)) : quoI .i64 a b K := by
  subst ha hb
  have hd : m / n ≤ m := Nat.div_le_self _ _
  refine ⟨by omega, _, ?_, hK⟩
  have he : Int.tdiv (m : Int) (n : Int) = ((m / n : Nat) : Int) := by rw [Int.tdiv_eq_ediv_of_nonneg (by omega)]; rfl
  rw [he]
  generalize m / n = d at *
  rw [wrap_i64 (by omega) (by omega)]
theorem Words.put {c : Array Value} {f : Nat → BitVec 32} {n : Nat} (h : Words c 0 f n) (i : Nat) (hi : i < c.size) (x : BitVec 32) : Words (c.setIfInBounds i (.int .u32 (x.toNat : Int))) 0 (fun k => if k = i then x else f k) n := by
  intro k hk
  by_cases e : k = i
  · subst e; simp [hi]
  · rw [Array.getElem?_setIfInBounds_ne (by omega), h k hk]; simp only [if_neg e]
theorem Words.congr {c : Array Value} {f g : Nat → BitVec 32} {n : Nat} (h : Words c 0 f n) (hg : ∀ k, k < n → f k = g k) : Words c 0 g n := fun k hk => by rw [h k hk, hg k hk]
theorem xor8 (a b : UInt8) {K : Int → Prop} (hK : K ((a ^^^ b).toNat : Int)) : xorI .u8 (a.toNat : Int) (b.toNat : Int) K := by
  refine ⟨_, ?_, hK⟩
  have ha : BitVec.ofInt IntKind.u8.bits (a.toNat : Int) = a.toBitVec := by
    apply BitVec.eq_of_toNat_eq
    show (BitVec.ofInt 8 (a.toNat : Int)).toNat = a.toBitVec.toNat
    rw [BitVec.ofInt_natCast]; simp
  have hb : BitVec.ofInt IntKind.u8.bits (b.toNat : Int) = b.toBitVec := by
    apply BitVec.eq_of_toNat_eq
    show (BitVec.ofInt 8 (b.toNat : Int)).toNat = b.toBitVec.toNat
    rw [BitVec.ofInt_natCast]; simp
  rw [ha, hb]
  show _ = IntKind.u8.wrap ((a ^^^ b).toNat : Nat)
  rw [wrap8_nat, Nat.mod_eq_of_lt (a ^^^ b).toNat_lt]
end Go.Fw
