/- Bytes are read: wire.In. -/
import Derived.Test.YtbmegmbnlajbbaaGreatWa
namespace Go.Proofs.YtbmegmbnlajbbaaGreat
open Go Go.Fw Go.Proofs

/-- What is left to be read; none: something was wrong. -/
abbrev Rest := Option (List UInt8)
/-- A reader of bytes; F: the blocks that its bytes may lie in. -/
def InW (H : Heap) (b : Nat) (F : List Nat) (s : Rest) : Prop := ∃ (x : Option Addr × Nat × Nat) (e : Int), H[b]? = some (.cells #[slcV x, .int .i64 e] y_wire_In (0, 0)) ∧ b ∉ F ∧ (∀ c ∈ ownM x, c ∈ F) ∧
  (match s with | some R => e = 0 ∧ Cells H x.1 (byteCells R) ∧ x.2.1 = R.length ∧ x.2.1 ≤ x.2.2 ∧ R.length ≤ 9223372036854775807 | none => e ≠ 0)
theorem own_cells {H H' : Heap} {M F : List Nat} {x : Option Addr × Nat × Nat} {vs : List Value} (h : Cells H x.1 vs) (hx : Ext M H H') (hF : ∀ c ∈ ownM x, c ∈ F) (hM : ∀ c ∈ F, c ∉ M) : Cells H' x.1 vs :=
  h.ext hx fun a ha _ => hM _ (hF _ (by simp [ownM, ha]))
theorem InW.ext {H H' : Heap} {b : Nat} {F M : List Nat} {s : Rest} (h : InW H b F s) (hx : Ext M H H') (hb : b ∉ M) (hF : ∀ c ∈ F, c ∉ M) : InW H' b F s := by
  obtain ⟨x, e, h1, h2, h3, h4⟩ := h
  refine ⟨x, e, hx.get h1 hb, h2, h3, ?_⟩
  cases s with
  | none => exact h4
  | some R => exact ⟨h4.1, own_cells h4.2.1 hx h3 hF, h4.2.2⟩
theorem InW.lt {H : Heap} {b : Nat} {F : List Nat} {s : Rest} (h : InW H b F s) : b < H.size := by obtain ⟨x, e, h1, _⟩ := h; exact lt_of_get h1
theorem InW.no {H : Heap} {b : Nat} {F : List Nat} {s : Rest} (h : InW H b F s) : b ∉ F := by obtain ⟨x, e, _, h2, _⟩ := h; exact h2
theorem infail_c {w : World} {H : Heap} {b : Nat} {F : List Nat} {s : Rest} (code : Int) (hw : w.heap = H) (hI : InW H b F s) (hc : code ≠ 0) :
    CallF P F_wire_In_fail #[.pointer (some ⟨b, 0, none⟩), .int .i64 code] w fun e w' => e = .returned (.tuple #[]) ∧ InW w'.heap b F none ∧ Ext [b] H w'.heap := by
  obtain ⟨x, e, h1, h2, h3, _⟩ := hI
  refine fn_wire_In_fail ?_
  unfold T_wire_In_fail
  simp only [withAddr_some, add_none]
  refine stC_h hw h1 (by simp) fun w1 hw1 => ?_
  have hx1 : Ext [b] H w1.heap := by rw [hw1]; exact Ext.set _ (by simp)
  have hb1 : w1.heap[b]? = some (.cells #[slcV (none, 0, 0), .int .i64 e] y_wire_In (0, 0)) := by rw [hw1]; exact set_new h1
  refine stC_h rfl hb1 (by simp) fun w2 hw2 => ?_
  exact ⟨trivial, ⟨(none, 0, 0), code, by rw [hw2]; exact set_new hb1, h2, by simp [ownM], hc⟩, by rw [hw2]; exact hx1.set_own (.inr (by simp))⟩
/-- A row of bytes from its k-th byte on. -/
def cutX (x : Option Addr × Nat × Nat) (k : Nat) : Option Addr × Nat × Nat := (if x.2.2 = k then x.1 else x.1.map (·.add (k * 1)), x.2.1 - k, x.2.2 - k)
theorem own_cutX {x : Option Addr × Nat × Nat} {k : Nat} : ∀ c ∈ ownM (cutX x k), c ∈ ownM x := by
  obtain ⟨a, n, m⟩ := x
  intro c hc
  unfold cutX at hc
  simp only at hc
  split at hc
  · exact hc
  · cases a with
    | none => simp [ownM] at hc
    | some a =>
      have : (a.add k).block = a.block := by unfold Addr.add; split <;> rfl
      simpa [ownM, this] using hc
theorem cells_cutX {H : Heap} {x : Option Addr × Nat × Nat} {R : List UInt8} (h : Cells H x.1 (byteCells R)) (k : Nat) (hl : R.length ≤ x.2.2) : Cells H (cutX x k).1 (byteCells (R.drop k)) := by
  have := Cells.drop h k x.2.2 (by simpa using hl)
  rw [byteCells_drop] at this
  simpa only [cutX, Nat.mul_one] using this
/-- The next byte. -/
def nx : Rest → (Int × Bool) × Rest
  | some (c :: R) => (((c.toNat : Int), true), some R)
  | _ => ((0, false), none)
theorem next_c' {w : World} {H : Heap} {b : Nat} {F : List Nat} {s : Rest} (hw : w.heap = H) (hI : InW H b F s) :
    CallF P F_wire_In_next #[.pointer (some ⟨b, 0, none⟩)] w fun e w' => e = .returned (.tuple #[.int .u8 (nx s).1.1, .bool (nx s).1.2]) ∧ InW w'.heap b F (nx s).2 ∧ Ext [b] H w'.heap := by
  obtain ⟨x, e, h1, h2, h3, h4⟩ := id hI
  refine fn_wire_In_next ?_
  unfold T_wire_In_next
  refine joinP_in ?_
  refine iteP_f rfl ?_
  simp only [withAddr_some, add_none]
  refine ld_h (s := .int .i64) (t := e) hw h1 rfl ?_
  cases s with
  | none => exact iteP_ne (fun _ => ⟨rfl, by rw [hw]; exact hI, by rw [hw]; exact .refl _ _⟩) (fun h => absurd h h4)
  | some R =>
    obtain ⟨rfl, hC, hl, hcap, hlen⟩ := h4
    refine iteP_f rfl ?_
    refine ld_h (s := .slc) (t := x) hw h1 rfl ?_
    cases R with
    | nil =>
      refine iteP_t (by simp [hl]) ?_
      refine callF_of (infail_c 20 hw hI (by omega)) ?_
      rintro e w' ⟨rfl, h⟩
      exact ⟨(), rfl, rfl, h⟩
    | cons c R =>
      refine iteP_f (by simp [hl]; omega) ?_
      refine ld_h (s := .slc) (t := x) hw h1 rfl ?_
      obtain ⟨b2, o, cs, T, fr, hx1, hb2, ho, hby⟩ := hC.bytes (by simp)
      rw [hx1]
      refine ixS_1 0 rfl (by rw [hl]; simp) ?_
      refine ld_h (s := .int .u8) (t := (c.toNat : Int)) hw hb2 (by have := hby 0 (by simp); simp at this; exact this) ?_
      refine ld_h (s := .slc) (t := x) hw h1 rfl ?_
      refine genQ_of (s := .slc) (cutX x 1) (run_slice_slc uS8 sz8 (.yes rfl) .no (by rw [hl]; simp) hcap) ?_
      refine stC_h hw h1 (by simp) fun w1 hw1 => ?_
      have hx : Ext [b] H w1.heap := by rw [hw1]; exact Ext.set _ (by simp)
      have hown : ∀ d ∈ ownM (cutX x 1), d ∈ F := fun d hd => h3 d (own_cutX d hd)
      refine ⟨rfl, ⟨cutX x 1, 0, by rw [hw1]; exact set_new h1, h2, hown, rfl, ?_, by simp [cutX, hl], by simp only [cutX]; omega, by simp at hlen; omega⟩, hx⟩
      exact own_cells (cells_cutX hC 1 (by omega)) hx hown fun d hd h => by simp at h; subst h; exact h2 hd
theorem ofInt64_nat (m : Nat) : (BitVec.ofInt 64 (m : Int)).toNat = m % 18446744073709551616 := by
  rw [BitVec.toNat_ofInt]
  have : ((2 : Nat) ^ 64 : Nat) = 18446744073709551616 := by decide
  rw [this]; omega
theorem or64 {a b : Nat} {K : Int → Prop} (ha : a < 18446744073709551616) (hb : b < 18446744073709551616) (h : K ((a ||| b : Nat) : Int)) : orI .u64 (a : Int) (b : Int) K := by
  refine ⟨_, ?_, h⟩
  have e : (BitVec.ofInt IntKind.u64.bits (a : Int) ||| BitVec.ofInt IntKind.u64.bits (b : Int)).toNat = a ||| b := by
    show (BitVec.ofInt 64 (a : Int) ||| BitVec.ofInt 64 (b : Int)).toNat = a ||| b
    rw [BitVec.toNat_or, ofInt64_nat, ofInt64_nat, Nat.mod_eq_of_lt ha, Nat.mod_eq_of_lt hb]
  rw [e, wrap64_nat]
  have : a ||| b < 2 ^ 64 := Nat.or_lt_two_pow (by simpa using ha) (by simpa using hb)
  rw [Nat.mod_eq_of_lt (by simpa using this)]
theorem and127 (x : BitVec 8) : (x &&& 127#8).toNat = x.toNat % 128 := by
  revert x; decide
theorem and8 {c : UInt8} {K : Int → Prop} (h : K ((c.toNat % 128 : Nat) : Int)) : andI .u8 (c.toNat : Int) 127 K := by
  refine ⟨_, ?_, h⟩
  have e1 : BitVec.ofInt 8 (c.toNat : Int) = BitVec.ofNat 8 c.toNat := by
    apply BitVec.eq_of_toNat_eq
    simp
  show _ = IntKind.u8.wrap ((BitVec.ofInt 8 (c.toNat : Int) &&& BitVec.ofInt 8 127).toNat : Int)
  have e3 : BitVec.ofInt 8 127 = 127#8 := by decide
  rw [e1, e3, and127, wrap8_nat]
  have := c.toNat_lt
  simp only [BitVec.toNat_ofNat]
  omega
theorem pow128 (e : Nat) : 2 ^ (7 * e) = 128 ^ e := by rw [Nat.pow_mul]
/-- Seven bits more of a number that is read. -/
theorem more7 {c : UInt8} {e acc : Nat} (he : e ≤ 9) (ha : acc < 128 ^ e) (h9 : e = 9 → c.toNat ≤ 1) {i : Int} (hi : i = 7 * (e : Int)) {K : Int → Prop} (h : K ((acc + c.toNat % 128 * 128 ^ e : Nat) : Int)) :
    shlI .u64 ((c.toNat % 128 : Nat) : Int) i fun t => orI .u64 (acc : Int) t K := by
  have hc := c.toNat_lt
  have hp : 128 ^ e ≤ 128 ^ 9 := Nat.pow_le_pow_right (by omega) he
  have h128 : (128 : Nat) ^ 9 = 9223372036854775808 := by decide
  have hlt : c.toNat % 128 * 128 ^ e < 18446744073709551616 := by
    by_cases h : e = 9
    · subst h
      have := h9 rfl
      have h1 : c.toNat % 128 ≤ 1 := by omega
      calc c.toNat % 128 * 128 ^ 9 ≤ 1 * 128 ^ 9 := Nat.mul_le_mul_right _ h1
        _ < _ := by decide
    · have hp8 : 128 ^ e ≤ 128 ^ 8 := Nat.pow_le_pow_right (by omega) (by omega)
      calc c.toNat % 128 * 128 ^ e ≤ 127 * 128 ^ 8 := Nat.mul_le_mul (by omega) hp8
        _ < _ := by decide
  refine ⟨by omega, ((c.toNat % 128 * 128 ^ e : Nat) : Int), ?_, ?_⟩
  · have e1 : min i.toNat IntKind.u64.bits = 7 * e := by
      have : IntKind.u64.bits = 64 := rfl
      omega
    rw [e1]
    have e2 : ((c.toNat % 128 : Nat) : Int) * 2 ^ (7 * e) = ((c.toNat % 128 * 128 ^ e : Nat) : Int) := by
      rw [← pow128]; simp
    rw [e2, wrap_u64 (by omega) (by omega)]
  · refine or64 (by omega) hlt ?_
    have h2 : acc ||| c.toNat % 128 * 128 ^ e = acc + c.toNat % 128 * 128 ^ e := by
      rw [← pow128]
      have h3 := Nat.shiftLeft_add_eq_or_of_lt (i := 7 * e) (b := acc) (by rw [pow128]; exact ha) (c.toNat % 128)
      rw [Nat.shiftLeft_eq] at h3
      rw [Nat.or_comm, ← h3, Nat.add_comm]
    rw [h2]; exact h
/-- A number read, a flag, a text. -/
def nmS (s : Rest) : Nat × Rest := match s with | none => (0, none) | some R => match rdNum R with | none => (0, none) | some (n, R) => (n, some R)
def flS (s : Rest) : Bool × Rest := match s with | none => (false, none) | some R => match rdFlag R with | none => (false, none) | some (o, R) => (o, some R)
def txS (most : Nat) (s : Rest) : List UInt8 × Rest := match s with | none => ([], none) | some R => match rdText most R with | none => ([], none) | some (t, R) => (t, some R)
theorem inum_c {w : World} {H : Heap} {b : Nat} {F : List Nat} {s : Rest} (hw : w.heap = H) (hI : InW H b F s) :
    CallF P F_wire_In_Num #[.pointer (some ⟨b, 0, none⟩)] w fun e w' => e = .returned (.int .u64 ((nmS s).1 : Int)) ∧ InW w'.heap b F (nmS s).2 ∧ Ext [b] H w'.heap := by
  refine fn_wire_In_Num ?_
  unfold T_wire_In_Num
  cases s with
  | none =>
    refine loopP_of (fun (s : Int × Int) W => W = w) (fun _ _ => 0) rfl ?_
    rintro s W rfl
    refine joinP_in ?_
    refine callF_of (next_c' hw hI) ?_
    rintro e w' ⟨rfl, h⟩
    refine ⟨(0, false), rfl, ?_⟩
    exact iteP_t rfl ⟨rfl, h⟩
  | some R0 =>
  refine loopP_of (fun (s : Int × Int) W => ∃ (acc e : Nat) (R : List UInt8), s = ((acc : Int), (e : Int)) ∧ e ≤ 9 ∧ acc < 128 ^ e ∧ InW W.heap b F (some R) ∧ rdN e acc R = rdNum R0 ∧ Ext [b] H W.heap) (fun s _ => (10 - s.2).toNat)
    ⟨0, 0, R0, rfl, by omega, by simp, by rw [hw]; exact hI, rfl, by rw [hw]; exact .refl _ _⟩ ?_
  rintro _ W ⟨acc, e, R, rfl, he, hacc, hIW, hrd, hxW⟩
  refine joinP_in ?_
  refine callF_of (next_c' rfl hIW) ?_
  rintro e' w2 ⟨rfl, hI2, hx2⟩
  have hx02 := hxW.trans hx2
  cases R with
  | nil =>
    refine ⟨(0, false), rfl, ?_⟩
    refine iteP_t rfl ?_
    have : nmS (some R0) = (0, none) := by simp only [nmS, ← hrd, rdN]
    rw [this]
    exact ⟨rfl, hI2, hx02⟩
  | cons c R =>
    refine ⟨((c.toNat : Int), true), rfl, ?_⟩
    refine iteP_f rfl ?_
    have hbad : ((e = 9 ∧ 1 < c.toNat) ∨ (0 < e ∧ c.toNat = 0)) → callF P F_wire_In_fail #[(Value.pointer (some ⟨b, 0, none⟩)), (Value.int .i64 21)] [] true w2 fun (_ : Unit) w_3 =>
        Ending.returned (Value.int .u64 0) = .returned (.int .u64 ((nmS (some R0)).1 : Int)) ∧ InW w_3.heap b F (nmS (some R0)).2 ∧ Ext [b] H w_3.heap := by
      intro hb
      have : nmS (some R0) = (0, none) := by simp only [nmS, ← hrd, rdN, if_pos hb]
      rw [this]
      refine callF_of (infail_c 21 rfl hI2 (by omega)) ?_
      rintro e3 w3 ⟨rfl, h3, hx3⟩
      exact ⟨(), rfl, rfl, h3, hx02.trans hx3⟩
    refine joinP_of (fun _ W' => W' = w2 ∧ ¬ ((e = 9 ∧ 1 < c.toNat) ∨ (0 < e ∧ c.toNat = 0))) ?_ ?_
    · refine iteP_eq (fun h9 => ?_) (fun h9 => ?_)
      · refine iteP_dec (fun h1 => hbad (.inl ⟨by omega, by simp only at h1; omega⟩)) (fun h1 => ?_)
        refine iteP_dec (fun hp => ?_) (fun hp => ⟨rfl, by simp only at h1; omega⟩)
        exact iteP_eq (fun h0 => hbad (.inr ⟨by omega, by simp only at h0; omega⟩)) (fun h0 => ⟨rfl, by simp only at h0 h1; omega⟩)
      · refine iteP_dec (fun hp => ?_) (fun hp => ⟨rfl, by simp only at h9 hp; omega⟩)
        exact iteP_eq (fun h0 => hbad (.inr ⟨by simp only at hp; omega, by simp only at h0; omega⟩)) (fun h0 => ⟨rfl, by simp only at h0 h9; omega⟩)
    rintro _ W' ⟨rfl, hok⟩
    refine and8 ?_
    refine cvI_u64 (by omega) (by omega) ?_
    refine mulI_to (7 * (e : Int)) rfl (by omega) (by omega) ?_
    refine more7 he hacc (fun h => by omega) rfl ?_
    refine iteP_dec (fun h => ?_) (fun h => ?_)
    · have hc : c.toNat < 128 := by simp only at h; omega
      have : nmS (some R0) = (acc + c.toNat * 128 ^ e, some R) := by simp only [nmS, ← hrd, rdN, if_neg hok, if_pos hc]
      rw [this, Nat.mod_eq_of_lt hc]
      exact ⟨rfl, hI2, hx02⟩
    · have hc : ¬ c.toNat < 128 := by simp only at h; omega
      refine addI_to ((e + 1 : Nat) : Int) (by omega) (by omega) (by omega) ?_
      refine ⟨⟨_, e + 1, R, rfl, by omega, ?_, hI2, ?_, hx02⟩, by omega⟩
      · rw [Nat.pow_succ]
        have : c.toNat % 128 * 128 ^ e ≤ 127 * 128 ^ e := Nat.mul_le_mul_right _ (by omega)
        omega
      · rw [← hrd]; simp only [rdN, if_neg hok, if_neg hc]
theorem max0 (n : Nat) (w : World) : (Builtin.max_ #[y_int, y_int] y_int #[.int .i64 (n : Int), .int .i64 0]).run P w = .ok (.int .i64 (n : Int)) w := by
  rw [run_max_int2]
  congr 2
theorem iflag_c {w : World} {H : Heap} {b : Nat} {F : List Nat} {s : Rest} (hw : w.heap = H) (hI : InW H b F s) :
    CallF P F_wire_In_Flag #[.pointer (some ⟨b, 0, none⟩)] w fun e w' => e = .returned (.bool (flS s).1) ∧ InW w'.heap b F (flS s).2 ∧ Ext [b] H w'.heap := by
  refine fn_wire_In_Flag ?_
  unfold T_wire_In_Flag
  refine callF_of (next_c' hw hI) ?_
  rintro e w1 ⟨rfl, h1, hx1⟩
  refine ⟨(nx s).1, rfl, ?_⟩
  refine joinP_in ?_
  cases s with
  | none => exact iteP_f rfl ⟨rfl, h1, hx1⟩
  | some R =>
  cases R with
  | nil => exact iteP_f rfl ⟨rfl, h1, hx1⟩
  | cons c R =>
    refine iteP_t rfl ?_
    refine iteP_dec (fun h => ?_) (fun h => ?_)
    · have hc : 1 < c.toNat := by simp only [nx] at h; omega
      have : flS (some (c :: R)) = (false, none) := by simp only [flS, rdFlag, if_pos hc]
      rw [this]
      refine callF_of (infail_c 21 rfl h1 (by omega)) ?_
      rintro e3 w3 ⟨rfl, h3, hx3⟩
      exact ⟨(), rfl, rfl, h3, hx1.trans hx3⟩
    · have hc : ¬ 1 < c.toNat := by simp only [nx] at h; omega
      have : flS (some (c :: R)) = (decide (c.toNat = 1), some R) := by simp only [flS, rdFlag, if_neg hc]
      rw [this]
      refine ⟨?_, h1, hx1⟩
      simp only [nx]
      congr 2
      rw [Bool.eq_iff_iff]
      simp
      omega
theorem itake_c {w : World} {H : Heap} {b : Nat} {F : List Nat} {R : List UInt8} {n : Nat} (hw : w.heap = H) (hI : InW H b F (some R)) (hn : n ≤ 9223372036854775807) :
    CallF P F_wire_In_take #[.pointer (some ⟨b, 0, none⟩), .int .i64 (n : Int)] w fun e w' => Ext [b] H w'.heap ∧ ((R.length < n ∧ e = .returned (.slice none 0 0) ∧ InW w'.heap b F none) ∨
      (n ≤ R.length ∧ ∃ y, e = .returned (slcV y) ∧ Cells w'.heap y.1 (byteCells (R.take n)) ∧ y.2.1 = n ∧ (∀ c ∈ ownM y, c ∈ F) ∧ InW w'.heap b F (some (R.drop n)))) := by
  obtain ⟨x, e, h1, h2, h3, rfl, hC, hl, hcap, hlen⟩ := id hI
  refine fn_wire_In_take ?_
  unfold T_wire_In_take
  refine joinP_in ?_
  refine iteP_f rfl ?_
  simp only [withAddr_some, add_none]
  refine ld_h (s := .int .i64) (t := 0) hw h1 rfl ?_
  refine iteP_f rfl ?_
  refine ld_h (s := .slc) (t := x) hw h1 rfl ?_
  refine iteP_dec (fun h => ?_) (fun h => ?_)
  · refine callF_of (infail_c 20 hw hI (by omega)) ?_
    rintro e3 w3 ⟨rfl, h3, hx3⟩
    exact ⟨(), rfl, hx3, .inl ⟨by omega, trivial, h3⟩⟩
  · have hnl : n ≤ R.length := by omega
    refine ld_h (s := .slc) (t := x) hw h1 rfl ?_
    refine genQ_of (s := .slc) (if x.2.2 = 0 then x.1 else x.1.map (·.add (0 * 1)), n - 0, x.2.2 - 0) (run_slice_slc uS8 sz8 .no (.yes rfl) (Nat.zero_le _) (by omega)) ?_
    refine ld_h (s := .slc) (t := x) hw h1 rfl ?_
    refine genQ_of (s := .slc) (cutX x n) (run_slice_slc uS8 sz8 (.yes rfl) .no (by omega) hcap) ?_
    refine stC_h hw h1 (by simp) fun w1 hw1 => ?_
    have hx : Ext [b] H w1.heap := by rw [hw1]; exact Ext.set _ (by simp)
    have hFb : ∀ c ∈ F, c ∉ [b] := fun d hd h => by simp at h; subst h; exact h2 hd
    have hown : ∀ d ∈ ownM (cutX x n), d ∈ F := fun d hd => h3 d (own_cutX d hd)
    have hy : ((if x.2.2 = 0 then x.1 else x.1.map (·.add (0 * 1)), n - 0, x.2.2 - 0) : Option Addr × Nat × Nat).1 = x.1 := by
      simp only
      split
      · rfl
      · cases x.1 with
        | none => rfl
        | some a => simp [Addr.add]
    refine ⟨hx, .inr ⟨hnl, (if x.2.2 = 0 then x.1 else x.1.map (·.add (0 * 1)), n - 0, x.2.2 - 0), rfl, ?_, by simp, ?_, ⟨cutX x n, 0, by rw [hw1]; exact set_new h1, h2, hown, rfl, ?_, by simp [cutX, hl], by simp only [cutX]; omega, by simp; omega⟩⟩⟩
    · rw [hy, ← byteCells_take]
      exact own_cells (hC.take n) hx h3 hFb
    · intro c hc
      refine h3 c ?_
      unfold ownM at hc ⊢
      rw [hy] at hc; exact hc
    · exact own_cells (cells_cutX hC n (by omega)) hx hown hFb
theorem itext_c {w : World} {H : Heap} {b : Nat} {F : List Nat} {s : Rest} {most : Nat} (hw : w.heap = H) (hI : InW H b F s) (hm : most ≤ 1073741824) :
    CallF P F_wire_In_Text #[.pointer (some ⟨b, 0, none⟩), .int .i64 (most : Int)] w fun e w' => e = .returned (.string (strOf (txS most s).1)) ∧ InW w'.heap b F (txS most s).2 ∧ Ext [b] H w'.heap := by
  refine fn_wire_In_Text ?_
  unfold T_wire_In_Text
  refine callF_of (inum_c hw hI) ?_
  rintro e w1 ⟨rfl, h1, hx1⟩
  refine ⟨((nmS s).1 : Int), rfl, ?_⟩
  refine joinP_of (fun _ W => W = w1 ∧ ∃ R, (nmS s).2 = some R) ?_ ?_
  · refine iteP_f rfl ?_
    obtain ⟨x, e, g1, g2, g3, g4⟩ := id h1
    simp only [withAddr_some, add_none]
    refine ld_h (s := .int .i64) (t := e) rfl g1 rfl ?_
    cases hs : (nmS s).2 with
    | none =>
      rw [hs] at g4 h1
      have : txS most s = ([], none) := by
        cases s with
        | none => rfl
        | some R =>
          simp only [nmS] at hs
          simp only [txS, rdText]
          cases h : rdNum R with
          | none => rfl
          | some y => rw [h] at hs; simp at hs
      rw [this]
      refine iteP_ne (fun _ => ⟨rfl, h1, hx1⟩) (fun h => absurd h g4)
    | some R =>
      rw [hs] at g4
      exact iteP_f (by rw [g4.1]; rfl) ⟨trivial, R, rfl⟩
  rintro _ W ⟨hW, R, hR⟩
  subst hW
  obtain ⟨R0, rfl, hn⟩ : ∃ R0, s = some R0 ∧ rdNum R0 = some ((nmS s).1, R) := by
    cases s with
    | none => simp [nmS] at hR
    | some R0 =>
      refine ⟨R0, rfl, ?_⟩
      simp only [nmS] at hR ⊢
      cases h : rdNum R0 with
      | none => rw [h] at hR; simp at hR
      | some y => rw [h] at hR; simp at hR ⊢; rw [← hR]
  rw [hR] at h1
  have hlt := (rdNum_back hn).2
  generalize (nmS (some R0)).1 = n at hn hlt
  refine genQ_of (s := .int .i64) (most : Int) (max0 most W) ?_
  refine cvI_u64 (by omega) (by omega) ?_
  refine iteP_dec (fun h => ?_) (fun h => ?_)
  · have : txS most (some R0) = ([], none) := by simp only [txS, rdText, hn]; rw [if_pos (by omega)]
    rw [this]
    refine callF_of (infail_c 2 rfl h1 (by omega)) ?_
    rintro e3 w3 ⟨rfl, h3, hx3⟩
    exact ⟨(), rfl, rfl, h3, hx1.trans hx3⟩
  · refine cvI_i64 (by omega) (by omega) ?_
    refine callF_of (itake_c rfl h1 (by omega)) ?_
    rintro e3 w3 ⟨hx3, ⟨hl, rfl, h3⟩ | ⟨hl, y, rfl, hC, hy, ho, h3⟩⟩
    · refine ⟨(none, 0, 0), rfl, ?_⟩
      have : txS most (some R0) = ([], none) := by simp only [txS, rdText, hn]; rw [if_pos (by omega)]
      rw [this]
      refine genQ_of (s := .str) (strOf []) (convS_h uS8 u8 uStr rfl (L := []) (.inl rfl) rfl) ?_
      exact ⟨rfl, h3, hx1.trans hx3⟩
    · refine ⟨y, rfl, ?_⟩
      have : txS most (some R0) = (R.take n, some (R.drop n)) := by simp only [txS, rdText, hn]; rw [if_neg (by omega)]
      rw [this]
      refine genQ_of (s := .str) (strOf (R.take n)) (convS_h uS8 u8 uStr rfl hC (by rw [hy]; simp; omega)) ?_
      exact ⟨rfl, h3, hx1.trans hx3⟩
theorem ierr_c {w : World} {H : Heap} {b : Nat} {F : List Nat} {s : Rest} (hw : w.heap = H) (hI : InW H b F s) :
    CallF P F_wire_In_Err #[.pointer (some ⟨b, 0, none⟩)] w fun e w' => (∃ c : Int, e = .returned (.int .i64 c) ∧ (c = 0 ↔ s.isSome = true)) ∧ w' = w := by
  obtain ⟨x, e, h1, h2, h3, h4⟩ := id hI
  refine fn_wire_In_Err ?_
  unfold T_wire_In_Err
  refine iteP_f rfl ?_
  simp only [withAddr_some, add_none]
  refine ld_h (s := .int .i64) (t := e) hw h1 rfl ?_
  refine ⟨⟨e, rfl, ?_⟩, trivial⟩
  cases s with
  | none => simpa using h4
  | some R => simp [h4.1]
theorem iend_c {w : World} {H : Heap} {b : Nat} {F : List Nat} {s : Rest} (hw : w.heap = H) (hI : InW H b F s) :
    CallF P F_wire_In_End #[.pointer (some ⟨b, 0, none⟩)] w fun e w' => e = .returned (.bool (decide (s = some []))) ∧ w' = w := by
  obtain ⟨x, e, h1, h2, h3, h4⟩ := id hI
  refine fn_wire_In_End ?_
  unfold T_wire_In_End
  refine iteP_t rfl ?_
  simp only [withAddr_some, add_none]
  refine ld_h (s := .int .i64) (t := e) hw h1 rfl ?_
  cases s with
  | none => exact iteP_eq (fun h => absurd h h4) (fun _ => ⟨by simp, trivial⟩)
  | some R =>
    refine iteP_t (by rw [h4.1]; rfl) ?_
    refine ld_h (s := .slc) (t := x) hw h1 rfl ?_
    refine ⟨?_, trivial⟩
    congr 2
    rw [h4.2.2.1, Bool.eq_iff_iff]
    simp
theorem bIn (x : Option Addr × Nat × Nat) (w : World) : (Instr.build y_wire_In #[(0, .slice x.1 x.2.1 x.2.2)]).run P w = .ok (.agg #[slcV x, .int .i64 0]) w := by kernel_rfl
theorem read_c {w : World} {H : Heap} {a : Option Addr} {n nc : Nat} {L : List UInt8} (hw : w.heap = H) (hL : Cells H a (byteCells L)) (hn : n = L.length) (hl : L.length ≤ 1099511627776) :
    CallF P F_wire_Read #[.slice a n nc] w fun e w' => ∃ b F, e = .returned (.pointer (some ⟨b, 0, none⟩)) ∧ InW w'.heap b F (some L) ∧ Ext [] H w'.heap ∧ H.size ≤ b ∧ (∀ c ∈ F, H.size ≤ c) ∧ b < w'.heap.size ∧ ∀ c ∈ F, c < w'.heap.size := by
  subst hn
  refine fn_wire_Read ?_
  unfold T_wire_Read
  refine append_g (x := (none, 0, 0)) (vs := []) (B := H.size) E8 (by omega) uS8 (slice_noint uS8) hw (.inl ⟨rfl, rfl⟩) (Nat.le_refl _) (Src.slc hw hL (by simp)) one_byteCells (by simp only; omega) ?_
  intro y w1 hm hl1 hx hs
  have hxn : Ext [] H w1.heap := hx.mono (by simp [ownM])
  refine genQ_of (s := .any) _ (bIn y _) ?_
  refine newB_h rfl fun w2 hw2 => ?_
  have hx2 : Ext [] w1.heap w2.heap := by rw [hw2]; exact .push _
  have hb2 : w2.heap[w1.heap.size]? = some (.cells #[slcV y, .int .i64 0] y_wire_In (0, 0)) := by rw [hw2]; exact push_new
  have hylt : ∀ c ∈ ownM y, c < w1.heap.size := by
    intro c hc
    rcases hm with ⟨hx1, _⟩ | ⟨b', c', hx1, _, hb', _⟩
    · simp [ownM, hx1] at hc
    · simp [ownM, hx1] at hc
      subst hc
      exact lt_of_get hb'
  have hyl : y.2.1 = L.length := by have := hm.len; simp at this; omega
  have hs1 := hxn.1
  have hs2 := hx2.1
  refine ⟨w1.heap.size, ownM y, rfl, ⟨y, 0, hb2, fun h => by have := hylt _ h; omega, fun c hc => hc, rfl, ?_, hyl, ?_, by omega⟩, hxn.trans hx2, by omega, fun c hc => ownM_ge hm c hc, lt_of_get hb2, fun c hc => by have := hylt c hc; omega⟩
  · have := hm.cells
    rw [List.nil_append] at this
    exact this.ext hx2 (by simp)
  · rcases hm with ⟨hx1, hv⟩ | ⟨_, _, _, _, _, _, _, h, _⟩
    · rw [hx1]; exact Nat.le_refl _
    · exact h
end Go.Proofs.YtbmegmbnlajbbaaGreat
