/- Bytes are made and read: the reference's. -/
import Derived.Test.YtbmegmbnlajbbaaGreatWg
import Derived.Test.YtbmegmbnlajbbaaGreatTe
namespace Go.Proofs.YtbmegmbnlajbbaaGreat
open Go Go.Fw Go.Proofs

theorem rem128 {k : Nat} {K : Int → Prop} (h : K ((k % 128 : Nat) : Int)) : remI (k : Int) 128 K := remI_n k 128 rfl rfl (by omega) h
theorem add128 {k : Nat} {K : Int → Prop} (hk : k < 128) (h : K ((k + 128 : Nat) : Int)) : addI .u64 (k : Int) 128 K := by
  refine ⟨_, ?_, h⟩
  rw [wrap_u64 (by omega) (by omega)]; omega
theorem quo128 {k : Nat} {K : Int → Prop} (hk : k < 18446744073709551616) (h : K ((k / 128 : Nat) : Int)) : quoI .u64 (k : Int) 128 K := by
  refine ⟨by omega, _, ?_, h⟩
  rw [Int.tdiv_eq_ediv_of_nonneg (by omega), wrap_u64 (by omega) (by omega)]
  omega
theorem cvByte {m : Nat} {K : Int → Prop} (hm : m < 256) (h : K ((UInt8.ofNat m).toNat : Int)) : cvI .u8 (m : Int) K := cv8 h
theorem r2num_c {w : World} {H : Heap} {n : Nat} (hw : w.heap = H) (hn : n < 18446744073709551616) :
    CallF P F_r02_Num #[.int .u64 (n : Int)] w fun e w' => ∃ y, e = .returned (slcV y) ∧ Mine w'.heap H.size y_uint8 1 y (byteCells (numB n)) ∧ Ext [] H w'.heap := by
  have hnl := numB_len64 hn
  refine fn_r02_Num ?_
  unfold T_r02_Num
  refine loopP_of (fun (s : Int × (Option Addr × Nat × Nat)) W => ∃ (k : Nat) (M : List UInt8), s.1 = (k : Int) ∧ k < 18446744073709551616 ∧ Mine W.heap H.size y_uint8 1 s.2 (byteCells M) ∧ Ext [] H W.heap ∧ M ++ numB k = numB n) (fun s _ => s.1.toNat)
    ⟨n, [], rfl, hn, .inl ⟨rfl, rfl⟩, by rw [hw]; exact .refl _ _, rfl⟩ ?_
  rintro ⟨_, x⟩ W ⟨k, M, rfl, hk, hm, hx, hM⟩
  have hMl : M.length ≤ 10 := by have := congrArg List.length hM; simp at this; omega
  have hs := hx.1
  refine iteP_dec (fun h => ?_) (fun h => ?_)
  · have hk1 : 127 < k := by simp only at h; omega
    refine rem128 ?_
    refine add128 (by omega) ?_
    refine cvByte (by omega) ?_
    refine one8 _ rfl rfl fun w2 hx2 hm2 => ?_
    refine app8 rfl (hm.ext hx2 (by simp)) (by have := hx2.1; omega) hm2.cells rfl (by simp; omega) fun x3 w3 hm3 hx3 hs3 => ?_
    refine quo128 hk ?_
    refine ⟨⟨k / 128, M ++ [UInt8.ofNat (k % 128 + 128)], rfl, by omega, hm3, own_new (hx.trans hx2) (hm.ext hx2 (by simp)) (Nat.le_refl _) hx3, by rw [← hM, numB_high hk1]; simp⟩, by simp only; omega⟩
  · have hk1 : k ≤ 127 := by simp only at h; omega
    refine cvByte (by omega) ?_
    refine one8 _ rfl rfl fun w2 hx2 hm2 => ?_
    refine app8 rfl (hm.ext hx2 (by simp)) (by have := hx2.1; omega) hm2.cells rfl (by simp; omega) fun x3 w3 hm3 hx3 hs3 => ?_
    rw [show M ++ [UInt8.ofNat k] = numB n by rw [← hM, numB_low hk1]] at hm3
    exact ⟨x3, rfl, hm3, own_new (hx.trans hx2) (hm.ext hx2 (by simp)) (Nat.le_refl _) hx3⟩
theorem r2text_c {w : World} {H : Heap} (L : List UInt8) (hw : w.heap = H) (hL : L.length ≤ 549755813888) :
    CallF P F_r02_Text #[.string (strOf L)] w fun e w' => ∃ y, e = .returned (slcV y) ∧ Mine w'.heap H.size y_uint8 1 y (byteCells (textB L)) ∧ Ext [] H w'.heap := by
  refine fn_r02_Text ?_
  unfold T_r02_Text
  have hnl := numB_len64 (n := L.length) (by omega)
  refine cvI_u64 (by omega) (by simp; omega) ?_
  refine callF_of (r2num_c (n := L.length) hw (by omega)) ?_
  rintro e w1 ⟨y, rfl, hm1, hx1⟩
  refine ⟨y, rfl, ?_⟩
  refine app8s rfl hm1 (by have := hx1.1; omega) (by omega) fun x2 w2 hm2 hx2 hs2 => ?_
  exact ⟨x2, rfl, hm2, own_new hx1 hm1 (Nat.le_refl _) hx2⟩
theorem r2flag_c {w : World} {H : Heap} (o : Bool) (hw : w.heap = H) :
    CallF P F_r02_Flag #[.bool o] w fun e w' => ∃ y, e = .returned (slcV y) ∧ Mine w'.heap H.size y_uint8 1 y (byteCells (flagB o)) ∧ Ext [] H w'.heap := by
  refine fn_r02_Flag ?_
  unfold T_r02_Flag
  cases o with
  | true =>
    refine iteP_t rfl ?_
    refine one8 1 rfl hw fun w2 hx2 hm2 => ?_
    have : flagB true = [1] := by simp [flagB, numB_low]
    rw [this]
    exact ⟨_, rfl, hm2, hx2⟩
  | false =>
    refine iteP_f rfl ?_
    refine one8 0 rfl hw fun w2 hx2 hm2 => ?_
    have : flagB false = [0] := by simp [flagB, numB_low]
    rw [this]
    exact ⟨_, rfl, hm2, hx2⟩
theorem own_cells' {H H' : Heap} {M F : List Nat} {x : Option Addr × Nat × Nat} {B : List UInt8} (h : Cells H x.1 (byteCells B)) (hx : Ext M H H') (hF : B ≠ [] → ∀ c ∈ ownM x, c ∈ F) (hM : ∀ c ∈ F, c ∉ M) : Cells H' x.1 (byteCells B) :=
  h.ext hx fun a ha hne => hM _ (hF (fun h0 => hne (by rw [h0]; rfl)) _ (by simp [ownM, ha]))
/-- The reference's reader. -/
def RInW (H : Heap) (b : Nat) (F : List Nat) (s : Rest) : Prop := ∃ (x : Option Addr × Nat × Nat) (i : Nat) (e : Int) (B : List UInt8), H[b]? = some (.cells #[slcV x, .int .i64 (i : Int), .int .i64 e] y_r02_In (0, 0)) ∧ b ∉ F ∧ (B ≠ [] → ∀ c ∈ ownM x, c ∈ F) ∧
  Cells H x.1 (byteCells B) ∧ x.2.1 = B.length ∧ x.2.1 ≤ x.2.2 ∧ B.length ≤ 1099511627776 ∧ i ≤ B.length ∧ (match s with | some R => e = 0 ∧ R = B.drop i | none => e ≠ 0)
theorem RInW.ext {H H' : Heap} {b : Nat} {F M : List Nat} {s : Rest} (h : RInW H b F s) (hx : Ext M H H') (hb : b ∉ M) (hF : ∀ c ∈ F, c ∉ M) : RInW H' b F s := by
  obtain ⟨x, i, e, B, h1, h2, h3, h4, h5⟩ := h
  exact ⟨x, i, e, B, hx.get h1 hb, h2, h3, own_cells' h4 hx h3 hF, h5⟩
theorem RInW.lt {H : Heap} {b : Nat} {F : List Nat} {s : Rest} (h : RInW H b F s) : b < H.size := by obtain ⟨x, i, e, B, h1, _⟩ := h; exact lt_of_get h1
theorem RInW.no {H : Heap} {b : Nat} {F : List Nat} {s : Rest} (h : RInW H b F s) : b ∉ F := by obtain ⟨x, i, e, B, _, h2, _⟩ := h; exact h2
theorem bad_c {w : World} {H : Heap} {b : Nat} {F : List Nat} {s : Rest} (code : Int) (hw : w.heap = H) (hI : RInW H b F s) (hc : code ≠ 0) :
    CallF P F_r02_In_bad #[.pointer (some ⟨b, 0, none⟩), .int .i64 code] w fun e w' => e = .returned (.tuple #[]) ∧ RInW w'.heap b F none ∧ Ext [b] H w'.heap := by
  obtain ⟨x, i, e, B, h1, h2, h3, h4, h5, h6, h7, h8, _⟩ := hI
  refine fn_r02_In_bad ?_
  unfold T_r02_In_bad
  simp only [withAddr_some, add_none]
  refine stC_h hw h1 (by simp) fun w1 hw1 => ?_
  have hx1 : Ext [b] H w1.heap := by rw [hw1]; exact Ext.set _ (by simp)
  have hb1 : w1.heap[b]? = some (.cells #[slcV x, .int .i64 (i : Int), .int .i64 code] y_r02_In (0, 0)) := by rw [hw1]; exact set_new h1
  refine ld_h (s := .slc) (t := x) rfl hb1 rfl ?_
  refine stC_h rfl hb1 (by simp) fun w2 hw2 => ?_
  have hx2 : Ext [b] H w2.heap := by rw [hw2]; exact hx1.set_own (.inr (by simp))
  refine ⟨trivial, ⟨x, B.length, code, B, by rw [hw2, ← h5]; exact set_new hb1, h2, h3, own_cells' h4 hx2 h3 fun c hc h => by simp at h; subst h; exact h2 hc, h5, h6, h7, Nat.le_refl _, hc⟩, hx2⟩
theorem left_c {w : World} {H : Heap} {b : Nat} {F : List Nat} {R : List UInt8} (hw : w.heap = H) (hI : RInW H b F (some R)) :
    CallF P F_r02_In_Left #[.pointer (some ⟨b, 0, none⟩)] w fun e w' => e = .returned (.int .i64 (R.length : Int)) ∧ w'.heap = H := by
  obtain ⟨x, i, e, B, h1, h2, h3, h4, h5, h6, h7, h8, rfl, rfl⟩ := hI
  refine fn_r02_In_Left ?_
  unfold T_r02_In_Left
  refine drewP_h hw fun w1 hw1 => ?_
  simp only [withAddr_some, add_none]
  refine ld_h (s := .slc) (t := x) hw1 h1 rfl ?_
  refine ld_h (s := .int .i64) (t := (i : Int)) hw1 h1 rfl ?_
  refine subI_to (((B.drop i).length : Nat) : Int) (by simp; omega) (by omega) (by simp; omega) ?_
  exact ⟨rfl, hw1⟩
/-- One byte further. -/
theorem radv {W : World} {b : Nat} {F : List Nat} {c : UInt8} {R : List UInt8} {K : Int → World → Prop} (hI : RInW W.heap b F (some (c :: R))) (hK : ∀ w', RInW w'.heap b F (some R) → Ext [b] W.heap w'.heap → K (c.toNat : Int) w') :
    drewP W fun w_4 => ld .slc (⟨b, 0, none⟩ : Addr) w_4 fun (t30 : (Option Addr × Nat × Nat)) => ld (.int .i64) (⟨b, 0 + 1, none⟩ : Addr) w_4 fun (t34 : Int) => ixS t30.1 t30.2.1 1 t34 fun t35 => ld (.int .u8) t35 w_4 fun (t36 : Int) =>
      ld (.int .i64) (⟨b, 0 + 1, none⟩ : Addr) w_4 fun (t40 : Int) => addI .i64 t40 1 fun t41 => stC (⟨b, 0 + 1, none⟩ : Addr) (Value.int .i64 t41) w_4 fun w_5 => K t36 w_5 := by
  obtain ⟨x, i, e, B, h1, h2, h3, h4, h5, h6, h7, h8, rfl, hR⟩ := hI
  have hlen : i < B.length := by have := congrArg List.length hR; simp at this; omega
  have hget : B.getD i 0 = c := by
    have h := congrArg List.head? hR
    rw [List.head?_drop] at h
    simp at h
    simp [List.getD_eq_getElem?_getD, ← h]
  have hdrop : R = B.drop (i + 1) := by
    have h := congrArg List.tail hR
    simpa using h
  refine drewP_h rfl fun w1 hw1 => ?_
  refine ld_h (s := .slc) (t := x) hw1 h1 rfl ?_
  refine ld_h (s := .int .i64) (t := (i : Int)) hw1 h1 rfl ?_
  obtain ⟨b2, o, cs, T, fr, hx1, hb2, ho, hby⟩ := h4.bytes (by intro h; rw [h] at hlen; simp at hlen)
  rw [hx1]
  refine ixS_1 i rfl (by omega) ?_
  refine ld_h (s := .int .u8) (t := (c.toNat : Int)) hw1 hb2 (by have := hby i hlen; simp only [hget] at this; exact this) ?_
  refine ld_h (s := .int .i64) (t := (i : Int)) hw1 h1 rfl ?_
  refine addI_to ((i + 1 : Nat) : Int) (by omega) (by omega) (by omega) ?_
  refine stC_h hw1 h1 (by simp) fun w2 hw2 => ?_
  have hx : Ext [b] W.heap w2.heap := by rw [hw2]; exact Ext.set _ (by simp)
  exact hK w2 ⟨x, i + 1, 0, B, by rw [hw2]; exact set_new h1, h2, h3, own_cells' h4 hx h3 fun d hd h => by simp at h; subst h; exact h2 hd, h5, h6, h7, by omega, rfl, hdrop⟩ hx
/-- Is anything left? -/
theorem rchk {W : World} {b : Nat} {F : List Nat} {R : List UInt8} {A B : World → Prop} (hI : RInW W.heap b F (some R)) (hA : R = [] → ∀ w', w'.heap = W.heap → A w') (hB : R ≠ [] → ∀ w', w'.heap = W.heap → B w') :
    drewP W fun w_2 => ld (.int .i64) (⟨b, 0 + 1, none⟩ : Addr) w_2 fun (t18 : Int) => ld .slc (⟨b, 0, none⟩ : Addr) w_2 fun (t22 : (Option Addr × Nat × Nat)) => iteP (decide (t18 ≥ (t22.2.1 : Int))) (A w_2) (B w_2) := by
  obtain ⟨x, i, e, B', h1, h2, h3, h4, h5, h6, h7, h8, rfl, rfl⟩ := hI
  refine drewP_h rfl fun w1 hw1 => ?_
  refine ld_h (s := .int .i64) (t := (i : Int)) hw1 h1 rfl ?_
  refine ld_h (s := .slc) (t := x) hw1 h1 rfl ?_
  refine iteP_dec (fun h => hA (List.drop_eq_nil_of_le (by omega)) w1 hw1) (fun h => hB (fun h0 => ?_) w1 hw1)
  have := congrArg List.length h0
  simp at this; omega
theorem RInW.err {H : Heap} {b : Nat} {F : List Nat} {s : Rest} (h : RInW H b F s) : ∃ (e : Int), (∀ {w : World} {K : Int → Prop}, w.heap = H → K e → ld (.int .i64) (⟨b, 0 + 2, none⟩ : Addr) w K) ∧ (e = 0 ↔ s.isSome = true) := by
  obtain ⟨x, i, e, B, h1, _, _, _, _, _, _, _, h9⟩ := h
  refine ⟨e, fun hw hK => ld_h (s := .int .i64) (t := e) hw h1 rfl hK, ?_⟩
  cases s with
  | none => simpa using h9
  | some R => simp [h9.1]
theorem rnum_c {w : World} {H : Heap} {b : Nat} {F : List Nat} {s : Rest} (hw : w.heap = H) (hI : RInW H b F s) :
    CallF P F_r02_In_Num #[.pointer (some ⟨b, 0, none⟩)] w fun e w' => e = .returned (.int .u64 ((nmS s).1 : Int)) ∧ RInW w'.heap b F (nmS s).2 ∧ Ext [b] H w'.heap := by
  obtain ⟨ec, hld, hec⟩ := hI.err
  refine fn_r02_In_Num ?_
  unfold T_r02_In_Num
  simp only [withAddr_some, add_none]
  refine hld hw ?_
  cases s with
  | none => exact iteP_ne (fun _ => ⟨rfl, by rw [hw]; exact hI, by rw [hw]; exact .refl _ _⟩) (fun h => by have := hec.1 h; simp at this)
  | some R0 =>
  refine iteP_f (by rw [hec.2 rfl]; rfl) ?_
  refine loopP_of (fun (s : Int × Int) W => ∃ (acc e : Nat) (R : List UInt8), s = ((acc : Int), (e : Int)) ∧ e ≤ 9 ∧ acc < 128 ^ e ∧ RInW W.heap b F (some R) ∧ rdN e acc R = rdNum R0 ∧ Ext [b] H W.heap) (fun s _ => (10 - s.2).toNat)
    ⟨0, 0, R0, rfl, by omega, by simp, by rw [hw]; exact hI, rfl, by rw [hw]; exact .refl _ _⟩ ?_
  rintro _ W ⟨acc, e, R, rfl, he, hacc, hIW, hrd, hxW⟩
  refine iteP_t (by simp; omega) ?_
  refine joinP_in ?_
  refine rchk hIW (fun h w2 hw2 => ?_) (fun h w2 hw2 => ?_)
  · subst h
    have : nmS (some R0) = (0, none) := by simp only [nmS, ← hrd, rdN]
    rw [this]
    refine callF_of (bad_c 20 hw2 hIW (by omega)) ?_
    rintro e3 w3 ⟨rfl, h3, hx3⟩
    exact ⟨(), rfl, rfl, h3, hxW.trans hx3⟩
  cases R with
  | nil => exact absurd rfl h
  | cons c R =>
  have hIW2 : RInW w2.heap b F (some (c :: R)) := by rw [hw2]; exact hIW
  refine radv hIW2 fun w5 hI5 hx25 => ?_
  have hx5 : Ext [b] H w5.heap := hxW.trans (by rw [← hw2]; exact hx25)
  have hc256 := c.toNat_lt
  have hbad : ((e = 9 ∧ 1 < c.toNat) ∨ (0 < e ∧ c.toNat = 0)) → callF P F_r02_In_bad #[(Value.pointer (some ⟨b, 0, none⟩)), (Value.int .i64 21)] [] true w5 fun (_ : Unit) w_3 =>
      Ending.returned (Value.int .u64 0) = .returned (.int .u64 ((nmS (some R0)).1 : Int)) ∧ RInW w_3.heap b F (nmS (some R0)).2 ∧ Ext [b] H w_3.heap := by
    intro hb
    have : nmS (some R0) = (0, none) := by simp only [nmS, ← hrd, rdN, if_pos hb]
    rw [this]
    refine callF_of (bad_c 21 rfl hI5 (by omega)) ?_
    rintro e3 w3 ⟨rfl, h3, hx3⟩
    exact ⟨(), rfl, rfl, h3, hx5.trans hx3⟩
  refine joinP_of (fun _ W' => W' = w5 ∧ ¬ ((e = 9 ∧ 1 < c.toNat) ∨ (0 < e ∧ c.toNat = 0))) ?_ ?_
  · refine iteP_eq (fun h9 => ?_) (fun h9 => ?_)
    · refine iteP_dec (fun h1 => hbad (.inl ⟨by omega, by omega⟩)) (fun h1 => ?_)
      refine iteP_dec (fun hp => ?_) (fun hp => ⟨rfl, by omega⟩)
      exact iteP_eq (fun h0 => hbad (.inr ⟨by omega, by omega⟩)) (fun h0 => ⟨rfl, by omega⟩)
    · refine iteP_dec (fun hp => ?_) (fun hp => ⟨rfl, by simp only at h9 hp; omega⟩)
      exact iteP_eq (fun h0 => hbad (.inr ⟨by simp only at hp; omega, by omega⟩)) (fun h0 => ⟨rfl, by simp only at h9; omega⟩)
  rintro _ W' ⟨rfl, hok⟩
  refine rem128 ?_
  refine cvI_u64 (by omega) (by omega) ?_
  refine mulI_to (7 * (e : Int)) rfl (by omega) (by omega) ?_
  refine cvI_u64 (by omega) (by omega) ?_
  refine more7 he hacc (fun h => by omega) rfl ?_
  refine iteP_dec (fun h => ?_) (fun h => ?_)
  · have hc : c.toNat < 128 := by omega
    have : nmS (some R0) = (acc + c.toNat * 128 ^ e, some R) := by simp only [nmS, ← hrd, rdN, if_neg hok, if_pos hc]
    rw [this, Nat.mod_eq_of_lt hc]
    exact ⟨rfl, hI5, hx5⟩
  · have hc : ¬ c.toNat < 128 := by omega
    refine addI_to ((e + 1 : Nat) : Int) (by omega) (by omega) (by omega) ?_
    refine ⟨⟨_, e + 1, R, rfl, by omega, ?_, hI5, ?_, hx5⟩, by omega⟩
    · rw [Nat.pow_succ]
      have : c.toNat % 128 * 128 ^ e ≤ 127 * 128 ^ e := Nat.mul_le_mul_right _ (by omega)
      omega
    · rw [← hrd]; simp only [rdN, if_neg hok, if_neg hc]
theorem rflag_c {w : World} {H : Heap} {b : Nat} {F : List Nat} {s : Rest} (hw : w.heap = H) (hI : RInW H b F s) :
    CallF P F_r02_In_Flag #[.pointer (some ⟨b, 0, none⟩)] w fun e w' => e = .returned (.bool (flS s).1) ∧ RInW w'.heap b F (flS s).2 ∧ Ext [b] H w'.heap := by
  obtain ⟨ec, hld, hec⟩ := hI.err
  subst hw
  refine fn_r02_In_Flag ?_
  unfold T_r02_In_Flag
  simp only [withAddr_some, add_none]
  refine hld rfl ?_
  cases s with
  | none => exact iteP_ne (fun _ => ⟨rfl, hI, .refl _ _⟩) (fun h => by have := hec.1 h; simp at this)
  | some R =>
  refine iteP_f (by rw [hec.2 rfl]; rfl) ?_
  refine rchk hI (fun h w2 hw2 => ?_) (fun h w2 hw2 => ?_)
  · subst h
    refine callF_of (bad_c 20 hw2 hI (by omega)) ?_
    rintro e3 w3 ⟨rfl, h3, hx3⟩
    exact ⟨(), rfl, rfl, h3, hx3⟩
  cases R with
  | nil => exact absurd rfl h
  | cons c R =>
  have hI2 : RInW w2.heap b F (some (c :: R)) := by rw [hw2]; exact hI
  refine radv hI2 fun w5 hI5 hx25 => ?_
  have hx5 : Ext [b] w.heap w5.heap := by rw [← hw2]; exact hx25
  refine iteP_dec (fun h => ?_) (fun h => ?_)
  · have hc : 1 < c.toNat := by omega
    have : flS (some (c :: R)) = (false, none) := by simp only [flS, rdFlag, if_pos hc]
    rw [this]
    refine callF_of (bad_c 21 rfl hI5 (by omega)) ?_
    rintro e3 w3 ⟨rfl, h3, hx3⟩
    exact ⟨(), rfl, rfl, h3, hx5.trans hx3⟩
  · have hc : ¬ 1 < c.toNat := by omega
    have : flS (some (c :: R)) = (decide (c.toNat = 1), some R) := by simp only [flS, rdFlag, if_neg hc]
    rw [this]
    refine ⟨?_, hI5, hx5⟩
    congr 2
    rw [Bool.eq_iff_iff]
    simp
    omega
theorem rtext_c {w : World} {H : Heap} {b : Nat} {F : List Nat} {s : Rest} {most : Nat} (hw : w.heap = H) (hI : RInW H b F s) (hm : most ≤ 1073741824) :
    CallF P F_r02_In_Text #[.pointer (some ⟨b, 0, none⟩), .int .i64 (most : Int)] w fun e w' => e = .returned (.string (strOf (txS most s).1)) ∧ RInW w'.heap b F (txS most s).2 ∧ Ext [b] H w'.heap := by
  refine fn_r02_In_Text ?_
  unfold T_r02_In_Text
  refine callF_of (rnum_c hw hI) ?_
  rintro e w1 ⟨rfl, h1, hx1⟩
  refine ⟨((nmS s).1 : Int), rfl, ?_⟩
  obtain ⟨ec, hld, hec⟩ := h1.err
  simp only [withAddr_some, add_none]
  refine hld rfl ?_
  cases hs : (nmS s).2 with
  | none =>
    rw [hs] at hec h1
    have : txS most s = ([], none) := by
      cases s with
      | none => rfl
      | some R =>
        simp only [nmS] at hs
        simp only [txS, rdText]
        cases h : rdNum R with
        | none => rfl
        | some y => rw [h] at hs; simp at hs
    rw [this]
    exact iteP_ne (fun _ => ⟨rfl, h1, hx1⟩) (fun h => by have := hec.1 h; simp at this)
  | some R =>
  rw [hs] at hec
  refine iteP_f (by rw [hec.2 rfl]; rfl) ?_
  obtain ⟨R0, rfl, hn⟩ : ∃ R0, s = some R0 ∧ rdNum R0 = some ((nmS s).1, R) := by
    cases s with
    | none => simp [nmS] at hs
    | some R0 =>
      refine ⟨R0, rfl, ?_⟩
      simp only [nmS] at hs ⊢
      cases h : rdNum R0 with
      | none => rw [h] at hs; simp at hs
      | some y => rw [h] at hs; simp at hs ⊢; rw [← hs]
  rw [hs] at h1
  have hlt := (rdNum_back hn).2
  generalize (nmS (some R0)).1 = n at hn hlt
  refine joinP_of (fun _ W => W = w1 ∧ n ≤ most) ?_ ?_
  · refine iteP_f (by simp) ?_
    refine iteP_t (by simp) ?_
    refine cvI_u64 (by omega) (by omega) ?_
    refine iteP_dec (fun h => ?_) (fun h => ⟨rfl, by omega⟩)
    have : txS most (some R0) = ([], none) := by simp only [txS, rdText, hn]; rw [if_pos (by omega)]
    rw [this]
    refine callF_of (bad_c 2 rfl h1 (by omega)) ?_
    rintro e3 w3 ⟨rfl, h3, hx3⟩
    exact ⟨(), rfl, rfl, h3, hx1.trans hx3⟩
  rintro _ W ⟨hW, hnm⟩
  subst hW
  refine callF_of (left_c rfl h1) ?_
  rintro e w6 ⟨rfl, hw6⟩
  refine ⟨(R.length : Int), rfl, ?_⟩
  have h6 : RInW w6.heap b F (some R) := by rw [hw6]; exact h1
  have hx6 : Ext [b] H w6.heap := by rw [hw6]; exact hx1
  obtain ⟨x, i, e, B, g1, g2, g3, g4, g5, g6, g7, g8, rfl, rfl⟩ := id h6
  have hRl : (B.drop i).length = B.length - i := by simp
  refine cvI_u64 (by omega) (by omega) ?_
  refine iteP_dec (fun h => ?_) (fun h => ?_)
  · have : txS most (some R0) = ([], none) := by simp only [txS, rdText, hn]; rw [if_pos (by omega)]
    rw [this]
    refine callF_of (bad_c 20 rfl h6 (by omega)) ?_
    rintro e3 w3 ⟨rfl, h3, hx3⟩
    exact ⟨(), rfl, rfl, h3, hx6.trans hx3⟩
  · have hnl : n ≤ B.length - i := by omega
    have : txS most (some R0) = ((B.drop i).take n, some ((B.drop i).drop n)) := by simp only [txS, rdText, hn]; rw [if_neg (by omega)]
    rw [this]
    refine drewP_h rfl fun w8 hw8 => ?_
    refine cvI_i64 (by omega) (by omega) ?_
    refine ld_h (s := .slc) (t := x) hw8 g1 rfl ?_
    refine ld_h (s := .int .i64) (t := (i : Int)) hw8 g1 rfl ?_
    refine ld_h (s := .int .i64) (t := (i : Int)) hw8 g1 rfl ?_
    refine addI_to ((i + n : Nat) : Int) (by omega) (by omega) (by omega) ?_
    have hc := (cells_cutX g4 i (by omega)).take n
    rw [byteCells_take] at hc
    have hrun := run_slice_slc (P := P) (w := w8) (a := x.1) (len := x.2.1) (cap := x.2.2) (l := i) (h := i + n) uS8 sz8 (.yes (k := .i64) (i := (i : Int)) rfl) (.yes (k := .i64) (i := ((i + n : Nat) : Int)) rfl) (by omega) (by omega)
    obtain ⟨y, hy⟩ : ∃ y : Option Addr × Nat × Nat, y = (if x.2.2 = i then x.1 else x.1.map (·.add (i * 1)), (i + n) - i, x.2.2 - i) := ⟨_, rfl⟩
    have hy1 : y.1 = (cutX x i).1 := by rw [hy]; rfl
    have hy2 : y.2.1 = ((B.drop i).take n).length := by rw [hy]; simp; omega
    refine genQ_of (s := .slc) y (by rw [hy]; exact hrun) ?_
    refine genQ_of (s := .str) _ (convS_h uS8 u8 uStr hw8 (by rw [hy1]; exact hc) hy2) ?_
    refine ld_h (s := .int .i64) (t := (i : Int)) hw8 g1 rfl ?_
    refine cvI_i64 (by omega) (by omega) ?_
    refine addI_to ((i + n : Nat) : Int) (by omega) (by omega) (by omega) ?_
    refine stC_h hw8 g1 (by simp) fun w9 hw9 => ?_
    have hx : Ext [b] w6.heap w9.heap := by rw [hw9]; exact Ext.set _ (by simp)
    refine ⟨rfl, ⟨x, i + n, 0, B, by rw [hw9]; exact set_new g1, g2, g3, own_cells' g4 hx g3 fun d hd h => by simp at h; subst h; exact g2 hd, g5, g6, g7, by omega, rfl, by rw [List.drop_drop]⟩, hx6.trans hx⟩
end Go.Proofs.YtbmegmbnlajbbaaGreat
