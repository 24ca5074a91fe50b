/- What bytes of an upper branch mean: the plain law. -/
import Derived.Test.YtbmegmbnlajbbaaGreatWa
namespace Go.Proofs.YtbmegmbnlajbbaaGreat
open Go Go.Fw Go.Proofs Go.Sort
/-- An inode's fields, as they are read. -/
structure Rec where
  t : List UInt8
  k : Nat
  o : Bool
  d : List UInt8
def rdIno (R : List UInt8) : Option (Rec × List UInt8) :=
  match rdText 256 R with
  | none => none
  | some (t, R) => match rdNum R with
    | none => none
    | some (k, R) => match rdFlag R with
      | none => none
      | some (o, R) => match rdText 1024 R with
        | none => none
        | some (d, R) => some (⟨t, k, o, d⟩, R)
def recB (x : Rec) : List UInt8 := textB x.t ++ numB x.k ++ flagB x.o ++ textB x.d
theorem rdIno_rec {x : Rec} {R : List UInt8} (ht : x.t.length ≤ 256) (hk : x.k < 18446744073709551616) (hd : x.d.length ≤ 1024) : rdIno (recB x ++ R) = some (x, R) := by
  unfold rdIno recB
  simp only [List.append_assoc]
  rw [rdText_text ht (by omega)]
  simp only
  rw [rdNum_num hk]
  simp only
  rw [rdFlag_flag]
  simp only
  rw [rdText_text hd (by omega)]
theorem rdIno_back {x : Rec} {R0 R : List UInt8} (h : rdIno R0 = some (x, R)) : R0 = recB x ++ R ∧ x.t.length ≤ 256 ∧ x.k < 18446744073709551616 ∧ x.d.length ≤ 1024 := by
  unfold rdIno at h
  split at h
  · cases h
  · rename_i t R1 h1
    split at h
    · cases h
    · rename_i k R2 h2
      split at h
      · cases h
      · rename_i o R3 h3
        split at h
        · cases h
        · rename_i d R4 h4
          simp only [Option.some.injEq, Prod.mk.injEq] at h
          obtain ⟨rfl, rfl⟩ := h
          obtain ⟨e1, l1⟩ := rdText_back h1
          obtain ⟨e2, l2⟩ := rdNum_back h2
          have e3 := rdFlag_back h3
          obtain ⟨e4, l4⟩ := rdText_back h4
          exact ⟨by rw [e1, e2, e3, e4]; simp [recB], l1, l2, l4⟩
/-- The inodes of bytes, as the store reads them; last: the path ahead. -/
def upRd : Nat → Path → List Ino → List UInt8 → Option (List Ino × List UInt8)
  | 0, _, L, R => some (L, R)
  | n + 1, last, L, R => match rdIno R with
    | none => none
    | some (x, R) => if showP (parseP x.t).1 = x.t ∧ cmpP last (parseP x.t).1 < 0 ∧ (putL L x.t (min x.k 9 : Nat) x.o x.d).1 = 0 then upRd n (parseP x.t).1 (putL L x.t (min x.k 9 : Nat) x.o x.d).2 R else none
def refRd : Nat → List Ino → List UInt8 → Option (List Ino × List UInt8)
  | 0, L, R => some (L, R)
  | n + 1, L, R => match rdIno R with
    | none => none
    | some (x, R) => if x.k ≤ 3 ∧ (putL L x.t x.k x.o x.d).1 = 0 then refRd n (putL L x.t x.k x.o x.d).2 R else none
/-- The head: both quotas, and how many. -/
def rdHead (R : List UInt8) : Option ((Nat × Nat × Nat) × List UInt8) :=
  match rdNum R with
  | none => none
  | some (a, R) => match rdNum R with
    | none => none
    | some (b, R) => match rdNum R with
      | none => none
      | some (n, R) => if 128 < a ∨ 8192 < b ∨ 1024 < n then none else some ((a, b, n), R)
def upPre (B : List UInt8) : Option (Nat × Nat × List Ino × List UInt8) :=
  match rdHead B with
  | none => none
  | some ((a, b, n), R) => (upRd n [] [] R).map fun x => (a, b, x)
def refPre (B : List UInt8) : Option (Nat × Nat × List Ino × List UInt8) :=
  match rdHead B with
  | none => none
  | some ((a, b, n), R) => (refRd n [] R).map fun x => (a, b, x)
def decU (B : List UInt8) : Option (Nat × Nat × List Ino) := match upPre B with | some (a, b, L, []) => some (a, b, L) | _ => none
def decR (B : List UInt8) : Option (Nat × Nat × List Ino) := match refPre B with | some (a, b, L, []) => if encU a b L = B then some (a, b, L) else none | _ => none
/-- Inodes that an upper branch can have. -/
def Form (L : List Ino) : Prop := ∀ i ∈ L, formE i.kind i.opq i.data = 0
structure Val (L : List Ino) : Prop where
  good : Good L
  tree : Tree L
  form : Form L
theorem Val.nil : Val [] := ⟨St.nil.good, Tree.nil, fun i hi => absurd hi (by simp)⟩
theorem putL_cases (L : List Ino) (t : List UInt8) (k : Int) (o : Bool) (d : List UInt8) : ((putL L t k o d).1 ≠ 0 ∧ (putL L t k o d).2 = L) ∨
    ((putL L t k o d) = (0, insL L ⟨(parseP t).1, k, o, d⟩) ∧ okP (parseP t).1 ∧ (parseP t).1 ≠ [] ∧ formE k o d = 0 ∧ ((getL L (parseP t).1).isSome = true ∨ L.length < 1024)) := by
  unfold putL
  split
  · rename_i h; exact .inl ⟨h, rfl⟩
  split
  · exact .inl ⟨by simp, rfl⟩
  rename_i hne
  split
  · rename_i h; exact .inl ⟨h, rfl⟩
  rename_i hf
  split
  · exact .inl ⟨by simp, rfl⟩
  split
  · exact .inl ⟨by simp, rfl⟩
  split
  · exact .inl ⟨by simp, rfl⟩
  split
  · exact .inl ⟨by simp, rfl⟩
  rename_i hm
  refine .inr ⟨rfl, parse_ok t, hne, by simpa using hf, ?_⟩
  cases h : (getL L (parseP t).1).isSome with
  | true => exact .inl rfl
  | false => exact .inr (Nat.lt_of_not_le fun h2 => hm ⟨h, h2⟩)
theorem putL_same {L : List Ino} {t d : List UInt8} {k : Int} {o : Bool} (h : (putL L t k o d).1 ≠ 0) : (putL L t k o d).2 = L := by
  rcases putL_cases L t k o d with ⟨_, h2⟩ | ⟨h2, _⟩
  · exact h2
  · rw [h2] at h; exact absurd rfl h
theorem Val.put {L : List Ino} (h : Val L) (t : List UInt8) (k : Int) (o : Bool) (d : List UInt8) : Val (putL L t k o d).2 := by
  refine ⟨?_, Tree.put h.good h.tree t k o d, ?_⟩
  · rcases putL_cases L t k o d with ⟨_, e⟩ | ⟨e, h1, h2, h3, h4⟩
    · rw [e]; exact h.good
    · rw [e]
      refine (ins_good (i := ⟨(parseP t).1, k, o, d⟩) h.good ⟨h1, h2⟩ (formE_small h3) ?_).1
      rw [← getL_eq h1 h2]; exact h4
  · rcases putL_cases L t k o d with ⟨_, e⟩ | ⟨e, h1, h2, h3, h4⟩
    · rw [e]; exact h.form
    · rw [e]
      intro i hi
      rcases mem_ins hi with rfl | ⟨hi, _⟩
      · exact h3
      · exact h.form i hi
theorem Val.drop {L : List Ino} (h : Val L) (q : Path) : Val (dropL L q) := by
  have hs : (dropL L q).Sublist L := List.filter_sublist
  exact ⟨⟨fun i hi => h.good.ok i (hs.subset hi), h.good.rise.sublist hs, fun i hi => h.good.small i (hs.subset hi), Nat.le_trans hs.length_le h.good.many⟩, h.tree.drop q, fun i hi => h.form i (hs.subset hi)⟩
theorem ins_last {L : List Ino} {i : Ino} (h : ∀ j ∈ L, cmpP j.names i.names < 0) : insL L i = L ++ [i] := by
  have := ins_lo (i := i) (hi := []) (by simp) h
  simpa using this
theorem cmp_within {p q : Path} (h : withinP p q = true) (hl : q.length < p.length) : cmpP q p < 0 := by
  obtain ⟨h1, h2⟩ := within_iff.1 h
  have := cmpP_drop (i := q.length) (p := q) (q := p) (by rw [h2]; simp) (Nat.le_refl _) h1
  rw [this]
  have h3 : (p.drop q.length).length = p.length - q.length := by simp
  cases h4 : p.drop q.length with
  | nil => rw [h4] at h3; simp at h3; omega
  | cons x r => rw [List.drop_length]; simp [cmpP]
theorem form_kind {k : Int} {o : Bool} {d : List UInt8} (h : formE k o d = 0) : 1 ≤ k ∧ k ≤ 3 := by
  unfold formE at h
  split at h
  · omega
  · omega
/-- The next inode in order is put. -/
theorem put_next {L : List Ino} (h : Val L) {lo hi : List Ino} {i : Ino} (e : L = lo ++ i :: hi) : putL lo (showP i.names) i.kind i.opq i.data = (0, lo ++ [i]) := by
  have hi' : i ∈ L := by rw [e]; simp
  obtain ⟨hok, hne⟩ := h.good.ok i hi'
  have hr := h.good.rise
  rw [e, List.pairwise_append] at hr
  have hlt : ∀ j ∈ lo, cmpP j.names i.names < 0 := fun j hj => hr.2.2 j hj i (by simp)
  have hgt : ∀ j ∈ hi, cmpP i.names j.names < 0 := (List.pairwise_cons.1 hr.2.1).1
  have hlen : lo.length < 1024 := by have := h.good.many; rw [e] at this; simp at this; omega
  have before : ∀ j ∈ L, cmpP j.names i.names < 0 → j ∈ lo := by
    intro j hj hc
    rw [e] at hj
    rcases List.mem_append.1 hj with hj | hj
    · exact hj
    · rcases List.mem_cons.1 hj with rfl | hj
      · rw [cmpP_eq.2 rfl] at hc; omega
      · have h1 := hgt j hj
        have h2 := cmpP_neg (p := i.names) (q := j.names)
        omega
  have hGlo : Good lo := ⟨fun j hj => h.good.ok j (by rw [e]; simp [hj]), hr.1, fun j hj => h.good.small j (by rw [e]; simp [hj]), by omega⟩
  have hform := h.form i hi'
  unfold putL
  rw [parse_show hok]
  simp only [ne_eq, not_true_eq_false, if_false, hne, hform]
  have hdir : 1 < i.names.length → ∃ d, getL lo i.names.dropLast = some d ∧ d.kind = 2 := by
    intro hl
    obtain ⟨d, hd, hn, hk⟩ := h.tree i hi' hl
    have hcd : cmpP d.names i.names < 0 := by
      rw [hn]
      refine cmp_within ?_ (by simp; omega)
      rw [within_iff, List.length_dropLast]
      exact ⟨by omega, by rw [List.dropLast_eq_take]⟩
    exact ⟨d, by rw [← hn]; exact get_mem hGlo (before d hd hcd), hk⟩
  rw [if_neg, if_neg, if_neg, if_neg, ins_last hlt]
  · rintro ⟨_, h2⟩; omega
  · rintro ⟨hk, hb⟩
    have hb2 := List.length_pos_iff.1 hb
    obtain ⟨j, hj⟩ := List.exists_mem_of_ne_nil _ hb2
    obtain ⟨hj1, hj2⟩ := List.mem_filter.1 hj
    unfold belowQ at hj2
    simp only [Bool.and_eq_true, decide_eq_true_eq] at hj2
    have h1 := cmp_within hj2.2 hj2.1
    have h2 := hlt j hj1
    have h3 := cmpP_neg (p := i.names) (q := j.names)
    omega
  · rintro ⟨hl, hk⟩
    obtain ⟨d, hd, hk2⟩ := hdir hl
    rw [hd] at hk
    exact hk hk2
  · rintro ⟨hl, hs⟩
    obtain ⟨d, hd, _⟩ := hdir hl
    rw [hd] at hs; simp at hs
def recOf (i : Ino) : Rec := ⟨showP i.names, i.kind.toNat, i.opq, i.data⟩
theorem uintB_nat {k : Int} (h0 : 0 ≤ k) (h1 : k < 18446744073709551616) : uintB k = numB k.toNat := by unfold uintB; rw [wrap_u64 h0 h1]
theorem recB_of {i : Ino} (h : formE i.kind i.opq i.data = 0) : inoB i = recB (recOf i) := by
  have := form_kind h
  unfold inoB recB recOf
  rw [uintB_nat (by omega) (by omega)]
theorem rdIno_of {L : List Ino} (h : Val L) {i : Ino} (hi : i ∈ L) (R : List UInt8) : rdIno (inoB i ++ R) = some (recOf i, R) := by
  have h1 := h.form i hi
  have h2 := form_kind h1
  have h3 := show_len (h.good.ok i hi).1
  rw [recB_of h1]
  exact rdIno_rec (show (showP i.names).length ≤ 256 by omega) (show i.kind.toNat < _ by omega) (h.good.small i hi)
theorem inosB_cons {i : Ino} {L : List Ino} : inosB (i :: L) = inoB i ++ inosB L := by simp [inosB]
theorem upRd_of {L : List Ino} (h : Val L) : ∀ (hi lo : List Ino) (last : Path) (R : List UInt8), L = lo ++ hi → (∀ i, hi.head? = some i → cmpP last i.names < 0) → upRd hi.length last lo (inosB hi ++ R) = some (L, R)
  | [], lo, last, R, e, _ => by simp [inosB, upRd, e]
  | i :: hi, lo, last, R, e, hl => by
    have hi' : i ∈ L := by rw [e]; simp
    have hk := form_kind (h.form i hi')
    rw [List.length_cons, upRd, inosB_cons, List.append_assoc, rdIno_of h hi']
    have hmin : ((min i.kind.toNat 9 : Nat) : Int) = i.kind := by omega
    simp only [recOf, hmin, parse_show (h.good.ok i hi').1, put_next h e]
    rw [if_pos ⟨trivial, hl i rfl, trivial⟩]
    refine upRd_of h hi (lo ++ [i]) i.names R (by rw [e]; simp) fun j hj => ?_
    have hr := h.good.rise
    rw [e, List.pairwise_append] at hr
    exact (List.pairwise_cons.1 hr.2.1).1 j (List.mem_of_mem_head? hj)
theorem refRd_of {L : List Ino} (h : Val L) : ∀ (hi lo : List Ino) (R : List UInt8), L = lo ++ hi → refRd hi.length lo (inosB hi ++ R) = some (L, R)
  | [], lo, R, e => by simp [inosB, refRd, e]
  | i :: hi, lo, R, e => by
    have hi' : i ∈ L := by rw [e]; simp
    have hk := form_kind (h.form i hi')
    rw [List.length_cons, refRd, inosB_cons, List.append_assoc, rdIno_of h hi']
    have hmin : (i.kind.toNat : Int) = i.kind := by omega
    simp only [recOf, hmin, put_next h e]
    rw [if_pos ⟨by omega, trivial⟩]
    exact refRd_of h hi (lo ++ [i]) R (by rw [e]; simp)
theorem rdHead_of {a b n : Nat} {R : List UInt8} (ha : a ≤ 128) (hb : b ≤ 8192) (hn : n ≤ 1024) : rdHead (numB a ++ numB b ++ numB n ++ R) = some ((a, b, n), R) := by
  unfold rdHead
  simp only [List.append_assoc]
  rw [rdNum_num (by omega)]
  simp only
  rw [rdNum_num (by omega)]
  simp only
  rw [rdNum_num (by omega)]
  simp only
  rw [if_neg (by omega)]
theorem rdHead_back {R0 R : List UInt8} {a b n : Nat} (h : rdHead R0 = some ((a, b, n), R)) : R0 = numB a ++ numB b ++ numB n ++ R ∧ a ≤ 128 ∧ b ≤ 8192 ∧ n ≤ 1024 := by
  unfold rdHead at h
  split at h
  · cases h
  · rename_i a' R1 h1
    split at h
    · cases h
    · rename_i b' R2 h2
      split at h
      · cases h
      · rename_i n' R3 h3
        split at h
        · cases h
        · simp only [Option.some.injEq, Prod.mk.injEq] at h
          obtain ⟨⟨rfl, rfl, rfl⟩, rfl⟩ := h
          rw [(rdNum_back h1).1, (rdNum_back h2).1, (rdNum_back h3).1]
          exact ⟨by simp, by omega, by omega, by omega⟩
theorem encU_num {a b : Nat} {L : List Ino} (ha : a ≤ 128) (hb : b ≤ 8192) (hL : L.length ≤ 1024) : encU a b L = numB a ++ numB b ++ numB L.length ++ inosB L := by
  unfold encU
  rw [uintB_nat (by omega) (by omega), uintB_nat (by omega) (by omega), uintB_nat (by omega) (by omega)]
  simp
theorem upPre_of {a b : Nat} {L : List Ino} (ha : a ≤ 128) (hb : b ≤ 8192) (h : Val L) (R : List UInt8) : upPre (encU a b L ++ R) = some (a, b, L, R) := by
  rw [encU_num ha hb h.good.many, List.append_assoc, upPre, rdHead_of ha hb h.good.many]
  simp only
  rw [upRd_of h L [] [] R rfl fun i hi => ?_]
  · rfl
  · have := (h.good.ok i (List.mem_of_mem_head? hi)).2
    cases hn : i.names with
    | nil => exact absurd hn this
    | cons x p => simp [cmpP]
theorem refPre_of {a b : Nat} {L : List Ino} (ha : a ≤ 128) (hb : b ≤ 8192) (h : Val L) (R : List UInt8) : refPre (encU a b L ++ R) = some (a, b, L, R) := by
  rw [encU_num ha hb h.good.many, List.append_assoc, refPre, rdHead_of ha hb h.good.many]
  simp only
  rw [refRd_of h L [] R rfl]
  rfl
theorem upRd_back : ∀ (n : Nat) (last : Path) (L L' : List Ino) (R0 R : List UInt8), Val L → (∀ j ∈ L, cmpP j.names last ≤ 0) → upRd n last L R0 = some (L', R) → ∃ hi, L' = L ++ hi ∧ hi.length = n ∧ R0 = inosB hi ++ R ∧ Val L'
  | 0, last, L, L', R0, R, hV, _, h => by
    simp only [upRd, Option.some.injEq, Prod.mk.injEq] at h
    obtain ⟨rfl, rfl⟩ := h
    exact ⟨[], by simp, rfl, by simp [inosB], hV⟩
  | n + 1, last, L, L', R0, R, hV, hlast, h => by
    rw [upRd] at h
    split at h
    · cases h
    · rename_i x R1 hx
      split at h
      · rename_i hc
        obtain ⟨hs, hcl, hp⟩ := hc
        have hV' := hV.put x.t ((min x.k 9 : Nat) : Int) x.o x.d
        rcases putL_cases L x.t ((min x.k 9 : Nat) : Int) x.o x.d with ⟨h0, _⟩ | ⟨e, h1, h2, h3, h4⟩
        · exact absurd hp h0
        · have hlt : ∀ j ∈ L, cmpP j.names (parseP x.t).1 < 0 := fun j hj => by
            have := hlast j hj
            rcases Int.lt_or_eq_of_le this with h | h
            · exact cmpP_trans h hcl
            · rw [cmpP_eq.1 h]; exact hcl
          rw [ins_last (i := ⟨(parseP x.t).1, _, x.o, x.d⟩) hlt] at e
          rw [e] at h hV'
          obtain ⟨hi, g1, g2, g3, g4⟩ := upRd_back n _ _ L' R1 R hV' (fun j hj => by
            rcases List.mem_append.1 hj with hj | hj
            · have := hlt j hj; omega
            · simp only [List.mem_singleton] at hj; subst hj; rw [cmpP_eq.2 rfl]; omega) h
          have hk := form_kind h3
          have hmin : min x.k 9 = x.k := by omega
          rw [hmin] at g1 h3
          obtain ⟨b1, b2, b3, b4⟩ := rdIno_back hx
          refine ⟨⟨(parseP x.t).1, (x.k : Int), x.o, x.d⟩ :: hi, by rw [g1]; simp, by simp [g2], ?_, g4⟩
          rw [inosB_cons, b1, g3, recB_of h3]
          simp [recOf, hs]
      · cases h
theorem upPre_back {B R : List UInt8} {a b : Nat} {L : List Ino} (h : upPre B = some (a, b, L, R)) : B = encU a b L ++ R ∧ a ≤ 128 ∧ b ≤ 8192 ∧ Val L := by
  unfold upPre at h
  split at h
  · cases h
  · rename_i a' b' n R1 h1
    simp only [Option.map_eq_some_iff, Prod.mk.injEq] at h
    obtain ⟨⟨L', R'⟩, h2, rfl, rfl, rfl, rfl⟩ := h
    obtain ⟨e, ha, hb, hn⟩ := rdHead_back h1
    obtain ⟨hi, g1, g2, g3, g4⟩ := upRd_back n [] [] _ _ _ Val.nil (by simp) h2
    simp at g1
    subst g1
    exact ⟨by rw [encU_num ha hb g4.good.many, e, g3, g2]; simp, ha, hb, g4⟩
theorem refRd_val : ∀ (n : Nat) (L L' : List Ino) (R0 R : List UInt8), Val L → refRd n L R0 = some (L', R) → Val L'
  | 0, L, L', R0, R, hV, h => by
    simp only [refRd, Option.some.injEq, Prod.mk.injEq] at h
    obtain ⟨rfl, rfl⟩ := h
    exact hV
  | n + 1, L, L', R0, R, hV, h => by
    rw [refRd] at h
    split at h
    · cases h
    · split at h
      · exact refRd_val n _ _ _ _ (hV.put _ _ _ _) h
      · cases h
theorem decU_some {B : List UInt8} {a b : Nat} {L : List Ino} (h : decU B = some (a, b, L)) : upPre B = some (a, b, L, []) ∧ B = encU a b L ∧ a ≤ 128 ∧ b ≤ 8192 ∧ Val L := by
  unfold decU at h
  split at h
  · rename_i a' b' L' h1
    simp only [Option.some.injEq, Prod.mk.injEq] at h
    obtain ⟨rfl, rfl, rfl⟩ := h
    have := upPre_back h1
    simp only [List.append_nil] at this
    exact ⟨h1, this⟩
  · cases h
theorem decU_enc {a b : Nat} {L : List Ino} (ha : a ≤ 128) (hb : b ≤ 8192) (h : Val L) : decU (encU a b L) = some (a, b, L) := by
  have := upPre_of ha hb h []
  rw [List.append_nil] at this
  unfold decU; rw [this]
theorem decR_enc {a b : Nat} {L : List Ino} (ha : a ≤ 128) (hb : b ≤ 8192) (h : Val L) : decR (encU a b L) = some (a, b, L) := by
  have := refPre_of ha hb h []
  rw [List.append_nil] at this
  unfold decR; rw [this]; simp
theorem decR_some {B : List UInt8} {a b : Nat} {L : List Ino} (h : decR B = some (a, b, L)) : B = encU a b L ∧ a ≤ 128 ∧ b ≤ 8192 ∧ Val L := by
  unfold decR at h
  split at h
  · rename_i a' b' L' h1
    split at h
    · rename_i h2
      simp only [Option.some.injEq, Prod.mk.injEq] at h
      obtain ⟨rfl, rfl, rfl⟩ := h
      unfold refPre at h1
      split at h1
      · cases h1
      · rename_i a2 b2 n R1 h3
        simp only [Option.map_eq_some_iff, Prod.mk.injEq] at h1
        obtain ⟨⟨L2, R2⟩, h4, rfl, rfl, rfl, rfl⟩ := h1
        obtain ⟨_, ha, hb, _⟩ := rdHead_back h3
        exact ⟨h2.symm, ha, hb, refRd_val _ _ _ _ _ Val.nil h4⟩
    · cases h
  · cases h
/-- Bytes mean the same to both. -/
theorem dec_same (B : List UInt8) : decR B = decU B := by
  cases h : decU B with
  | some x =>
    obtain ⟨a, b, L⟩ := x
    obtain ⟨_, rfl, ha, hb, hV⟩ := decU_some h
    exact decR_enc ha hb hV
  | none =>
    cases h2 : decR B with
    | none => rfl
    | some x =>
      obtain ⟨a, b, L⟩ := x
      obtain ⟨rfl, ha, hb, hV⟩ := decR_some h2
      rw [decU_enc ha hb hV] at h; cases h
/-- With a byte more, or one less, they mean nothing. -/
theorem decU_more {a b : Nat} {L : List Ino} (ha : a ≤ 128) (hb : b ≤ 8192) (h : Val L) (x : UInt8) : decU (encU a b L ++ [x]) = none := by
  unfold decU; rw [upPre_of ha hb h]
theorem decU_less {a b : Nat} {L : List Ino} (ha : a ≤ 128) (hb : b ≤ 8192) (h : Val L) {M : List UInt8} {x : UInt8} (e : encU a b L = M ++ [x]) : decU M = none := by
  cases h2 : decU M with
  | none => rfl
  | some y =>
    obtain ⟨a', b', L'⟩ := y
    obtain ⟨_, rfl, ha', hb', hV⟩ := decU_some h2
    have h3 := decU_enc ha hb h
    rw [e, decU_more ha' hb' hV] at h3
    cases h3
end Go.Proofs.YtbmegmbnlajbbaaGreat
