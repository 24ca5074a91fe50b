/- Maps: the laws of a map's object, with keys that are compared cell by cell. -/
import Derived.Test.YtbmegmbnlajbbaaGreatFwL
import Derived.DeepKeys3
import Derived.Maps.RangeRun
namespace Go.Fw
open Go

/-- An array of bytes, as a value. -/
def arr (L : List UInt8) : Value := .agg (byteCells L).toArray

section
variable {P : Program}

theorem byte_at (L : List UInt8) (i : Nat) : (byteCells L).toArray[i]? = (L[i]?).map fun b => Value.int .u8 (b.toNat : Int) := by
  simp [byteCells]

theorem part_byte {e : TypeId} {info : TypeInfo} {w : World} (he : P.underlying e = some (.int .u8)) (L : List UInt8) {i : Nat} (hi : i < L.length) : (part e (byteCells L).toArray i).run P w = .ok (.int .u8 ((L[i]).toNat : Int)) w :=
  run_part_plain w (by simp [Program.plainKey, he]) (by rw [byte_at]; simp [hi])

theorem eqItems_bytes {e : TypeId} {d : Nat} {w : World} (he : P.underlying e = some (.int .u8)) (hc : P.cellsOf e = 1) (A B : List UInt8) : ∀ is : List Nat, (∀ i ∈ is, i < A.length ∧ i < B.length) →
    (Op.eqItems (d + 1) e (P.cellsOf e) (byteCells A).toArray (byteCells B).toArray is).run P w = .ok (decide (∀ i ∈ is, A[i]? = B[i]?)) w
  | [], _ => by simp [Op.eqItems]
  | i :: is, h => by
    have h1 := h i (by simp)
    have ih := eqItems_bytes (d := d) (w := w) he hc A B is fun j hj => h j (by simp [hj])
    simp only [Op.eqItems, Sem.run_bind, hc, Nat.mul_one]
    rw [part_byte (info := default) he A h1.1]
    simp only [Result.andThen_ok]
    rw [part_byte (info := default) he B h1.2]
    simp only [Result.andThen_ok]
    rw [run_equalIn_int w d e .u8 .u8 _ _ he]
    simp only [Result.andThen_ok]
    rw [hc] at ih
    by_cases hb : A[i] = B[i]
    · have : (((A[i]).toNat : Int) == ((B[i]).toNat : Int)) = true := by rw [hb]; simp
      simp only [this, Bool.not_true, Bool.false_eq_true, if_false, ih]
      congr 1
      simp [List.getElem?_eq_getElem h1.1, List.getElem?_eq_getElem h1.2, hb]
    · have : (((A[i]).toNat : Int) == ((B[i]).toNat : Int)) = false := by
        simp only [beq_eq_false_iff_ne, ne_eq]
        intro hh
        apply hb
        apply UInt8.toNat_inj.1
        omega
      simp only [this, Bool.not_false, if_true, Sem.run_pure]
      congr 1
      simp [List.getElem?_eq_getElem h1.1, List.getElem?_eq_getElem h1.2, hb]

/-- Two arrays of bytes. -/
theorem equal_arr {t e : TypeId} {n : Nat} {w : World} (hu : P.underlying t = some (.array n e)) (he : P.underlying e = some (.int .u8)) (hc : P.cellsOf e = 1) {A B : List UInt8} (hA : A.length = n) (hB : B.length = n) :
    (Op.equal t (arr A) (arr B)).run P w = .ok (decide (A = B)) w := by
  have hi : ∃ i, P.info? e = some i := info_of_underlying he
  obtain ⟨i, hi⟩ := hi
  unfold Op.equal Op.maxDepth arr
  rw [run_equalIn_array w 9999 _ _ hu hi, eqItems_bytes (d := 9998) he hc A B (List.range n) (by intro j hj; simp at hj; omega)]
  congr 1
  simp only [List.mem_range, decide_eq_decide]
  constructor
  · intro h
    apply List.ext_getElem?
    intro j
    by_cases hj : j < n
    · exact h j hj
    · rw [List.getElem?_eq_none (by omega), List.getElem?_eq_none (by omega)]
  · rintro rfl _ _; rfl

theorem check_arr {t e : TypeId} {n : Nat} {w : World} (hu : P.underlying t = some (.array n e)) (he : P.underlying e = some (.int .u8)) (hc : P.cellsOf e = 1) {A : List UInt8} (hA : A.length = n) (em : Bool) :
    (Instr.checkKey em 10000 t (arr A)).run P w = .ok () w := by
  have hi : ∃ i, P.info? e = some i := info_of_underlying he
  obtain ⟨i, hi⟩ := hi
  unfold arr
  rw [show (10000 : Nat) = 9998 + 1 + 1 from rfl, Instr.checkKey]
  simp only [Sem.run_bind, run_underlying' hu, Result.andThen_ok]
  simp only [Std.Legacy.Range.forIn_eq_forIn_range', Std.Legacy.Range.size, Nat.sub_zero, Nat.add_one_sub_one, Nat.div_one]
  have each : ∀ j ∈ List.range' 0 n, j < A.length := by intro j hj; simp [List.mem_range'] at hj; omega
  generalize List.range' 0 n = is at each
  induction is with
  | nil => simp
  | cons j is ih =>
    have p1 : (part e (byteCells A).toArray j).run P w = _ := part_byte (info := default) he A (each j (by simp))
    have p2 : (Instr.checkKey em (9998 + 1) e (.int .u8 ((A[j]'(each j (by simp))).toNat : Int))).run P w = .ok () w := by
      rw [Instr.checkKey]
      simp only [Sem.run_bind, run_underlying' he, Result.andThen_ok, Sem.run_pure]
    simp only [List.forIn_cons, Sem.run_bind, run_sizeOf w hi, Result.andThen_ok, hc, Nat.mul_one, p1, p2, Sem.run_pure]
    exact ih fun y hy => each y (by simp [hy])
end

/-- What is known of the keys of a map's type. -/
structure KeyOk (P : Program) (kt : TypeId) (κ : Type) [DecidableEq κ] (ok : κ → Prop) (enc : κ → Value) : Prop where
  find : ∀ (w : World) (k : κ) (es : List MapEntry) (l : List (κ × Value × Nat)), ok k → (∀ x ∈ l, ok x.1) → es = l.map (fun x => ⟨enc x.1, x.2.1, x.2.2⟩) →
    (Instr.findKey kt (enc k) es).run P w = .ok ((l.findIdx? (fun x => x.1 == k)).bind fun i => (l[i]?).map fun x => (i, x.2.1)) w
  chk : ∀ (w : World) (k : κ) (e : Bool), ok k → (Instr.checkKey e 10000 kt (enc k)).run P w = .ok () w
  same : ∀ k : κ, ok k → Instr.sameBits 10000 (enc k) (enc k) = true

section
variable {P : Program} {κ : Type} [DecidableEq κ] {ok : κ → Prop} {enc : κ → Value}
theorem findAsking_arr {kt : TypeId} {w : World} (heq : ∀ (w : World) (a b : κ), ok a → ok b → (Op.equal kt (enc a) (enc b)).run P w = .ok (decide (a = b)) w) {k : κ} (hk : ok k) : ∀ (l : List (κ × Value × Nat)) (i : Nat), (∀ x ∈ l, ok x.1) →
    (Instr.findAsking kt (enc k) (l.map fun x => ⟨enc x.1, x.2.1, x.2.2⟩) i).run P w = .ok ((l.findIdx? (fun x => x.1 == k)).bind fun j => (l[j]?).map fun x => (i + j, x.2.1)) w
  | [], i, _ => by simp [Instr.findAsking]
  | x :: l, i, h => by
    have ih := findAsking_arr (w := w) heq hk l (i + 1) fun y hy => h y (by simp [hy])
    simp only [List.map_cons, Instr.findAsking, Sem.run_bind, heq w k x.1 hk (h x (by simp)), Result.andThen_ok]
    by_cases e : x.1 = k
    · subst e
      simp [List.findIdx?_cons]
    · have e' : ¬ k = x.1 := fun h => e h.symm
      simp only [e', decide_false, Bool.false_eq_true, if_false, ih]
      congr 1
      rw [List.findIdx?_cons]
      simp only [beq_eq_false_iff_ne.2 e]
      cases hf : List.findIdx? (fun x => x.1 == k) l with
      | none => simp
      | some j => simp [Nat.add_assoc, Nat.add_comm 1 j]

theorem KeyOk.wide {kt : TypeId} (heq : ∀ (w : World) (a b : κ), ok a → ok b → (Op.equal kt (enc a) (enc b)).run P w = .ok (decide (a = b)) w)
    (hw : (match P.underlying kt with | some (.array _ _) | some (.struct _) => true | _ => false) = true) (hc : ∀ (w : World) (k : κ) (e : Bool), ok k → (Instr.checkKey e 10000 kt (enc k)).run P w = .ok () w)
    (hs : ∀ k : κ, ok k → Instr.sameBits 10000 (enc k) (enc k) = true) : KeyOk P kt κ ok enc where
  find w k es l hk hl he := by
    subst he
    rw [run_findKey_eq w hw, findAsking_arr heq hk l 0 hl]
    simp
  chk := hc
  same := hs
end

theorem sameBits_arr (L : List UInt8) : Instr.sameBits 10000 (arr L) (arr L) = true := by
  unfold arr
  rw [show (10000 : Nat) = 9999 + 1 from rfl, Instr.sameBits]
  simp only [beq_self_eq_true, Bool.true_and, List.all_eq_true]
  intro x hx
  simp only [byteCells] at hx
  have : ∀ (l : List UInt8), x ∈ (l.map fun b => Value.int .u8 (b.toNat : Int)).zip (l.map fun b => Value.int .u8 (b.toNat : Int)) → ∃ b : UInt8, x = (Value.int .u8 (b.toNat : Int), Value.int .u8 (b.toNat : Int)) := by
    intro l
    induction l with
    | nil => intro h; cases h
    | cons b l ih =>
      intro h
      simp only [List.map_cons, List.zip_cons_cons, List.mem_cons] at h
      rcases h with rfl | h
      · exact ⟨b, rfl⟩
      · exact ih h
  obtain ⟨b, rfl⟩ := this L hx
  simp [Instr.sameBits]

theorem KeyOk.arr {P : Program} {t e : TypeId} {n : Nat} (hu : P.underlying t = some (.array n e)) (he : P.underlying e = some (.int .u8)) (hc : P.cellsOf e = 1) : KeyOk P t (List UInt8) (fun L => L.length = n) arr :=
  .wide (fun w a b ha hb => equal_arr hu he hc ha hb) (by rw [hu]) (fun w k e hk => check_arr hu he hc hk e) fun k _ => sameBits_arr k

/-- The entries of a map, as the model has them. -/
def ents {κ : Type} (enc : κ → Value) (l : List (κ × Value × Nat)) : Array MapEntry := (l.map fun x => ⟨enc x.1, x.2.1, x.2.2⟩).toArray
set_option linter.unusedSectionVars false
section
variable {κ ν : Type} [DecidableEq κ]
abbrev ML (κ ν : Type) := List (κ × ν × Nat)
def mget (l : ML κ ν) (k : κ) : Option ν := (l.find? fun x => x.1 == k).map (·.2.1)
def mupd (l : ML κ ν) (k : κ) (v : ν) (c : Nat) : ML κ ν := if (mget l k).isSome then l.map (fun x => if x.1 = k then (x.1, v, x.2.2) else x) else l ++ [(k, v, c)]
def mclk (l : ML κ ν) (k : κ) (c : Nat) : Nat := if (mget l k).isSome then c else c + 1
def mdel (l : ML κ ν) (k : κ) : ML κ ν := l.filter fun x => x.1 != k
/-- A map's entries: each key once, each stamp once, and all stamps are old. -/
structure MOk (ok : κ → Prop) (l : ML κ ν) (c : Nat) : Prop where
  keys : (l.map (·.1)).Nodup
  born : (l.map (·.2.2)).Nodup
  old : ∀ x ∈ l, x.2.2 < c
  fine : ∀ x ∈ l, ok x.1

theorem mget_some_mem {l : ML κ ν} {k : κ} {v : ν} (h : mget l k = some v) : ∃ c, (k, v, c) ∈ l := by
  simp only [mget, Option.map_eq_some_iff] at h
  obtain ⟨x, hx, rfl⟩ := h
  have h1 := List.find?_some hx
  have h2 := List.mem_of_find?_eq_some hx
  simp at h1
  subst h1
  exact ⟨x.2.2, h2⟩
theorem mget_of_mem {l : ML κ ν} (hn : (l.map (·.1)).Nodup) {k : κ} {v : ν} {c : Nat} (h : (k, v, c) ∈ l) : mget l k = some v := by
  induction l with
  | nil => cases h
  | cons x l ih =>
    simp only [List.map_cons, List.nodup_cons] at hn
    simp only [mget, List.find?_cons]
    rcases List.mem_cons.1 h with h | h
    · subst h; simp
    · have hne : x.1 ≠ k := fun e => hn.1 (by rw [e]; exact List.mem_map.2 ⟨_, h, rfl⟩)
      simp only [beq_eq_false_iff_ne.2 hne]
      exact ih hn.2 h
theorem mget_cons_eq {l : ML κ ν} {k : κ} {x : κ × ν × Nat} (e : x.1 = k) : mget (x :: l) k = some x.2.1 := by simp [mget, e]
theorem mget_cons_ne {l : ML κ ν} {k : κ} {x : κ × ν × Nat} (e : x.1 ≠ k) : mget (x :: l) k = mget l k := by simp only [mget, List.find?_cons, beq_eq_false_iff_ne.2 e]
theorem mdel_cons_eq {l : ML κ ν} {k : κ} {x : κ × ν × Nat} (e : x.1 = k) : mdel (x :: l) k = mdel l k := by simp [mdel, e]
theorem mdel_cons_ne {l : ML κ ν} {k : κ} {x : κ × ν × Nat} (e : x.1 ≠ k) : mdel (x :: l) k = x :: mdel l k := by simp [mdel, e]
theorem mdel_none {l : ML κ ν} {k : κ} (h : ∀ x ∈ l, x.1 ≠ k) : mdel l k = l := by
  rw [mdel, List.filter_eq_self]
  intro x hx
  simp [h x hx]
theorem mget_none {l : ML κ ν} {k : κ} (h : mget l k = none) : ∀ x ∈ l, x.1 ≠ k := by
  simp only [mget, Option.map_eq_none_iff, List.find?_eq_none] at h
  intro x hx e
  exact absurd (h x hx) (by simp [e])
theorem mget_none_of {l : ML κ ν} {k : κ} (h : ∀ x ∈ l, x.1 ≠ k) : mget l k = none := by
  simp only [mget, Option.map_eq_none_iff, List.find?_eq_none]
  intro x hx
  simp [h x hx]
theorem mupd_some {l : ML κ ν} {k : κ} {v : ν} {c : Nat} (h : (mget l k).isSome = true) : mupd l k v c = l.map (fun x => if x.1 = k then (x.1, v, x.2.2) else x) := by simp [mupd, h]
theorem mupd_none {l : ML κ ν} {k : κ} {v : ν} {c : Nat} (h : mget l k = none) : mupd l k v c = l ++ [(k, v, c)] := by simp [mupd, h]
theorem mem_upd {l : ML κ ν} {k : κ} {v : ν} {c : Nat} {x : κ × ν × Nat} (h : x ∈ mupd l k v c) : (x.1 = k ∧ x.2.1 = v) ∨ (x.1 ≠ k ∧ x ∈ l) := by
  cases hg : mget l k with
  | none =>
    rw [mupd_none hg] at h
    rcases List.mem_append.1 h with h | h
    · exact .inr ⟨mget_none hg x h, h⟩
    · simp at h; subst h; exact .inl ⟨rfl, rfl⟩
  | some v' =>
    rw [mupd_some (by rw [hg]; rfl)] at h
    obtain ⟨y, hy, rfl⟩ := List.mem_map.1 h
    by_cases e : y.1 = k
    · rw [if_pos e]; exact .inl ⟨e, rfl⟩
    · rw [if_neg e]; exact .inr ⟨e, hy⟩
theorem key_inj {ok : κ → Prop} {l : ML κ ν} {c : Nat} (h : MOk ok l c) {x y : κ × ν × Nat} (hx : x ∈ l) (hy : y ∈ l) (e : x.1 = y.1) : x = y := by
  have h1 := h.keys
  clear h
  induction l with
  | nil => cases hx
  | cons z l ih =>
    simp only [List.map_cons, List.nodup_cons] at h1
    rcases List.mem_cons.1 hx with e1 | hx1 <;> rcases List.mem_cons.1 hy with e2 | hy1
    · rw [e1, e2]
    · exact absurd (List.mem_map.2 ⟨y, hy1, by rw [← e, e1]⟩) h1.1
    · exact absurd (List.mem_map.2 ⟨x, hx1, by rw [e, e2]⟩) h1.1
    · exact ih hx1 hy1 h1.2
theorem born_inj {ok : κ → Prop} {l : ML κ ν} {c : Nat} (h : MOk ok l c) {x y : κ × ν × Nat} (hx : x ∈ l) (hy : y ∈ l) (e : x.2.2 = y.2.2) : x = y := by
  have h1 := h.born
  clear h
  induction l with
  | nil => cases hx
  | cons z l ih =>
    simp only [List.map_cons, List.nodup_cons] at h1
    rcases List.mem_cons.1 hx with e1 | hx1 <;> rcases List.mem_cons.1 hy with e2 | hy1
    · rw [e1, e2]
    · exact absurd (List.mem_map.2 ⟨y, hy1, by rw [← e, e1]⟩) h1.1
    · exact absurd (List.mem_map.2 ⟨x, hx1, by rw [e, e2]⟩) h1.1
    · exact ih hx1 hy1 h1.2
theorem map_put_keys {l : ML κ ν} {k : κ} {v : ν} : (l.map (fun x => if x.1 = k then (x.1, v, x.2.2) else x)).map (·.1) = l.map (·.1) := by
  rw [List.map_map]; congr 1; funext x; simp only [Function.comp]; split <;> rfl
theorem map_put_born {l : ML κ ν} {k : κ} {v : ν} : (l.map (fun x => if x.1 = k then (x.1, v, x.2.2) else x)).map (·.2.2) = l.map (·.2.2) := by
  rw [List.map_map]; congr 1; funext x; simp only [Function.comp]; split <;> rfl
theorem MOk.upd {ok : κ → Prop} {l : ML κ ν} {c : Nat} (h : MOk ok l c) {k : κ} (hk : ok k) (v : ν) : MOk ok (mupd l k v c) (mclk l k c) := by
  cases hg : mget l k with
  | some v' =>
    rw [mupd_some (by rw [hg]; rfl), show mclk l k c = c from by simp [mclk, hg]]
    refine ⟨by rw [map_put_keys]; exact h.keys, by rw [map_put_born]; exact h.born, ?_, ?_⟩
    · intro x hx
      obtain ⟨y, hy, rfl⟩ := List.mem_map.1 hx
      split <;> exact h.old y hy
    · intro x hx
      obtain ⟨y, hy, rfl⟩ := List.mem_map.1 hx
      split <;> exact h.fine y hy
  | none =>
    rw [mupd_none hg, show mclk l k c = c + 1 from by simp [mclk, hg]]
    have hn := mget_none hg
    refine ⟨?_, ?_, ?_, ?_⟩
    · rw [List.map_append, List.nodup_append]
      refine ⟨h.keys, by simp, ?_⟩
      intro a ha b hb
      simp at hb; subst hb
      obtain ⟨y, hy, rfl⟩ := List.mem_map.1 ha
      exact hn y hy
    · rw [List.map_append, List.nodup_append]
      refine ⟨h.born, by simp, ?_⟩
      intro a ha b hb
      simp at hb; subst hb
      obtain ⟨y, hy, rfl⟩ := List.mem_map.1 ha
      have := h.old y hy; omega
    · intro x hx
      rcases List.mem_append.1 hx with hx | hx
      · have := h.old x hx; omega
      · simp at hx; subst hx; simp
    · intro x hx
      rcases List.mem_append.1 hx with hx | hx
      · exact h.fine x hx
      · simp at hx; subst hx; exact hk
theorem MOk.del {ok : κ → Prop} {l : ML κ ν} {c : Nat} (h : MOk ok l c) (k : κ) : MOk ok (mdel l k) c :=
  ⟨h.keys.sublist (List.Sublist.map _ List.filter_sublist), h.born.sublist (List.Sublist.map _ List.filter_sublist), fun x hx => h.old x (List.mem_filter.1 hx).1, fun x hx => h.fine x (List.mem_filter.1 hx).1⟩
theorem MOk.nil {ok : κ → Prop} : MOk (κ := κ) (ν := ν) ok [] 0 := ⟨by simp, by simp, by simp, by simp⟩
theorem mget_upd {l : ML κ ν} {k k' : κ} {v : ν} {c : Nat} : mget (mupd l k v c) k' = if k' = k then some v else mget l k' := by
  cases hg : mget l k with
  | none =>
    rw [mupd_none hg]
    simp only [mget, List.find?_append]
    by_cases e : k' = k
    · subst e
      have : l.find? (fun x => x.1 == k') = none := by simpa [mget] using hg
      simp [this]
    · have e' : ¬ k = k' := fun h => e h.symm
      simp [e, e']
  | some v' =>
    rw [mupd_some (by rw [hg]; rfl)]
    obtain ⟨c', hm⟩ := mget_some_mem hg
    clear hg
    induction l with
    | nil => cases hm
    | cons x l ih =>
      simp only [mget, List.map_cons, List.find?_cons]
      by_cases ex : x.1 = k
      · by_cases e : k' = k
        · subst e; simp [ex]
        · have e' : ¬ x.1 = k' := fun h => e (by rw [← h, ex])
          simp only [ex, if_true, beq_eq_false_iff_ne.2 (ex ▸ e'), e, if_false]
          by_cases hml : (k, v', c') ∈ l
          · have := ih hml
            simp only [mget, e, if_false] at this
            exact this
          · have hnk : ∀ y ∈ l, y.1 = k' → (if y.1 = k then (y.1, v, y.2.2) else y) = y := by
              intro y _ hy; rw [if_neg (by rw [hy]; exact e)]
            clear ih hm hml
            induction l with
            | nil => rfl
            | cons y l ih2 =>
              simp only [List.map_cons, List.find?_cons]
              by_cases ey : y.1 = k
              · simp only [ey, if_true, beq_eq_false_iff_ne.2 (ex ▸ e')]
                exact ih2 fun z hz => hnk z (by simp [hz])
              · simp only [ey, if_false]
                by_cases ey' : y.1 = k'
                · simp [ey']
                · simp only [beq_eq_false_iff_ne.2 ey']
                  exact ih2 fun z hz => hnk z (by simp [hz])
      · have hml : (k, v', c') ∈ l := by
          rcases List.mem_cons.1 hm with h | h
          · exact absurd (by rw [← h]) ex
          · exact h
        simp only [ex, if_false]
        by_cases ex' : x.1 = k'
        · subst ex'; simp [ex]
        · simp only [beq_eq_false_iff_ne.2 ex']
          exact ih hml
theorem mget_del {l : ML κ ν} {k k' : κ} : mget (mdel l k) k' = if k' = k then none else mget l k' := by
  induction l with
  | nil => simp [mdel, mget]
  | cons x l ih =>
    simp only [mdel, mget, List.filter_cons] at ih ⊢
    by_cases ex : x.1 = k
    · simp only [ex, bne_self_eq_false, Bool.false_eq_true, if_false]
      rw [ih]
      by_cases e : k' = k
      · simp [e]
      · have e' : ¬ k = k' := fun h => e h.symm
        simp only [e, if_false, List.find?_cons, ex, beq_eq_false_iff_ne.2 e']
    · simp only [bne_iff_ne.2 ex, if_true, List.find?_cons]
      by_cases ex' : x.1 = k'
      · subst ex'; simp [ex]
      · simp only [beq_eq_false_iff_ne.2 ex']
        exact ih
end

section heap
variable {P : Program} {w : World} {H : Heap} {κ : Type} [DecidableEq κ] {ok : κ → Prop} {enc : κ → Value} {mt kt et : TypeId} {m : Nat} {l : ML κ Value} {c : Nat}

theorem get_h {o : Obj} {r : Nat} (hw : w.heap = H) (h : H[r]? = some o) (hno : ∀ c e f, o ≠ .cells c e f) : (getObj r).run P w = .ok o w := by
  subst hw
  cases o <;> first | (exact absurd rfl (hno _ _ _)) | simp [getObj, Sem.run, h]
theorem setObj_h {o o' : Obj} {r : Nat} (hw : w.heap = H) (h : H[r]? = some o) (hno : ∀ c e f, o ≠ .cells c e f) : (setObj r o').run P w = .ok () { w with heap := H.setIfInBounds r o' } := by
  subst hw
  cases o <;> first | (exact absurd rfl (hno _ _ _)) | simp [setObj, Sem.run, h]

theorem findIdx_get {l : ML κ Value} {k : κ} : ((l.findIdx? (fun x => x.1 == k)).bind fun i => (l[i]?).map fun x => (i, x.2.1)).map (·.2) = mget l k := by
  induction l with
  | nil => rfl
  | cons x l ih =>
    simp only [List.findIdx?_cons, mget, List.find?_cons]
    by_cases e : x.1 = k
    · simp [e]
    · simp only [beq_eq_false_iff_ne.2 e]
      refine Eq.trans ?_ ih
      cases List.findIdx? (fun x => x.1 == k) l with
      | none => simp
      | some i =>
        simp only [Bool.false_eq_true, if_false, Option.map_some, Option.bind_some, List.getElem?_cons_succ]
        cases l[i]? <;> rfl

theorem lookup_h (K : KeyOk P kt κ ok enc) (hu : P.underlying mt = some (.map kt et)) {z : Value} (hz : ∀ w, (zeroValue et).run P w = .ok z w) (hw : w.heap = H) (hm : H[m]? = some (.map (ents enc l) c)) (hl : MOk ok l c) {k : κ} (hk : ok k) :
    (Instr.lookup mt (.map (some m)) (enc k) true).run P w = .ok (.tuple #[(mget l k).getD z, .bool (mget l k).isSome]) w := by
  have hf := K.find w k (ents enc l).toList l hk hl.fine (by simp [ents])
  have hg := findIdx_get (l := l) (k := k)
  generalize ((l.findIdx? (fun x => x.1 == k)).bind fun i => (l[i]?).map fun x => (i, x.2.1)) = r at hf hg
  simp only [Instr.lookup, Sem.run_bind, run_underlying' hu, Result.andThen_ok, get_h hw hm (by intros; simp), Sem.run_pure, K.chk w k _ hk, hf]
  rw [← hg]
  cases r with
  | none => simp [hz]
  | some x => simp
/-- Out of a map that is nil. -/
theorem lookup_nil (K : KeyOk P kt κ ok enc) (hu : P.underlying mt = some (.map kt et)) {z : Value} (hz : ∀ w, (zeroValue et).run P w = .ok z w) {k : κ} (hk : ok k) :
    (Instr.lookup mt (.map none) (enc k) true).run P w = .ok (.tuple #[z, .bool false]) w := by
  have hf := K.find w k [] [] hk (by simp) rfl
  simp only [Instr.lookup, Sem.run_bind, run_underlying' hu, Result.andThen_ok, Sem.run_pure, K.chk w k _ hk, hf]
  simp [hz]

theorem modify_put (hn : (l.map (·.1)).Nodup) {k : κ} {v : Value} {i : Nat} {x : κ × Value × Nat} (hi : l.findIdx? (fun x => x.1 == k) = some i) (hx : l[i]? = some x) :
    (ents enc l).modify i (fun e => { e with key := enc k, val := v }) = ents enc (l.map (fun x => if x.1 = k then (x.1, v, x.2.2) else x)) := by
  rw [List.findIdx?_eq_some_iff_getElem] at hi
  obtain ⟨hlt, hk, _⟩ := hi
  simp only [beq_iff_eq] at hk
  apply Array.ext_getElem?
  intro j
  rw [Array.getElem?_modify]
  simp only [ents, List.getElem?_toArray, List.getElem?_map, List.map_map]
  by_cases hj : i = j
  · subst hj
    simp only [if_true]
    rw [List.getElem?_eq_getElem hlt]
    simp [hk]
  · simp only [hj, if_false]
    by_cases hjl : j < l.length
    · rw [List.getElem?_eq_getElem hjl]
      simp only [Option.map_some, Function.comp]
      have hne : l[j].1 ≠ k := by
        intro e
        have := List.pairwise_iff_getElem.1 hn
        rcases Nat.lt_or_gt_of_ne hj with h | h
        · exact this i j (by simpa using hlt) (by simpa using hjl) h (by simp [hk, e])
        · exact this j i (by simpa using hjl) (by simpa using hlt) h (by simp [hk, e])
      simp [hne]
    · rw [List.getElem?_eq_none (by omega)]; rfl

theorem findIdx_none {k : κ} (h : mget l k = none) : l.findIdx? (fun x => x.1 == k) = none := by
  rw [List.findIdx?_eq_none_iff]
  intro x hx
  simp [mget_none h x hx]
theorem findIdx_some {k : κ} {v : Value} (h : mget l k = some v) : ∃ i x, l.findIdx? (fun x => x.1 == k) = some i ∧ l[i]? = some x ∧ x.1 = k := by
  cases hf : l.findIdx? (fun x => x.1 == k) with
  | none =>
    rw [List.findIdx?_eq_none_iff] at hf
    obtain ⟨c, hm⟩ := mget_some_mem h
    have := hf _ hm
    simp at this
  | some i =>
    have h2 := List.findIdx?_eq_some_iff_getElem.1 hf
    obtain ⟨hlt, hk, _⟩ := h2
    simp only [beq_iff_eq] at hk
    exact ⟨i, l[i], rfl, List.getElem?_eq_getElem hlt, hk⟩

theorem update_h (K : KeyOk P kt κ ok enc) (hu : P.underlying mt = some (.map kt et)) (hw : w.heap = H) (hm : H[m]? = some (.map (ents enc l) c)) (hl : MOk ok l c) {k : κ} (hk : ok k) (v : Value) :
    (Instr.mapUpdate mt (.map (some m)) (enc k) v).run P w = .ok () { w with heap := H.setIfInBounds m (.map (ents enc (mupd l k v c)) (mclk l k c)) } := by
  have hf := K.find w k (ents enc l).toList l hk hl.fine (by simp [ents])
  simp only [Instr.mapUpdate, Sem.run_bind, run_underlying' hu, Result.andThen_ok, get_h hw hm (by intros; simp), K.chk w k _ hk, hf]
  cases hg : mget l k with
  | none =>
    simp only [findIdx_none hg, Option.bind_none]
    rw [setObj_h hw hm (by intros; simp)]
    congr 4
    rw [mupd_none hg]
    · simp [ents]
    · simp [mclk, hg]
  | some v' =>
    obtain ⟨i, x, hi, hx, hxk⟩ := findIdx_some hg
    simp only [hi, Option.bind_some, hx, Option.map_some]
    have hkey : ((ents enc l)[i]?.map (·.key)).getD (enc k) = enc k := by
      simp [ents, hx, hxk]
    simp only [Sem.run_bind, hkey, Instr.keyThatStays, K.same k hk, if_true, Sem.run_pure, Result.andThen_ok]
    rw [setObj_h hw hm (by intros; simp)]
    congr 4
    · rw [modify_put hl.keys hi hx, mupd_some (by rw [hg]; rfl)]
    · simp [mclk, hg]

theorem map_erase {α β : Type} (f : α → β) : ∀ (l : List α) (i : Nat), (l.eraseIdx i).map f = (l.map f).eraseIdx i
  | [], _ => rfl
  | _ :: _, 0 => rfl
  | x :: l, i + 1 => by simp only [List.eraseIdx_cons_succ, List.map_cons, map_erase f l i]
theorem erase_filter : ∀ {l : ML κ Value} (hn : (l.map (·.1)).Nodup) {k : κ} {i : Nat} (hi : l.findIdx? (fun x => x.1 == k) = some i), l.eraseIdx i = l.filter fun x => x.1 != k
  | [], _, _, _, hi => by simp at hi
  | x :: l, hn, k, i, hi => by
    simp only [List.map_cons, List.nodup_cons] at hn
    rw [List.findIdx?_cons] at hi
    by_cases e : x.1 = k
    · simp only [e, beq_self_eq_true, if_true, Option.some.injEq] at hi
      subst hi
      simp only [List.eraseIdx_cons_zero, List.filter_cons, e, bne_self_eq_false, Bool.false_eq_true, if_false]
      symm
      rw [List.filter_eq_self]
      intro y hy
      simp only [bne_iff_ne, ne_eq]
      intro h
      exact hn.1 (by rw [e, ← h]; exact List.mem_map.2 ⟨y, hy, rfl⟩)
    · simp only [beq_eq_false_iff_ne.2 e, Bool.false_eq_true, if_false, Option.map_eq_some_iff] at hi
      obtain ⟨j, hj, rfl⟩ := hi
      simp only [List.eraseIdx_cons_succ, List.filter_cons, bne_iff_ne.2 e, if_true]
      rw [erase_filter hn.2 hj]

theorem delete_h (K : KeyOk P kt κ ok enc) (hu : P.underlying mt = some (.map kt et)) {ks ty : TypeId} (hw : w.heap = H) (hm : H[m]? = some (.map (ents enc l) c)) (hl : MOk ok l c) {k : κ} (hk : ok k) :
    (Builtin.delete_ #[mt, ks] ty #[.map (some m), enc k]).run P w = .ok (.tuple #[]) { w with heap := H.setIfInBounds m (.map (ents enc (mdel l k)) c) } := by
  have hf := K.find w k (ents enc l).toList l hk hl.fine (by simp [ents])
  simp only [Builtin.delete_, List.getElem?_toArray, List.getElem?_cons_zero, List.getElem?_cons_succ, Sem.run_bind, run_underlying' hu, Result.andThen_ok, get_h hw hm (by intros; simp), K.chk w k _ hk, hf]
  cases hg : mget l k with
  | none =>
    simp only [findIdx_none hg, Option.bind_none, Sem.run_bind]
    rw [setObj_h hw hm (by intros; simp)]
    simp only [Result.andThen_ok, Sem.run_pure]
    have : mdel l k = l := by
      rw [mdel, List.filter_eq_self]
      intro x hx
      simp [mget_none hg x hx]
    rw [this]
  | some v' =>
    obtain ⟨i, x, hi, hx, hxk⟩ := findIdx_some hg
    simp only [hi, Option.bind_some, hx, Option.map_some, Sem.run_bind]
    rw [setObj_h hw hm (by intros; simp)]
    simp only [Result.andThen_ok, Sem.run_pure]
    have : (ents enc l).eraseIdxIfInBounds i = ents enc (mdel l k) := by
      rw [mdel, ← erase_filter hl.keys hi]
      apply Array.ext'
      simp only [ents, Array.toList_eraseIdxIfInBounds, map_erase]
    rw [this]

theorem makeMap_h (hw : w.heap = H) : (Instr.makeMap mt none).run P w = .ok (.map (some H.size)) { w with heap := H.push (.map #[] 0) } := by
  subst hw; simp [Instr.makeMap]
theorem len_map_h {ty : TypeId} (hu : P.underlying mt = some (.map kt et)) (hw : w.heap = H) (hm : H[m]? = some (.map (ents enc l) c)) : (Builtin.len_ #[mt] ty #[.map (some m)]).run P w = .ok (.int .i64 (l.length : Int)) w := by
  simp only [Builtin.len_, List.getElem?_toArray, List.getElem?_cons_zero, Sem.run_bind, run_underlying' hu, get_h hw hm (by intros; simp), Result.andThen_ok, Sem.run_pure]
  simp [ents]
  rfl
theorem range_h (hu : P.underlying mt = some (.map kt et)) (hw : w.heap = H) (hm : H[m]? = some (.map (ents enc l) c)) :
    (Instr.range mt (.map (some m))).run P w = .ok (.pointer (some ⟨H.size, 0, none⟩)) { w with heap := H.push (.mapIter (some m) c #[] c) } := by
  subst hw
  simp only [Instr.range, Sem.run_bind, run_underlying' hu, get_h rfl hm (by intros; simp), Result.andThen_ok, Sem.run_pure, run_newObj]
theorem next_h {ty : TypeId} {r since last : Nat} {seen : Array Nat} (hw : w.heap = H) (hm : H[m]? = some (.map (ents enc l) c)) (hr : H[r]? = some (.mapIter (some m) since seen last)) (hold : ∀ x ∈ l, x.2.2 < since) (hsl : since ≤ last) :
    ((∀ x ∈ l, x.2.2 ∈ seen) ∧ ∃ w', (Instr.next (.pointer (some ⟨r, 0, none⟩)) false ty).run P w = .ok (.tuple #[.bool false]) w' ∧ Calm w w' ∧ w'.heap = H) ∨
    ∃ x ∈ l, x.2.2 ∉ seen ∧ ∃ w', (Instr.next (.pointer (some ⟨r, 0, none⟩)) false ty).run P w = .ok (.tuple #[.bool true, enc x.1, x.2.1]) w' ∧ Calm w w' ∧ w'.heap = H.setIfInBounds r (.mapIter (some m) since (seen.push x.2.2) c) := by
  subst hw
  rcases run_next_at (P := P) w ty r m since last seen (ents enc l) c hr hm (by intro x hx; simp only [ents] at hx; obtain ⟨y, hy, rfl⟩ := List.mem_map.1 hx; exact hold y hy) hsl with ⟨h0, h1⟩ | ⟨e, he, w1, hw1, h1⟩
  · left
    refine ⟨fun x hx => ?_, w, h1, .refl w, rfl⟩
    have h2 : leftOf (ents enc l) seen = #[] := Array.eq_empty_of_size_eq_zero h0
    unfold leftOf at h2
    rw [Array.filter_eq_empty_iff] at h2
    have := h2 ⟨enc x.1, x.2.1, x.2.2⟩ (by simp [ents]; exact ⟨_, _, _, hx, rfl, rfl, rfl⟩)
    simpa using this
  · right
    simp only [leftOf, ents, Array.toList_filter, List.mem_filter] at he
    obtain ⟨h2, h3⟩ := he
    obtain ⟨x, hx, rfl⟩ := List.mem_map.1 h2
    refine ⟨x, hx, by simpa using h3, _, h1, ?_, ?_⟩
    · rcases hw1 with rfl | rfl <;> first | exact ⟨rfl, rfl, rfl, Nat.le_refl _⟩ | exact ⟨rfl, rfl, rfl, Nat.le_succ _⟩
    · rcases hw1 with rfl | rfl <;> rfl
theorem entry_h {r since last : Nat} {seen : Array Nat} (hw : w.heap = H) (hm : H[m]? = some (.map (ents enc l) c)) {x : κ × Value × Nat} (hr : H[r]? = some (.mapIter (some m) since (seen.push x.2.2) c)) (hx : x ∈ l) (hl : MOk ok l c) :
    (Instr.entry (.pointer (some ⟨r, 0, none⟩))).run P w = .ok (.tuple #[enc x.1, x.2.1]) w := by
  subst hw
  refine run_entry_at w r m since seen (ents enc l) c ⟨enc x.1, x.2.1, x.2.2⟩ hr hm (by simp only [ents]; exact List.mem_map.2 ⟨x, hx, rfl⟩) ?_
  have := hl.born
  simp only [ents, List.map_map]
  exact this
end heap

/-- The entries with their values as the model has them. -/
def vl {κ ν : Type} (ev : ν → Value) (l : ML κ ν) : ML κ Value := l.map fun x => (x.1, ev x.2.1, x.2.2)
section views
variable {P : Program} {w : World} {H : Heap} {κ ν : Type} [DecidableEq κ] {ok : κ → Prop} {enc : κ → Value} {ev : ν → Value} {mt kt et : TypeId} {m : Nat} {l : ML κ ν} {c : Nat}
theorem mget_vl {k : κ} : mget (vl ev l) k = (mget l k).map ev := by
  induction l with
  | nil => rfl
  | cons x l ih =>
    simp only [vl, mget, List.map_cons, List.find?_cons] at ih ⊢
    by_cases e : x.1 = k
    · simp [e]
    · simp only [beq_eq_false_iff_ne.2 e]; exact ih
theorem mupd_vl {k : κ} {v : ν} : mupd (vl ev l) k (ev v) c = vl ev (mupd l k v c) := by
  unfold mupd
  rw [mget_vl]
  cases mget l k with
  | none => simp [vl]
  | some v' =>
    simp only [Option.map_some, Option.isSome_some, if_true]
    simp only [vl, List.map_map]
    congr 1
    funext x
    simp only [Function.comp]
    split <;> rfl
theorem mclk_vl {k : κ} : mclk (vl ev l) k c = mclk l k c := by
  unfold mclk; rw [mget_vl]; cases mget l k <;> rfl
theorem mdel_vl {k : κ} : mdel (vl ev l) k = vl ev (mdel l k) := by
  simp only [mdel, vl, List.filter_map]
  rfl
theorem MOk.vl (h : MOk ok l c) : MOk ok (vl ev l) c := by
  refine ⟨?_, ?_, ?_, ?_⟩
  · have := h.keys; simp only [Fw.vl, List.map_map]; exact this
  · have := h.born; simp only [Fw.vl, List.map_map]; exact this
  · intro x hx; obtain ⟨y, hy, rfl⟩ := List.mem_map.1 hx; exact h.old y hy
  · intro x hx; obtain ⟨y, hy, rfl⟩ := List.mem_map.1 hx; exact h.fine y hy
theorem lookup_v (K : KeyOk P kt κ ok enc) (hu : P.underlying mt = some (.map kt et)) {z : Value} (hz : ∀ w, (zeroValue et).run P w = .ok z w) (hw : w.heap = H) (hm : H[m]? = some (.map (ents enc (vl ev l)) c)) (hl : MOk ok l c) {k : κ} (hk : ok k) :
    (Instr.lookup mt (.map (some m)) (enc k) true).run P w = .ok (.tuple #[((mget l k).map ev).getD z, .bool (mget l k).isSome]) w := by
  rw [lookup_h K hu hz hw hm hl.vl hk, mget_vl]
  cases mget l k <;> rfl
theorem update_v (K : KeyOk P kt κ ok enc) (hu : P.underlying mt = some (.map kt et)) (hw : w.heap = H) (hm : H[m]? = some (.map (ents enc (vl ev l)) c)) (hl : MOk ok l c) {k : κ} (hk : ok k) (v : ν) {y : Value} (hy : y = ev v) :
    (Instr.mapUpdate mt (.map (some m)) (enc k) y).run P w = .ok () { w with heap := H.setIfInBounds m (.map (ents enc (vl ev (mupd l k v c))) (mclk l k c)) } := by
  subst hy
  rw [update_h K hu hw hm hl.vl hk, mupd_vl, mclk_vl]
theorem delete_v (K : KeyOk P kt κ ok enc) (hu : P.underlying mt = some (.map kt et)) {ks ty : TypeId} (hw : w.heap = H) (hm : H[m]? = some (.map (ents enc (vl ev l)) c)) (hl : MOk ok l c) {k : κ} (hk : ok k) :
    (Builtin.delete_ #[mt, ks] ty #[.map (some m), enc k]).run P w = .ok (.tuple #[]) { w with heap := H.setIfInBounds m (.map (ents enc (vl ev (mdel l k))) c) } := by
  rw [delete_h K hu hw hm hl.vl hk, mdel_vl]
theorem len_map_v {ty : TypeId} (hu : P.underlying mt = some (.map kt et)) (hw : w.heap = H) (hm : H[m]? = some (.map (ents enc (vl ev l)) c)) : (Builtin.len_ #[mt] ty #[.map (some m)]).run P w = .ok (.int .i64 (l.length : Int)) w := by
  rw [len_map_h hu hw hm]; simp [vl]
theorem next_v {ty : TypeId} {r since last : Nat} {seen : Array Nat} (hw : w.heap = H) (hm : H[m]? = some (.map (ents enc (vl ev l)) c)) (hr : H[r]? = some (.mapIter (some m) since seen last)) (hold : ∀ x ∈ l, x.2.2 < since) (hsl : since ≤ last) :
    ((∀ x ∈ l, x.2.2 ∈ seen) ∧ ∃ w', (Instr.next (.pointer (some ⟨r, 0, none⟩)) false ty).run P w = .ok (.tuple #[.bool false]) w' ∧ Calm w w' ∧ w'.heap = H) ∨
    ∃ x ∈ l, x.2.2 ∉ seen ∧ ∃ w', (Instr.next (.pointer (some ⟨r, 0, none⟩)) false ty).run P w = .ok (.tuple #[.bool true, enc x.1, ev x.2.1]) w' ∧ Calm w w' ∧ w'.heap = H.setIfInBounds r (.mapIter (some m) since (seen.push x.2.2) c) := by
  rcases next_h (P := P) (ty := ty) hw hm hr (by intro x hx; obtain ⟨y, hy, rfl⟩ := List.mem_map.1 hx; exact hold y hy) hsl with ⟨h1, h2⟩ | ⟨x, hx, h1, h2⟩
  · exact .inl ⟨fun x hx => h1 (x.1, ev x.2.1, x.2.2) (List.mem_map.2 ⟨x, hx, rfl⟩), h2⟩
  · obtain ⟨y, hy, rfl⟩ := List.mem_map.1 hx
    exact .inr ⟨y, hy, h1, h2⟩
theorem entry_v {r since last : Nat} {seen : Array Nat} (hw : w.heap = H) (hm : H[m]? = some (.map (ents enc (vl ev l)) c)) {x : κ × ν × Nat} (hr : H[r]? = some (.mapIter (some m) since (seen.push x.2.2) c)) (hx : x ∈ l) (hl : MOk ok l c) :
    (Instr.entry (.pointer (some ⟨r, 0, none⟩))).run P w = .ok (.tuple #[enc x.1, ev x.2.1]) w :=
  entry_h (x := (x.1, ev x.2.1, x.2.2)) (last := last) hw hm hr (List.mem_map.2 ⟨x, hx, rfl⟩) hl.vl
/-- What is left of a range gets less. -/
theorem left_lt {seen : Array Nat} {x : κ × ν × Nat} (hx : x ∈ l) (hn : x.2.2 ∉ seen) :
    (l.filter fun y => !(seen.push x.2.2).contains y.2.2).length < (l.filter fun y => !seen.contains y.2.2).length := by
  have hsub : ∀ y : κ × ν × Nat, (!(seen.push x.2.2).contains y.2.2) = true → (!seen.contains y.2.2) = true := by
    intro y hy
    simp only [Bool.not_eq_true', Array.contains_eq_mem, Array.mem_push, decide_eq_false_iff_not, not_or] at hy ⊢
    exact hy.1
  induction l with
  | nil => cases hx
  | cons y l ih =>
    have hle : ∀ l : ML κ ν, (l.filter fun y => !(seen.push x.2.2).contains y.2.2).length ≤ (l.filter fun y => !seen.contains y.2.2).length := by
      intro l
      rw [← List.countP_eq_length_filter, ← List.countP_eq_length_filter]
      exact List.countP_mono_left fun z _ => hsub z
    rcases List.mem_cons.1 hx with rfl | hx
    · have h1 : (!(seen.push x.2.2).contains x.2.2) = false := by simp
      have h2 : (!seen.contains x.2.2) = true := by simp [hn]
      simp only [List.filter_cons, h1, h2, Bool.false_eq_true, if_false, if_true, List.length_cons]
      have := hle l; omega
    · have := ih hx
      simp only [List.filter_cons]
      by_cases h : (!(seen.push x.2.2).contains y.2.2) = true
      · simp only [h, hsub y h, if_true, List.length_cons]; omega
      · rw [if_neg h]
        by_cases h2 : (!seen.contains y.2.2) = true
        · rw [if_pos h2, List.length_cons]; omega
        · rw [if_neg h2]; exact this
theorem contains_push_ne {seen : Array Nat} {a b : Nat} (h : b ≠ a) : (seen.push a).contains b = seen.contains b := by
  simp only [Array.contains_eq_mem, Array.mem_push, h, or_false]
/-- What has come in a range gets one more. -/
theorem seen_perm {seen : Array Nat} {x : κ × ν × Nat} (hb : (l.map (·.2.2)).Nodup) (hx : x ∈ l) (hn : x.2.2 ∉ seen) :
    (l.filter fun y => (seen.push x.2.2).contains y.2.2).Perm ((l.filter fun y => seen.contains y.2.2) ++ [x]) := by
  induction l with
  | nil => cases hx
  | cons y l ih =>
    simp only [List.map_cons, List.nodup_cons] at hb
    by_cases hxy : x = y
    · subst hxy
      have h1 : (l.filter fun y => (seen.push x.2.2).contains y.2.2) = l.filter fun y => seen.contains y.2.2 := by
        apply List.filter_congr
        intro z hz
        exact contains_push_ne fun h => hb.1 (h ▸ List.mem_map_of_mem hz)
      have h2 : (seen.push x.2.2).contains x.2.2 = true := by simp
      have h3 : seen.contains x.2.2 = false := by simpa using hn
      simp only [List.filter_cons, h2, h3, if_true, h1, Bool.false_eq_true, if_false]
      exact (List.perm_append_singleton _ _).symm
    · have hxl : x ∈ l := by
        rcases List.mem_cons.1 hx with h | h
        · exact absurd h hxy
        · exact h
      have hne : y.2.2 ≠ x.2.2 := fun h => hb.1 (h ▸ List.mem_map_of_mem hxl)
      simp only [List.filter_cons, contains_push_ne hne]
      split
      · exact (ih hb.2 hxl).cons _
      · exact ih hb.2 hxl
end views
/-- A slice, as a value. -/
def slcV (x : Option Addr × Nat × Nat) : Value := .slice x.1 x.2.1 x.2.2
theorem genT_of {P : Program} {m : Sem Value} {l : List Sh} {w : World} {K : Tup l → Prop} (t : Tup l) (h : m.run P w = .ok (.tuple (Tup.vals l t).toArray) w) (hK : K t) : genT P m l w K := ⟨t, h, hK⟩
theorem exV_of {v : Value} {i : Nat} {s : Sh} {K : s.T → Prop} {vs : Array Value} (t : s.T) (hv : v = .tuple vs) (h : vs[i]? = some (s.val t)) (hK : K t) : exV v i s K := ⟨vs, t, hv, h, hK⟩
theorem genU_of {P : Program} {m : Sem Unit} {w : World} {K : World → Prop} (w' : World) (h : m.run P w = .ok () w') (hK : K w') (hc : Calm w w' := by first | exact ⟨rfl, rfl, rfl, Nat.le_refl _⟩ | exact ⟨rfl, rfl, rfl, Nat.le_succ _⟩) : genU P m w K := ⟨w', h, hc, hK⟩

section
variable {P : Program} {w : World}
theorem eqM_arr {t e : TypeId} {n : Nat} {x y : Operand} (hu : P.underlying t = some (.array n e)) (he : P.underlying e = some (.int .u8)) (hc : P.cellsOf e = 1) (hg : P.eqGuardType P.depth t = false) {A B : List UInt8} (hA : A.length = n) (hB : B.length = n) :
    (eqM .eql t x y (arr A) (arr B)).run P w = .ok (.bool (decide (A = B))) w := by
  have h := equal_arr (w := w) hu he hc hA hB
  unfold arr at h ⊢
  simp [eqM, eqGuard, binOp, hg, h]
theorem neqM_arr {t e : TypeId} {n : Nat} {x y : Operand} (hu : P.underlying t = some (.array n e)) (he : P.underlying e = some (.int .u8)) (hc : P.cellsOf e = 1) (hg : P.eqGuardType P.depth t = false) {A B : List UInt8} (hA : A.length = n) (hB : B.length = n) :
    (eqM .neq t x y (arr A) (arr B)).run P w = .ok (.bool (!decide (A = B))) w := by
  have h := equal_arr (w := w) hu he hc hA hB
  unfold arr at h ⊢
  simp [eqM, eqGuard, binOp, hg, h]
end
end Go.Fw
