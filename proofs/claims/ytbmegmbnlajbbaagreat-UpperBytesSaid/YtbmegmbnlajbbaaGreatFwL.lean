/- Laws for slices: slicing, copying, appending. -/
import Derived.Test.YtbmegmbnlajbbaaGreatFwK
namespace Go.Fw
open Go

/-- An optional bound: d where there is none. -/
def IxO (v : Option Value) (d n : Nat) : Prop := (v = none ∧ n = d) ∨ ∃ k, v = some (.int k (n : Int))
theorem IxO.no {d : Nat} : IxO none d d := .inl ⟨rfl, rfl⟩
theorem IxO.yes {d n : Nat} {k : IntKind} {i : Int} (h : i = (n : Int)) : IxO (some (.int k i)) d n := .inr ⟨k, by rw [h]⟩

section
variable {P : Program} {w : World}
theorem run_bounds {isS : Bool} {len cap l h : Nat} {lo hi : Option Value} (hlo : IxO lo 0 l) (hhi : IxO hi len h) (h1 : l ≤ h) (h2 : h ≤ cap) :
    (Instr.sliceBounds isS len cap lo hi none).run P w = .ok (l, h, cap) w := by
  have eh : ∀ k code, (Instr.sliceBound (.int k (h : Int)) cap code).run P w = .ok h w := by
    intro k code
    simp [Instr.sliceBound, asIntOf, h2]
  have el : ∀ k code, (Instr.sliceBound (.int k (l : Int)) h code).run P w = .ok l w := by
    intro k code
    simp [Instr.sliceBound, asIntOf, h1]
  rcases hlo with ⟨rfl, rfl⟩ | ⟨k, rfl⟩ <;> rcases hhi with ⟨rfl, rfl⟩ | ⟨k', rfl⟩ <;> simp [Instr.sliceBounds, eh, el]
/-- A slice of a slice. -/
theorem run_slice_slc {t e : TypeId} {sz : Nat} {a : Option Addr} {len cap l h : Nat} {lo hi : Option Value} (hu : P.underlying t = some (.slice e)) (hs : (P.info? e).map (·.size) = some sz) (hlo : IxO lo 0 l) (hhi : IxO hi len h) (h1 : l ≤ h) (h2 : h ≤ cap) :
    (Instr.sliceAt t (.slice a len cap) lo hi none).run P w = .ok (.slice (if cap = l then a else a.map (·.add (l * sz))) (h - l) (cap - l)) w := by
  simp [Instr.sliceAt, Instr.slice, run_underlying' hu, run_bounds hlo hhi h1 h2, run_sizeOf_info hs]
/-- A slice of an array. -/
theorem run_slice_arr {t e : TypeId} {sz n : Nat} {a : Addr} {l h : Nat} {lo hi : Option Value} (hu : P.underlying t = some (.array n e)) (hs : (P.info? e).map (·.size) = some sz) (hlo : IxO lo 0 l) (hhi : IxO hi n h) (h1 : l ≤ h) (h2 : h ≤ n) :
    (Instr.sliceAt t (.pointer (some a)) lo hi none).run P w = .ok (.slice (some (if n = l then a else a.add (l * sz))) (h - l) (n - l)) w := by
  simp [Instr.sliceAt, run_underlying' hu, Instr.sureAddr, run_bounds hlo hhi h1 h2, run_sizeOf_info hs]
/-- A slice of a string. -/
theorem run_slice_str {t : TypeId} {s : ByteArray} {l h : Nat} {lo hi : Option Value} (hu : P.underlying t = some .string) (hlo : IxO lo 0 l) (hhi : IxO hi s.size h) (h1 : l ≤ h) (h2 : h ≤ s.size) :
    (Instr.sliceAt t (.string s) lo hi none).run P w = .ok (.string (s.extract l h)) w := by
  simp [Instr.sliceAt, Instr.slice, run_underlying' hu, run_bounds hlo hhi h1 h2]

/-- The first n elements of a slice are these cells (sz cells an element). -/
def Cells (H : Heap) (a : Option Addr) (vs : List Value) : Prop :=
  vs = [] ∨ ∃ b o c T fr, a = some ⟨b, o, none⟩ ∧ H[b]? = some (.cells c T fr) ∧ o + vs.length ≤ c.size ∧ (c.extract o (o + vs.length)).toList = vs
theorem Cells.ext {M : List Nat} {H H' : Heap} {a : Option Addr} {vs : List Value} (h : Cells H a vs) (hx : Ext M H H') (hM : ∀ x, a = some x → vs ≠ [] → x.block ∉ M) : Cells H' a vs := by
  by_cases hv : vs = []
  · exact .inl hv
  rcases h with h | ⟨b, o, c, T, fr, rfl, hb, hn, he⟩
  · exact .inl h
  · exact .inr ⟨b, o, c, T, fr, rfl, hx.get hb (hM _ rfl hv), hn, he⟩
theorem Cells.lt {H : Heap} {a : Option Addr} {vs : List Value} (h : Cells H a vs) (hne : vs ≠ []) : ∃ x, a = some x ∧ x.block < H.size := by
  rcases h with h | ⟨b, o, c, T, fr, rfl, hb, hn, he⟩
  · exact absurd h hne
  · exact ⟨_, rfl, lt_of_get hb⟩
theorem loadCells_zero {a : Addr} : (loadCells a 0).run P w = .ok #[] w := rfl
theorem run_first {H : Heap} {a : Option Addr} {l c sz n : Nat} {vs : List Value} (hw : w.heap = H) (h : Cells H a vs) (hn : n * sz = vs.length) : (Builtin.firstCells sz n (.slice a l c)).run P w = .ok vs.toArray w := by
  rcases h with rfl | ⟨b, o, c', T, fr, rfl, hb, hle, he⟩
  · simp only [List.length_nil] at hn
    cases a with
    | none => rfl
    | some a => simp only [Builtin.firstCells, hn, loadCells_zero]
  · simp only [Builtin.firstCells, hn]
    rw [loadCells_h hw hb hle]
    congr 1
    apply Array.ext'
    simpa using he

/-- A part of known cells. -/
theorem Cells.part {H : Heap} {a : Option Addr} {vs : List Value} (h : Cells H a vs) (k m : Nat) (hk : k + m ≤ vs.length) : Cells H (a.map (·.add k)) ((vs.drop k).take m) := by
  rcases h with rfl | ⟨b, o, c, T, fr, rfl, hb, hle, he⟩
  · left; simp
  · right
    refine ⟨b, o + k, c, T, fr, by simp [add_none], hb, by simp; omega, ?_⟩
    have hl : ((vs.drop k).take m).length = m := by simp; omega
    rw [hl]
    conv => rhs; rw [← he]
    simp only [Array.toList_extract, List.extract_eq_take_drop, List.drop_take, List.take_take, List.drop_drop]
    congr 1
    omega

theorem Cells.take {H : Heap} {a : Option Addr} {vs : List Value} (h : Cells H a vs) (m : Nat) : Cells H a (vs.take m) := by
  by_cases hm : m ≤ vs.length
  · have := h.part 0 m (by omega)
    cases a with
    | none =>
      rcases h with rfl | ⟨b, o, c, T, fr, h, _⟩
      · left; simp
      · cases h
    | some a => simpa [Addr.add] using this
  · rw [List.take_of_length_le (by omega)]; exact h
/-- The address of a slice's end may stay where it was. -/
theorem Cells.drop {H : Heap} {a : Option Addr} {vs : List Value} (h : Cells H a vs) (k cap : Nat) (hcap : vs.length ≤ cap) : Cells H (if cap = k then a else a.map (·.add k)) (vs.drop k) := by
  by_cases hk : k < vs.length
  · rw [if_neg (by omega)]
    have := h.part k (vs.length - k) (by omega)
    rwa [List.take_of_length_le (by simp)] at this
  · left; exact List.drop_eq_nil_of_le (by omega)
def byteCells (L : List UInt8) : List Value := L.map fun b => .int .u8 (b.toNat : Int)
@[simp] theorem length_byteCells {L : List UInt8} : (byteCells L).length = L.length := by simp [byteCells]
theorem one_byteCells {L : List UInt8} : oneCells (byteCells L) := by
  intro v hv
  simp only [byteCells, List.mem_map] at hv
  obtain ⟨b, _, rfl⟩ := hv
  rfl
theorem byteCells_take {L : List UInt8} {n : Nat} : (byteCells L).take n = byteCells (L.take n) := by simp [byteCells]
theorem byteCells_drop {L : List UInt8} {n : Nat} : (byteCells L).drop n = byteCells (L.drop n) := by simp [byteCells]
theorem byteCells_append {L M : List UInt8} : byteCells L ++ byteCells M = byteCells (L ++ M) := by simp [byteCells]
theorem byteCells_get {L : List UInt8} {i : Nat} (h : i < L.length) : (byteCells L)[i]? = some (.int .u8 ((L.getD i 0).toNat : Int)) := by
  simp [byteCells, List.getD_eq_getElem?_getD, List.getElem?_eq_getElem h]
theorem Cells.bytes {H : Heap} {a : Option Addr} {L : List UInt8} (h : Cells H a (byteCells L)) (hne : L ≠ []) : ∃ b o c T fr, a = some ⟨b, o, none⟩ ∧ H[b]? = some (.cells c T fr) ∧ o + L.length ≤ c.size ∧ Bytes c o (fun i => L.getD i 0) L.length := by
  rcases h with h | ⟨b, o, c, T, fr, rfl, hb, hn, he⟩
  · exact absurd (by simpa [byteCells] using h) hne
  · refine ⟨b, o, c, T, fr, rfl, hb, by simpa using hn, fun i hi => ?_⟩
    have h1 := byteCells_get hi
    rw [← he, Array.getElem?_toList, Array.getElem?_extract] at h1
    simp only [length_byteCells] at h1 hn
    rw [if_pos (by omega)] at h1
    exact h1
theorem cells_bytes {H : Heap} {b o : Nat} {c : Array Value} {T : TypeId} {fr : Nat × Nat} {L : List UInt8} (hb : H[b]? = some (.cells c T fr)) (hn : o + L.length ≤ c.size) (h : Bytes c o (fun i => L.getD i 0) L.length) : Cells H (some ⟨b, o, none⟩) (byteCells L) := by
  refine .inr ⟨b, o, c, T, fr, rfl, hb, by simpa using hn, ?_⟩
  apply List.ext_getElem?
  intro i
  simp only [length_byteCells]
  by_cases hi : i < L.length
  · rw [byteCells_get hi, Array.getElem?_toList, Array.getElem?_extract, if_pos (by omega), h i hi]
  · rw [List.getElem?_eq_none (by simp; omega), List.getElem?_eq_none (by simp; omega)]

/-- Every cell is of one slot. -/
def AllOne (c : Array Value) : Prop := ∀ (i : Nat) (v : Value), c[i]? = some v → v.oneCell' = true
theorem AllOne.set {c : Array Value} (h : AllOne c) {k : Nat} {x : Value} (hx : x.oneCell' = true) : AllOne (c.setIfInBounds k x) := by
  intro i v hv
  by_cases e : k = i
  · subst e
    by_cases hk : k < c.size
    · simp [hk] at hv; subst hv; exact hx
    · rw [Array.getElem?_eq_none (by simp; omega)] at hv; cases hv
  · rw [Array.getElem?_setIfInBounds_ne e] at hv
    exact h i v hv
theorem AllOne.setCells {vs : List Value} : ∀ {c : Array Value} {o : Nat}, AllOne c → oneCells vs → AllOne (setCells c o vs) := by
  induction vs with
  | nil => intro c o h _; exact h
  | cons v r ih => intro c o h h1; exact ih (h.set (h1 v (by simp))) fun x hx => h1 x (by simp [hx])
theorem AllOne.one {c : Array Value} (h : AllOne c) : oneCells c.toList := by
  intro v hv
  obtain ⟨i, hi⟩ := List.getElem?_of_mem hv
  exact h i v (by simpa using hi)

/-- copy into a row that one may write. -/
theorem copy_h {H : Heap} {st xt e ty : TypeId} {sz bd od dl dc sl sc : Nat} {sa : Option Addr} {cd : Array Value} {Td : TypeId} {vs : List Value} (hu : P.underlying st = some (.slice e)) (hs : (P.info? e).map (·.size) = some sz)
    (hw : w.heap = H) (hsrc : Cells H sa vs) (hn : min sl dl * sz = vs.length) (h1 : oneCells vs) (hd : H[bd]? = some (.cells cd Td (0, 0))) (hdn : od + vs.length ≤ cd.size) :
    ∃ w', (Builtin.copy_ #[st, xt] ty #[.slice (some ⟨bd, od, none⟩) dl dc, .slice sa sl sc]).run P w = .ok (.int .i64 ((min sl dl : Nat) : Int)) w' ∧ Calm w w' ∧ w'.heap = H.setIfInBounds bd (.cells (setCells cd od vs) Td (0, 0)) := by
  obtain ⟨w', h2, h4, h3⟩ := storeCells_h (P := P) vs w H cd od 0 h1 hw hd (by simpa using hdn)
  refine ⟨w', ?_, h4, by simpa using h3⟩
  have hf := run_first (P := P) (l := sl) (c := sc) (sz := sz) (n := min sl dl) hw hsrc hn
  have hmin : Nat.min sl dl = min sl dl := rfl
  simp only [Builtin.copy_, List.getElem?_toArray, List.getElem?_cons_zero, List.getElem?_cons_succ, Sem.run_bind, run_underlying' hu, Result.andThen_ok, Builtin.lenOf, Sem.run_pure, run_sizeOf_info hs, hmin, hf, h2, goInt]

/-- A slice that one owns: at the head of a row of its own, from block B on. -/
def Mine (H : Heap) (B : Nat) (T : TypeId) (sz : Nat) (x : Option Addr × Nat × Nat) (vs : List Value) : Prop :=
  (x = (none, 0, 0) ∧ vs = []) ∨ ∃ b c, x.1 = some ⟨b, 0, none⟩ ∧ B ≤ b ∧ H[b]? = some (.cells c T (0, 0)) ∧ c.size = x.2.2 * sz ∧ vs.length = x.2.1 * sz ∧ x.2.1 ≤ x.2.2 ∧ (c.extract 0 vs.length).toList = vs
theorem Mine.cells {H : Heap} {B : Nat} {T : TypeId} {sz : Nat} {x : Option Addr × Nat × Nat} {vs : List Value} (h : Mine H B T sz x vs) : Cells H x.1 vs := by
  rcases h with ⟨_, rfl⟩ | ⟨b, c, hx, _, hb, hc, hl, hle, he⟩
  · exact .inl rfl
  · refine .inr ⟨b, 0, c, T, (0, 0), hx, hb, ?_, by simpa using he⟩
    rw [hl, hc]; simpa using Nat.mul_le_mul_right sz hle
theorem Mine.len {H : Heap} {B : Nat} {T : TypeId} {sz : Nat} {x : Option Addr × Nat × Nat} {vs : List Value} (h : Mine H B T sz x vs) : vs.length = x.2.1 * sz := by
  rcases h with ⟨rfl, rfl⟩ | ⟨b, c, hx, _, hb, hc, hl, hle, he⟩
  · simp
  · exact hl
/-- The block of an owned slice. -/
def ownM (x : Option Addr × Nat × Nat) : List Nat := match x.1 with | some a => [a.block] | none => []
theorem Mine.ext {M : List Nat} {H H' : Heap} {B : Nat} {T : TypeId} {sz : Nat} {x : Option Addr × Nat × Nat} {vs : List Value} (h : Mine H B T sz x vs) (hx : Ext M H H') (hM : ∀ b, b ∈ ownM x → b ∉ M) : Mine H' B T sz x vs := by
  rcases h with h | ⟨b, c, hx1, hB, hb, hc, hl, hle, he⟩
  · exact .inl h
  · exact .inr ⟨b, c, hx1, hB, hx.get hb (hM b (by simp [ownM, hx1])), hc, hl, hle, he⟩
theorem Mine.mono {H : Heap} {B B' : Nat} {T : TypeId} {sz : Nat} {x : Option Addr × Nat × Nat} {vs : List Value} (h : Mine H B T sz x vs) (hB : B' ≤ B) : Mine H B' T sz x vs := by
  rcases h with h | ⟨b, c, hx1, hB1, hb⟩
  · exact .inl h
  · exact .inr ⟨b, c, hx1, Nat.le_trans hB hB1, hb⟩
theorem ownM_ge {H : Heap} {B : Nat} {T : TypeId} {sz : Nat} {x : Option Addr × Nat × Nat} {vs : List Value} (h : Mine H B T sz x vs) : ∀ b, b ∈ ownM x → B ≤ b := by
  rcases h with ⟨rfl, _⟩ | ⟨b, c, hx1, hB, _⟩
  · simp [ownM]
  · simp [ownM, hx1, hB]

theorem growBy_le (newLen : Nat) : ∀ (r c : Nat), c ≤ 2 * newLen → Builtin.growBy newLen r c ≤ 2 * newLen + 192 := by
  intro r
  induction r with
  | zero => intro c h; simp only [Builtin.growBy]; omega
  | succ r ih =>
    intro c h
    simp only [Builtin.growBy]
    split
    · omega
    · rename_i hlt
      by_cases hb : c + (c + 768) / 4 ≤ 2 * newLen
      · exact ih _ hb
      · cases r with
        | zero => simp only [Builtin.growBy]; omega
        | succ r =>
          simp only [Builtin.growBy]
          rw [if_pos (by omega)]
          omega
theorem nextcap_le {newLen oldCap : Nat} (h : oldCap < newLen) : Builtin.nextslicecap newLen oldCap ≤ 2 * newLen + 192 := by
  unfold Builtin.nextslicecap
  split
  · omega
  · split
    · omega
    · exact growBy_le _ _ _ (by omega)

/-- What is appended: the cells of a slice, or of a string. -/
def Src (P : Program) (w : World) (v : Value) (sz n : Nat) (vs : List Value) : Prop := (Builtin.lenOf v).run P w = .ok n w ∧ vs.length = n * sz ∧ ∀ w', w'.heap = w.heap → (Builtin.firstCells sz n v).run P w' = .ok vs.toArray w'
theorem Src.slc {H : Heap} {a : Option Addr} {l c sz : Nat} {vs : List Value} (hw : w.heap = H) (h : Cells H a vs) (hl : vs.length = l * sz) : Src P w (.slice a l c) sz l vs :=
  ⟨rfl, hl, fun w' hw' => run_first (hw'.trans hw) h hl.symm⟩
/-- The bytes of a string, as cells. -/
def strCells (s : ByteArray) : List Value := s.data.toList.map fun b => .int .u8 b.toNat
theorem Src.str {s : ByteArray} : Src P w (.string s) 1 s.size (strCells s) := by
  refine ⟨rfl, by simp [strCells], fun _ _ => ?_⟩
  have : s.extract 0 s.size = s := by
    ext1
    simp
  simp only [Builtin.firstCells, this, strCells, Sem.run_pure]
  congr 1
  apply Array.ext'
  simp

theorem append_h {H : Heap} {st xt e ty : TypeId} {info : TypeInfo} {z : Value} {sz B : Nat} {x : Option Addr × Nat × Nat} {y : Value} {n : Nat} {vs us : List Value} (hu : P.underlying st = some (.slice e)) (hx : ∃ d, P.underlying xt = some d ∧ ∀ k, d ≠ .int k)
    (hi : P.info? e = some info) (hsz : info.size = sz) (hz : info.zero = some z) (hzs : z.cells.size = sz) (hb0 : info.bytes ≠ 0) (hw : w.heap = H) (hown : Mine H B e sz x vs) (hB : B ≤ H.size) (hsrc : Src P w y sz n us) (h1 : oneCells us)
    (hroom : (2 * (x.2.1 + n) + 192) * info.bytes ≤ 281474976710656) :
    ∃ x' w', (Builtin.append_ #[st, xt] ty #[.slice x.1 x.2.1 x.2.2, y]).run P w = .ok (.slice x'.1 x'.2.1 x'.2.2) w' ∧ Calm w w' ∧ Mine w'.heap B e sz x' (vs ++ us) ∧ x'.2.1 = x.2.1 + n ∧ Ext (ownM x) H w'.heap ∧ (∀ b, b ∈ ownM x' → b ∈ ownM x ∨ H.size ≤ b) := by
  obtain ⟨hlen, hul, hfirst⟩ := hsrc
  obtain ⟨d, hxd, hxk⟩ := hx
  have hnoint : (d matches .int _) = false := by
    cases d <;> first | rfl | (exact absurd rfl (hxk _))
  have hse : (P.info? e).map (·.size) = some sz := by rw [hi]; simp [hsz]
  have hti : (typeInfo e).run P w = .ok info w := by simp [typeInfo, hi]
  by_cases hfit : x.2.1 + n ≤ x.2.2
  · -- there is room
    rcases hown with ⟨rfl, rfl⟩ | ⟨b, c, hx1, hBb, hb, hc, hl, hle, he⟩
    · simp only [Nat.zero_add, Nat.le_zero] at hfit
      subst hfit
      simp only [Nat.zero_mul] at hul
      obtain rfl : us = [] := List.length_eq_zero_iff.1 hul
      refine ⟨(none, 0, 0), w, ?_, .refl w, .inl ⟨rfl, rfl⟩, rfl, by rw [hw]; exact .refl _ _, fun b hb => .inl hb⟩
      simp only [Builtin.append_, List.getElem?_toArray, List.getElem?_cons_zero, List.getElem?_cons_succ, Sem.run_bind, run_underlying' hu, run_underlying' hxd, Result.andThen_ok, Sem.run_pure, hnoint, Bool.false_eq_true, if_false, run_sizeOf_info hse, hlen,
        Nat.add_zero, Nat.le_refl, if_true, Bool.not_false, hfirst w rfl]
    · have hcs : vs.length + us.length ≤ c.size := by
        rw [hl, hul, hc, ← Nat.add_mul]
        exact Nat.mul_le_mul_right sz hfit
      obtain ⟨w', h2, h4, h3⟩ := storeCells_h (P := P) us w H c (x.2.1 * sz) 0 h1 hw hb (by rw [← hl]; simpa using hcs)
      refine ⟨(x.1, x.2.1 + n, x.2.2), w', ?_, h4, ?_, rfl, ?_, fun b hb => .inl hb⟩
      · rw [hx1]
        simp only [Builtin.append_, List.getElem?_toArray, List.getElem?_cons_zero, List.getElem?_cons_succ, Sem.run_bind, run_underlying' hu, run_underlying' hxd, Result.andThen_ok, Sem.run_pure, hnoint, Bool.false_eq_true, if_false, run_sizeOf_info hse, hlen,
          if_pos hfit, Bool.not_false, if_true, hfirst w rfl, add_none, Nat.zero_add, h2]
      · rw [h3]
        refine .inr ⟨b, _, hx1, hBb, set_new hb, by simp [hc], ?_, hfit, ?_⟩
        · rw [List.length_append, hl, hul, ← Nat.add_mul]
        · apply List.ext_getElem?
          intro i
          rw [Array.toList_extract, List.extract_eq_take_drop]
          simp only [List.drop_zero, Nat.sub_zero]
          rw [List.getElem?_take]
          by_cases hilt : i < (vs ++ us).length
          · rw [if_pos hilt]
            rw [Array.getElem?_toList, get_setCells (by rw [Nat.add_zero, ← hl]; exact hcs)]
            simp only [Nat.add_zero]
            by_cases hiv : i < vs.length
            · rw [if_neg (by omega), List.getElem?_append_left hiv]
              have : ((c.extract 0 vs.length).toList)[i]? = vs[i]? := by rw [he]
              rw [Array.getElem?_toList, Array.getElem?_extract, if_pos (by omega)] at this
              simpa using this
            · rw [List.length_append] at hilt
              rw [if_pos (by omega), List.getElem?_append_right (by omega), hl]
          · rw [if_neg hilt, List.getElem?_eq_none (by omega)]
      · rw [h3]
        exact Ext.set _ (by simp [ownM, hx1])
  · -- it grows
    subst hw
    have hcl := hown.cells
    have hll := hown.len
    have hgrow : Builtin.nextslicecap (x.2.1 + n) x.2.2 * info.bytes ≤ 281474976710656 :=
      Nat.le_trans (Nat.mul_le_mul_right _ (nextcap_le (by omega))) hroom
    have hcap : x.2.1 + n ≤ 281474976710656 := by
      have : (x.2.1 + n) * 1 ≤ (2 * (x.2.1 + n) + 192) * info.bytes := Nat.mul_le_mul (by omega) (by omega)
      omega
    have hold : ∀ w', w'.heap = w.heap → (Builtin.firstCells sz x.2.1 (.slice x.1 x.2.1 x.2.2)).run P w' = .ok vs.toArray w' := fun w' hw' => run_first hw' hcl hll.symm
    have hch : ∀ w : World, (choose (.appendCap (x.2.1 + n) x.2.2 e)).run P w = .ok (x.2.1 + n + w.tape w.drawn (.appendCap (x.2.1 + n) x.2.2 e) % (2 ^ 63 - (x.2.1 + n))) { w with drawn := w.drawn + 1 } :=
      fun w => by simp [Question.forced, Question.cut]
    generalize hq : x.2.1 + n + w.tape w.drawn (.appendCap (x.2.1 + n) x.2.2 e) % (2 ^ 63 - (x.2.1 + n)) = q at *
    have hqn : x.2.1 + n ≤ q := by omega
    have hzv : ∀ w', (zeroValue e).run P w' = .ok z w' := fun w' => by simp [zeroValue, typeInfo, hi, hz]
    refine ⟨(some ⟨w.heap.size, 0, none⟩, x.2.1 + n, q), { w with drawn := w.drawn + 1, heap := w.heap.push (.cells (vs.toArray ++ us.toArray ++ Builtin.zeroCells z.cells (q - (x.2.1 + n))) e) }, ?_, ⟨rfl, rfl, rfl, Nat.le_succ _⟩, ?_, rfl, ?_, ?_⟩
    · have hn1 : ¬ ((x.2.1 + n : Nat) : Int) > IntKind.i64.max := by
        have : IntKind.i64.max = 9223372036854775807 := by decide
        rw [this]; omega
      have hn2 : ¬ Builtin.nextslicecap (x.2.1 + n) x.2.2 * info.bytes > 2 ^ 48 := by
        have : (2 : Nat) ^ 48 = 281474976710656 := by decide
        rw [this]; omega
      have hti' : ∀ w', (typeInfo e).run P w' = .ok info w' := fun w' => by simp [typeInfo, hi]
      simp only [Builtin.append_, List.getElem?_toArray, List.getElem?_cons_zero, List.getElem?_cons_succ, Sem.run_bind, run_underlying' hu, run_underlying' hxd, Result.andThen_ok, Sem.run_pure, hnoint, Bool.false_eq_true, if_false, run_sizeOf_info hse, hlen,
        if_neg hfit, Bool.not_false, if_true, hti', hn1, false_and, hn2, hch, hq, run_askRoom, hold { w with drawn := w.drawn + 1 } rfl, hfirst { w with drawn := w.drawn + 1 } rfl, hzv, newRow, run_newObj]
    · refine .inr ⟨w.heap.size, vs.toArray ++ us.toArray ++ Builtin.zeroCells z.cells (q - (x.2.1 + n)), rfl, hB, ?_, ?_, ?_, hqn, ?_⟩
      · simp
      · simp only [Array.size_append, List.size_toArray, Builtin.zeroCells, Array.size_map, Array.size_range, hll, hul, hzs]
        rw [← Nat.add_mul, ← Nat.add_mul]
        congr 1
        omega
      · rw [List.length_append, hll, hul, ← Nat.add_mul]
      · rw [Array.toList_extract, List.extract_eq_take_drop]
        simp only [List.drop_zero, Nat.sub_zero, Array.toList_append, List.length_append]
        rw [← List.length_append, List.take_left]
    · exact .push _
    · intro b hb
      simp only [ownM, List.mem_singleton] at hb
      exact .inr (by omega)
end

/-- A cell of an owned slice is written. -/
theorem Mine.put {H : Heap} {B : Nat} {T : TypeId} {x : Option Addr × Nat × Nat} {vs : List Value} (h : Mine H B T 1 x vs) {i : Nat} (hi : i < vs.length) (v : Value) :
    ∃ b c, x.1 = some ⟨b, 0, none⟩ ∧ H[b]? = some (.cells c T (0, 0)) ∧ i < c.size ∧ c[i]? = vs[i]? ∧ Mine (H.setIfInBounds b (.cells (c.setIfInBounds i v) T (0, 0))) B T 1 x (vs.set i v) := by
  rcases h with ⟨_, rfl⟩ | ⟨b, c, hx, hB, hb, hc, hl, hle, he⟩
  · cases hi
  · have hvc : vs.length ≤ c.size := by omega
    have hget : ∀ j, j < vs.length → c[j]? = vs[j]? := by
      intro j hj
      have : ((c.extract 0 vs.length).toList)[j]? = vs[j]? := by rw [he]
      rw [Array.getElem?_toList, Array.getElem?_extract, if_pos (by omega)] at this
      simpa using this
    refine ⟨b, c, hx, hb, by omega, hget i hi, .inr ⟨b, _, hx, hB, set_new hb, by simpa using hc, by simpa using hl, hle, ?_⟩⟩
    apply List.ext_getElem?
    intro j
    rw [Array.getElem?_toList, Array.getElem?_extract]
    simp only [List.length_set, Nat.sub_zero, Nat.zero_add, Array.size_setIfInBounds]
    by_cases hj : j < vs.length
    · rw [if_pos (by omega), Array.getElem?_setIfInBounds, List.getElem?_set]
      by_cases e : i = j
      · subst e; simp [hi, show i < c.size by omega]
      · simp only [e, if_false]; exact hget j hj
    · rw [if_neg (by omega), List.getElem?_eq_none (by simp; omega)]
end Go.Fw
