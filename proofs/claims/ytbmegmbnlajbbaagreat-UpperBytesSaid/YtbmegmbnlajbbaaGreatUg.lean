/- The reference parses a path's text. -/
import Derived.Test.YtbmegmbnlajbbaaGreatUf
namespace Go.Proofs.YtbmegmbnlajbbaaGreat
open Go Go.Fw Go.Proofs

def segs : List UInt8 → List (List UInt8)
  | [] => [[]]
  | c :: L => if c = 47 then [] :: segs L else match segs L with | [] => [[c]] | p :: ps => (c :: p) :: ps
theorem segs_sep : ∀ {p r : List UInt8}, (47 : UInt8) ∉ p → segs (p ++ 47 :: r) = p :: segs r
  | [], r, _ => by simp [segs]
  | c :: p, r, h => by
    have hc : c ≠ 47 := fun e => h (by simp [e])
    rw [List.cons_append, segs, if_neg hc, segs_sep (p := p) (r := r) (fun hm => h (by simp [hm]))]
theorem segs_last : ∀ {p : List UInt8}, (47 : UInt8) ∉ p → segs p = [p]
  | [], _ => rfl
  | c :: p, h => by
    have hc : c ≠ 47 := fun e => h (by simp [e])
    rw [segs, if_neg hc, segs_last (p := p) (fun hm => h (by simp [hm]))]
theorem segs_pieces (n : Nat) : ∀ {L : List UInt8}, L.length ≤ n → segs L = pieces L ∨ segs L = pieces L ++ [[]] := by
  induction n with
  | zero =>
    intro L h
    have h0 : L = [] := List.eq_nil_of_length_eq_zero (by omega)
    subst h0; right; rfl
  | succ n ih =>
    intro L hl
    rcases split47 L with h | ⟨p, r, rfl, h⟩
    · by_cases he : L = []
      · subst he; right; rfl
      · left; rw [segs_last h, pieces_last h he]
    · rw [segs_sep h, pieces_sep h]
      simp only [List.length_append, List.length_cons] at hl
      rcases ih (L := r) (by omega) with h | h
      · left; rw [h]
      · right; rw [h]; rfl
theorem segs_walk {T : List UInt8} : walkP (segs T) = walkP (pieces (47 :: T)) ∧ (segs T).any (fun x => decide (16 < x.length)) = (pieces (47 :: T)).any (fun x => decide (16 < x.length)) := by
  have h0 : pieces (47 :: T) = [] :: pieces T := pieces_sep (p := []) (by simp)
  have hw : walkP ([] :: pieces T) = walkP (pieces T) := by simp [walkP, walkStep]
  rw [h0, hw]
  rcases segs_pieces T.length (L := T) (Nat.le_refl _) with h | h
  · rw [h]; simp
  · rw [h, walk_snoc]; simp [walkStep]
def rem (L : List UInt8) (f : Nat) : Path := if f ≤ L.length then segs (L.drop f) else []
theorem rem_step {L : List UInt8} {f i : Nat} (hf : f ≤ i) (hi : i ≤ L.length) (hn : (47 : UInt8) ∉ (L.take i).drop f) (h47 : ∀ h : i < L.length, L[i] = 47) : rem L f = (L.take i).drop f :: rem L (i + 1) := by
  unfold rem
  rw [if_pos (by omega)]
  by_cases he : i = L.length
  · subst he
    rw [if_neg (by omega), List.take_length] at *
    rw [segs_last hn]
  · have hil : i < L.length := by omega
    rw [if_pos (by omega)]
    have hs : L.drop f = (L.take i).drop f ++ 47 :: L.drop (i + 1) := by
      have h1 : L = L.take i ++ L[i] :: L.drop (i + 1) := by rw [← List.drop_eq_getElem_cons hil, List.take_append_drop]
      conv => lhs; rw [h1]
      rw [List.drop_append_of_le_length (by simp; omega), h47 hil]
    rw [hs, segs_sep hn]

theorem nilS {w : World} {H : Heap} (hw : w.heap = H) {K : (Option Addr × Nat × Nat) → World → Prop} (hK : ∀ w', Ext [] H w'.heap → Mine w'.heap H.size y_string 1 (some ⟨H.size, 0, none⟩, 0, 0) [] → K (some ⟨H.size, 0, none⟩, 0, 0) w') : genL P (Instr.buildSlice y_S_string 0 #[]) .slc w K := by
  refine genL_of (s := .slc) (some ⟨H.size, 0, none⟩, 0, 0) { w with heap := H.push (.cells #[] y_string) } (by rw [← hw]; kernel_rfl) ?_
  exact hK _ (.push _) (.inr ⟨H.size, #[], rfl, Nat.le_refl _, push_new, rfl, rfl, Nat.le_refl _, rfl⟩)
/-- Texts are appended. -/
theorem appS {w : World} {H : Heap} {B : Nat} {x : Option Addr × Nat × Nat} {a : Option Addr} {l c : Nat} {xs ys : Path} (hw : w.heap = H) (hx : Mine H B y_string 1 x (strRow xs)) (hB : B ≤ H.size) (hL : Cells H a (strRow ys)) (hl : l = ys.length) (hlen : xs.length + ys.length ≤ 1099511627776) {K : (Option Addr × Nat × Nat) → World → Prop}
    (hK : ∀ x' w', Mine w'.heap B y_string 1 x' (strRow (xs ++ ys)) → Ext (ownM x) H w'.heap → K x' w') : genL P (Builtin.append_ #[y_S_string, y_S_string] y_S_string #[.slice x.1 x.2.1 x.2.2, .slice a l c]) .slc w K := by
  have hxl : x.2.1 = xs.length := by have := hx.len; simp at this; omega
  refine append_g Estr (by omega) uSstr (slice_noint uSstr) hw hx hB (Src.slc hw hL (by simp [hl])) one_strRow (by omega) ?_
  intro x' w' hm hl' hx' hs
  refine hK x' w' ?_ hx'
  rw [← strRow_append]; exact hm
theorem one1S {w : World} {H : Heap} (L : List UInt8) (hw : w.heap = H) {K : (Option Addr × Nat × Nat) → World → Prop} (hK : ∀ a w', Ext [] H w'.heap → Cells w'.heap a (strRow [L]) → K (a, 1, 1) w') : genL P (Instr.buildSlice y_S_string 1 #[(0, .string (strOf L))]) .slc w K := by
  refine genL_of (s := .slc) (some ⟨w.heap.size, 0, none⟩, 1, 1) _ (build1_g Estr uSstr (v := .string (strOf L)) rfl (by omega) (by omega)) ?_
  exact hK _ _ (by rw [← hw]; exact .push _) (.inr ⟨w.heap.size, 0, _, _, _, rfl, push_new, by simp [Value.cells, strRow], by simp [Value.cells, strRow]⟩)

set_option maxHeartbeats 8000000 in
theorem rparse_c {w : World} {H : Heap} (L : List UInt8) (hw : w.heap = H) :
    CallF P F_r04_Parse #[.string (strOf L)] w fun e w' => ∃ x, e = .returned (.tuple #[slcV x, .int .i64 (parseP L).2]) ∧ Mine w'.heap H.size y_string 1 x (strRow (parseP L).1) ∧ Ext [] H w'.heap := by
  refine fn_r04_Parse ?_
  unfold T_r04_Parse
  have fin : ∀ {w : World} {code : Int}, Ext [] H w.heap → parseP L = ([], code) →
      ∃ y, Ending.returned (.tuple #[.slice none 0 0, .int .i64 code]) = .returned (.tuple #[slcV y, .int .i64 (parseP L).2]) ∧ Mine w.heap H.size y_string 1 y (strRow (parseP L).1) ∧ Ext [] H w.heap := by
    intro w code h1 hp
    rw [hp]
    exact ⟨(none, 0, 0), rfl, .inl ⟨rfl, rfl⟩, h1⟩
  have hx0 : Ext [] H w.heap := by rw [hw]; exact .refl _ _
  refine iteP_dec (fun hbig => fin hx0 (by unfold parseP; rw [if_pos (by simp only [strOf_size] at hbig; omega)])) (fun hsm => ?_)
  have hL256 : L.length ≤ 256 := by simp only [strOf_size] at hsm; omega
  refine joinP_in ?_
  cases L with
  | nil => exact iteP_t rfl (fin hx0 rfl)
  | cons c0 T =>
  refine iteP_f (by simp; omega) ?_
  refine ixStr_h (L := c0 :: T) 0 rfl (by simp) ?_
  refine iteP_ne (fun h => fin hx0 ?_) (fun h => ?_)
  · have : ¬ c0 = 47 := fun e => h (by simp [e])
    unfold parseP; rw [if_neg (by omega), if_pos (by simp [this])]
  have hc0 : c0 = 47 := UInt8.toNat_inj.1 (by have h : (c0.toNat : Int) = 47 := h; show c0.toNat = 47; omega)
  subst hc0
  have hseg := segs_walk (T := T)
  clear h
  generalize hLL : (47 : UInt8) :: T = L at *
  have hhd : L.head? = some 47 := by rw [← hLL]; rfl
  have hpos : 1 ≤ L.length := by rw [← hLL]; simp
  have hdrop : L.drop 1 = T := by rw [← hLL]; rfl
  refine loopP_of (fun (s : Int) W => ∃ i : Nat, s = (i : Int) ∧ i ≤ L.length ∧ W = w ∧ ∀ b ∈ L.take i, (decide (b = 47) || plainB b) = true) (fun s _ => (L.length - s).toNat) ⟨0, rfl, Nat.zero_le _, rfl, by simp⟩ ?_
  rintro _ w ⟨i, rfl, hi, rfl, hpl⟩
  refine iteP_dec (fun hlt => ?_) (fun hge => ?_)
  · have hil : i < L.length := by simp only [strOf_size] at hlt; omega
    have hnext : (decide (L[i] = 47) || plainB L[i]) = true → ∀ b ∈ L.take (i + 1), (decide (b = 47) || plainB b) = true := by
      intro h b hm
      rw [List.take_add_one, List.getElem?_eq_getElem hil] at hm
      rcases List.mem_append.1 hm with hm | hm
      · exact hpl b hm
      · simp only [Option.toList_some, List.mem_singleton] at hm; subst hm; exact h
    have hgo : ∀ {K : Int → Prop}, (decide (L[i] = 47) || plainB L[i]) = true → (∀ k, k = ((i + 1 : Nat) : Int) → K k) → addI .i64 (i : Int) 1 K := fun _ hK => addI_to ((i + 1 : Nat) : Int) (by omega) (by omega) (by omega) (hK _ rfl)
    refine joinP_in ?_
    refine joinP_in ?_
    refine ixStr_h i rfl hil ?_
    refine iteP_ne (fun h47 => ?_) (fun h47 => ?_)
    · refine ixStr_h i rfl hil ?_
      refine callQ_of (plainB L[i]) (rplain_c _) ?_
      cases hb : plainB L[i] with
      | false =>
        refine iteP_t rfl ?_
        refine fin hx0 ?_
        have : okText L = false := by
          unfold okText
          rw [List.all_eq_false]
          refine ⟨L[i], List.getElem_mem hil, ?_⟩
          have : ¬ L[i] = 47 := fun e => h47 (by rw [e]; rfl)
          simp [this, hb]
        unfold parseP
        rw [if_neg (by omega), if_neg (by simp [hhd]), if_pos this]
      | true =>
        refine iteP_f rfl ?_
        refine hgo (by simp [hb]) ?_
        rintro _ rfl
        exact ⟨⟨i + 1, rfl, by omega, rfl, hnext (by simp [hb])⟩, by omega⟩
    · have h47' : L[i] = 47 := UInt8.toNat_inj.1 (by have h : ((L[i]).toNat : Int) = 47 := h47; show (L[i]).toNat = 47; omega)
      refine hgo (by simp [h47']) ?_
      rintro _ rfl
      exact ⟨⟨i + 1, rfl, by omega, rfl, hnext (by simp [h47'])⟩, by omega⟩
  have hie : i = L.length := by simp only [strOf_size] at hge; omega
  subst hie
  rw [List.take_length] at hpl
  have hok : okText L = true := List.all_eq_true.2 hpl
  have hP : parseP L = if (segs T).any (fun x => decide (16 < x.length)) then ([], 41) else if 8 < (walkP (segs T)).length then ([], 42) else (walkP (segs T), 0) := by
    unfold parseP; rw [if_neg (by omega), if_neg (by simp [hhd]), if_neg (by simp [hok]), hseg.1, hseg.2]
  refine loopP_of (fun (s : (Option Addr × Nat × Nat) × Int × Int) W => ∃ (x : Option Addr × Nat × Nat) (f i : Nat) (done : Path), s = (x, (f : Int), (i : Int)) ∧ 1 ≤ f ∧ f ≤ i ∧ i ≤ L.length + 1 ∧ (i ≤ L.length ∨ f = i) ∧ segs T = done ++ rem L f ∧ (47 : UInt8) ∉ (L.take i).drop f ∧
      Ext [] H W.heap ∧ Mine W.heap H.size y_string 1 x (strRow (walkP done)) ∧ done.any (fun x => decide (16 < x.length)) = false ∧ done.length ≤ f) (fun s _ => (L.length + 1 - s.2.2).toNat)
    ⟨(none, 0, 0), 1, 1, [], rfl, by omega, by omega, by omega, .inl hpos, by rw [rem, if_pos hpos, hdrop]; rfl, by rw [List.drop_eq_nil_of_le (by simp; omega)]; simp, hx0, .inl ⟨rfl, rfl⟩, rfl, by simp⟩ ?_
  rintro _ W ⟨x, f, i, done, rfl, hf1, hfi, hi, hor, hsg, hno, hxW, hmW, hany, hdl⟩
  have hwl : (walkP done).length ≤ done.length := by have := walk_len (ps := done) (acc := []); simpa [walkP] using this
  have hxl : x.2.1 = (walkP done).length := by have := hmW.len; simp at this; omega
  have hHW := hxW.1
  refine iteP_dec (fun hle => ?_) (fun hgt => ?_)
  · have hil : i ≤ L.length := by simp only [strOf_size] at hle; omega
    refine joinP_of (fun (s : (Option Addr × Nat × Nat) × Int) W' => ∃ (x' : Option Addr × Nat × Nat) (f' : Nat) (done' : Path), s = (x', (f' : Int)) ∧ 1 ≤ f' ∧ f' ≤ i + 1 ∧ (i + 1 ≤ L.length ∨ f' = i + 1) ∧ segs T = done' ++ rem L f' ∧ (47 : UInt8) ∉ (L.take (i + 1)).drop f' ∧
      Ext [] H W'.heap ∧ Mine W'.heap H.size y_string 1 x' (strRow (walkP done')) ∧ done'.any (fun x => decide (16 < x.length)) = false ∧ done'.length ≤ f') ?_ ?_
    rotate_left
    · rintro _ W' ⟨x', f', done', rfl, h1, h2, h3, h4, h5, h6, h7, h8, h9⟩
      refine addI_to ((i + 1 : Nat) : Int) (by simp only; omega) (by omega) (by omega) ?_
      exact ⟨⟨x', f', i + 1, done', rfl, h1, h2, by omega, h3, h4, h5, h6, h7, h8, h9⟩, by simp only; omega⟩
    refine joinP_of (fun _ W' => W' = W ∧ ∀ h : i < L.length, L[i] = 47) ?_ ?_
    · refine iteP_dec (fun hlt => ?_) (fun hge => ⟨rfl, fun h => absurd hge (by simp only [strOf_size]; omega)⟩)
      have hil2 : i < L.length := by simp only [strOf_size] at hlt; omega
      refine ixStr_h i rfl hil2 ?_
      refine iteP_ne (fun h47 => ?_) (fun h47 => ?_)
      · refine ⟨x, f, done, rfl, hf1, by omega, .inl (by omega), hsg, ?_, hxW, hmW, hany, hdl⟩
        rw [List.take_add_one, List.getElem?_eq_getElem hil2, List.drop_append_of_le_length (by simp; omega)]
        intro hm
        rcases List.mem_append.1 hm with hm | hm
        · exact hno hm
        · simp only [Option.toList_some, List.mem_singleton] at hm
          exact h47 (by rw [← hm]; rfl)
      · exact ⟨rfl, fun _ => UInt8.toNat_inj.1 (by have h : ((L[i]).toNat : Int) = 47 := h47; show (L[i]).toNat = 47; omega)⟩
    rintro _ W' ⟨rfl, h47⟩
    have hstep := rem_step hfi hil hno h47
    generalize hp : (L.take i).drop f = p at *
    refine genQ_of (s := .str) (strOf p) ((slStr_h (l := f) (h := i) uStr (.yes rfl) (.yes rfl) hfi hil).trans (by rw [hp]; rfl)) ?_
    refine addI_to ((i + 1 : Nat) : Int) (by simp only; omega) (by omega) (by omega) ?_
    refine iteP_dec (fun hlong => ?_) (fun hshort => ?_)
    · have hlong : 16 < p.length := by have h := hlong; simp only [strOf_size] at h; omega
      refine fin hxW ?_
      rw [hP, if_pos]
      rw [hsg, hstep, List.any_eq_true]
      exact ⟨p, by simp, by simpa using hlong⟩
    have hshort : ¬ 16 < p.length := by have h := hshort; simp only [strOf_size] at h; omega
    have endI : ∀ {W2 : World} {x2 : Option Addr × Nat × Nat}, Ext [] H W2.heap → Mine W2.heap H.size y_string 1 x2 (strRow (walkP (done ++ [p]))) → (∃ (x' : Option Addr × Nat × Nat) (f' : Nat) (done' : Path), ((x2.1, x2.2.1, x2.2.2), ((i + 1 : Nat) : Int)) = (x', (f' : Int)) ∧ 1 ≤ f' ∧ f' ≤ i + 1 ∧ (i + 1 ≤ L.length ∨ f' = i + 1) ∧ segs T = done' ++ rem L f' ∧ (47 : UInt8) ∉ (L.take (i + 1)).drop f' ∧
        Ext [] H W2.heap ∧ Mine W2.heap H.size y_string 1 x' (strRow (walkP done')) ∧ done'.any (fun x => decide (16 < x.length)) = false ∧ done'.length ≤ f') := by
      intro W2 x2 h1 h2
      refine ⟨x2, i + 1, done ++ [p], rfl, by omega, by omega, .inr rfl, by rw [hsg, hstep]; simp, by rw [List.drop_eq_nil_of_le (by simp; omega)]; simp, h1, h2, by rw [any_take, hany]; simp; omega, by simp; omega⟩
    refine joinP_of (fun (x' : Option Addr × Nat × Nat) W2 => Ext [] H W2.heap ∧ Mine W2.heap H.size y_string 1 x' (strRow (if p = [46, 46] then (walkP done).dropLast else walkP done))) ?_ ?_
    · refine iteP_of (p := p = [46, 46]) beqStr (fun h => ?_) (fun h => ?_)
      · rw [if_pos h]
        refine iteP_dec (fun hpos => ?_) (fun hneg => ?_)
        · simp only at hpos
          refine nilS rfl fun W2 hx2 hm2 => ?_
          have hxc : x.2.1 ≤ x.2.2 := by
            rcases hmW with ⟨rfl, _⟩ | ⟨_, _, _, _, _, _, _, h, _⟩
            · exact Nat.le_refl _
            · exact h
          refine subI_to ((x.2.1 - 1 : Nat) : Int) (by simp only; omega) (by omega) (by omega) ?_
          refine genQ_of (s := .slc) (if x.2.2 = 0 then x.1 else x.1.map (·.add (0 * 1)), (x.2.1 - 1) - 0, x.2.2 - 0) (run_slice_slc uSstr szStr .no (.yes rfl) (Nat.zero_le _) (show x.2.1 - 1 ≤ x.2.2 by omega)) ?_
          have hcut := (Mine.cut (hmW.ext hx2 (by simp)) (k := x.2.1 - 1) (by omega)).cells
          rw [strRow_take] at hcut
          refine appS (xs := []) rfl hm2 hx2.1 hcut (by simp; omega) (by simp; omega) ?_
          intro x3 W3 hm3 hx3
          refine ⟨(hxW.trans hx2).own hx3 (by intro b hb hlt; simp [ownM] at hb; omega), ?_⟩
          rw [List.dropLast_eq_take, ← hxl]
          exact hm3.mono hHW
        · simp only at hneg
          have : walkP done = [] := List.eq_nil_of_length_eq_zero (by omega)
          refine ⟨hxW, ?_⟩
          rw [this] at hmW ⊢
          exact hmW
      · rw [if_neg h]; exact ⟨hxW, hmW⟩
    rintro x' W2 ⟨hx2, hm2⟩
    have same : walkP (done ++ [p]) = (if p = [46, 46] then (walkP done).dropLast else walkP done) → (∃ (x'' : Option Addr × Nat × Nat) (f' : Nat) (done' : Path), ((x'.1, x'.2.1, x'.2.2), ((i + 1 : Nat) : Int)) = (x'', (f' : Int)) ∧ 1 ≤ f' ∧ f' ≤ i + 1 ∧ (i + 1 ≤ L.length ∨ f' = i + 1) ∧ segs T = done' ++ rem L f' ∧ (47 : UInt8) ∉ (L.take (i + 1)).drop f' ∧
        Ext [] H W2.heap ∧ Mine W2.heap H.size y_string 1 x'' (strRow (walkP done')) ∧ done'.any (fun x => decide (16 < x.length)) = false ∧ done'.length ≤ f') := fun h => endI hx2 (by rw [h]; exact hm2)
    have n1 : ([] : List UInt8) ≠ [46, 46] := by simp
    have n2 : ([46] : List UInt8) ≠ [46, 46] := by simp
    refine iteP_of (p := p ≠ []) (by rw [Bool.not_eq_true', ← Bool.not_eq_true, beqStr]) (fun hp0 => ?_) (fun hp0 => ?_)
    · refine iteP_of (p := p ≠ [46]) (by rw [Bool.not_eq_true', ← Bool.not_eq_true, beqStr]) (fun hp1 => ?_) (fun hp1 => ?_)
      · refine iteP_of (p := p ≠ [46, 46]) (by rw [Bool.not_eq_true', ← Bool.not_eq_true, beqStr]) (fun hp2 => ?_) (fun hp2 => ?_)
        · rw [if_neg hp2] at hm2
          refine one1S p rfl fun a W3 hx3 hC3 => ?_
          refine appS rfl (hm2.ext hx3 (by simp)) (by have := hx2.1; have := hx3.1; omega) hC3 rfl (by simp; omega) ?_
          intro x4 W4 hm4 hx4
          refine endI ((hx2.trans hx3).own hx4 (by intro b hb hlt; have := ownM_ge hm2 b hb; omega)) ?_
          rw [walk_snoc, walkStep, if_neg (by simp [hp0, hp1]), if_neg hp2]
          exact hm4
        · have hp2 : p = [46, 46] := Classical.not_not.1 hp2
          exact same (by rw [walk_snoc, walkStep, if_neg (by simp [hp0, hp1]), if_pos hp2, if_pos hp2])
      · have hp1 : p = [46] := Classical.not_not.1 hp1
        exact same (by rw [walk_snoc, walkStep, if_pos (.inr hp1), if_neg (by rw [hp1]; exact n2)])
    · have hp0 : p = [] := Classical.not_not.1 hp0
      exact same (by rw [walk_snoc, walkStep, if_pos (.inl hp0), if_neg (by rw [hp0]; exact n1)])
  · have hie : i = L.length + 1 := by simp only [strOf_size] at hgt; omega
    have hfe : f = L.length + 1 := by rcases hor with h | h <;> omega
    have hdone : segs T = done := by rw [hsg, rem, if_neg (by omega), List.append_nil]
    rw [hdone, if_neg (by simp [hany])] at hP
    refine iteP_dec (fun hdeep => ?_) (fun hflat => ?_)
    · refine fin hxW ?_
      rw [hP, if_pos (by simp only at hdeep; omega)]
    · rw [if_neg (by simp only at hflat; omega)] at hP
      rw [hP]
      exact ⟨x, rfl, hmW, hxW⟩
theorem names_c {w : World} {H : Heap} (L : List UInt8) (hw : w.heap = H) :
    CallF P F_upper_names #[.string (strOf L)] w fun e w' => ∃ x, e = .returned (slcV x) ∧ Mine w'.heap H.size y_string 1 x (strRow (parseP L).1) ∧ Ext [] H w'.heap := by
  refine fn_upper_names ?_
  unfold T_upper_names
  refine callF_of (parse_c L hw) ?_
  rintro e w' ⟨x, rfl, h⟩
  exact ⟨(x, _), rfl, x, rfl, h⟩
theorem rnames_c {w : World} {H : Heap} (L : List UInt8) (hw : w.heap = H) :
    CallF P F_r07_Names #[.string (strOf L)] w fun e w' => ∃ x, e = .returned (slcV x) ∧ Mine w'.heap H.size y_string 1 x (strRow (parseP L).1) ∧ Ext [] H w'.heap := by
  refine fn_r07_Names ?_
  unfold T_r07_Names
  refine callF_of (rparse_c L hw) ?_
  rintro e w' ⟨x, rfl, h⟩
  exact ⟨(x, _), rfl, x, rfl, h⟩
end Go.Proofs.YtbmegmbnlajbbaaGreat
