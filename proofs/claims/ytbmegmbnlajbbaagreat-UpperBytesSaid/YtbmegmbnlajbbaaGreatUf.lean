/- A path's text is parsed. -/
import Derived.Test.YtbmegmbnlajbbaaGreatUe
namespace Go.Proofs.YtbmegmbnlajbbaaGreat
open Go Go.Fw Go.Proofs

def walkStep (acc : Path) (x : List UInt8) : Path := if x = [] ∨ x = [46] then acc else if x = [46, 46] then acc.dropLast else acc ++ [x]
def walkP (ps : Path) : Path := ps.foldl walkStep []
def okText (L : List UInt8) : Bool := L.all fun b => decide (b = 47) || plainB b
def parseP (L : List UInt8) : Path × Int :=
  if 256 < L.length then ([], 2) else if L.head? ≠ some 47 then ([], 40) else if okText L = false then ([], 40)
  else if (pieces L).any (fun x => decide (16 < x.length)) then ([], 41) else if 8 < (walkP (pieces L)).length then ([], 42) else (walkP (pieces L), 0)
theorem walk_snoc {ps : Path} {x : List UInt8} : walkP (ps ++ [x]) = walkStep (walkP ps) x := by simp [walkP]
theorem walk_len : ∀ {ps acc : Path}, (ps.foldl walkStep acc).length ≤ acc.length + ps.length
  | [], acc => by simp
  | x :: ps, acc => by
    have := walk_len (ps := ps) (acc := walkStep acc x)
    have h : (walkStep acc x).length ≤ acc.length + 1 := by
      unfold walkStep; split
      · omega
      · split <;> simp; omega
    simp only [List.foldl_cons, List.length_cons]; omega
theorem pieces_len : ∀ {L : List UInt8}, (pieces L).length ≤ L.length
  | [] => by simp [pieces]
  | c :: L => by
    have := pieces_len (L := L)
    rw [pieces]
    split
    · simp; omega
    · split
      · simp
      · rename_i p ps h
        rw [h] at this
        split <;> (simp only [List.length_cons] at this ⊢; omega)

theorem Estr : Elem P y_string 1 16 := elem_of (z := .string .empty) (by kernel_rfl) rfl
theorem zcSS : zc P y_S_string = #[.slice none 0 0] := by kernel_rfl
theorem zcE : zc P y_api_Errno = #[.int .i64 0] := by kernel_rfl
theorem Mine.cut {H : Heap} {B : Nat} {T : TypeId} {x : Option Addr × Nat × Nat} {vs : List Value} (h : Mine H B T 1 x vs) {k : Nat} (hk : k ≤ x.2.1) :
    Mine H B T 1 (if x.2.2 = 0 then x.1 else x.1.map (·.add (0 * 1)), k - 0, x.2.2 - 0) (vs.take k) := by
  rcases h with ⟨rfl, rfl⟩ | ⟨b, c, hx, hB, hb, hc, hl, hle, he⟩
  · simp only at hk
    obtain rfl : k = 0 := by omega
    exact .inl ⟨by simp, by simp⟩
  · have hkl : (vs.take k).length = k := by simp; omega
    refine .inr ⟨b, c, ?_, hB, hb, by simpa using hc, by rw [hkl]; simp, by simp only; omega, ?_⟩
    · simp only [hx]
      split
      · rfl
      · simp [add_none]
    · rw [hkl]
      conv => rhs; rw [← he]
      simp only [Array.toList_extract, List.extract_eq_take_drop, List.drop_zero, Nat.sub_zero, List.take_take]
      congr 1; omega
theorem ownM_cut {x : Option Addr × Nat × Nat} {k c : Nat} : ownM (if x.2.2 = 0 then x.1 else x.1.map (·.add (0 * 1)), k, c) = ownM x := by
  by_cases h : x.2.2 = 0
  · rw [if_pos h]; rfl
  · rw [if_neg h]
    cases hx : x.1 with
    | none => simp [ownM, hx]
    | some a => simp [ownM, hx, Addr.add]

/-- Two results are laid, and read again. -/
theorem setret {w : World} {H : Heap} {b2 b3 : Nat} {v2 v3 : Value} {code : Int} {x : Option Addr × Nat × Nat} (hw : w.heap = H) (h2 : H[b2]? = some (.cells #[v2] y_S_string (0, 0))) (h3 : H[b3]? = some (.cells #[v3] y_api_Errno (0, 0))) (hne : b2 ≠ b3) {K : World → Prop}
    (hK : ∀ w', Ext [b2, b3] H w'.heap → w'.heap[b2]? = some (.cells #[slcV x] y_S_string (0, 0)) → w'.heap[b3]? = some (.cells #[.int .i64 code] y_api_Errno (0, 0)) → w'.heap.size = H.size → K w') :
    stC ⟨b2, 0, none⟩ (.slice x.1 x.2.1 x.2.2) w fun w3 => stC ⟨b3, 0, none⟩ (.int .i64 code) w3 fun w4 => K w4 := by
  refine stC_h hw h2 (by simp) fun w3 hw3 => ?_
  have h33 : w3.heap[b3]? = some (.cells #[v3] y_api_Errno (0, 0)) := by rw [hw3]; exact set_old h3 (Ne.symm hne)
  have h32 : w3.heap[b2]? = some (.cells #[slcV x] y_S_string (0, 0)) := by rw [hw3]; exact set_new h2
  refine stC_h rfl h33 (by simp) fun w4 hw4 => ?_
  refine hK w4 ?_ (by rw [hw4]; exact set_old h32 hne) (by rw [hw4]; exact set_new h33) (by rw [hw4, hw3]; simp)
  rw [hw4, hw3]
  exact ((Ext.refl _ _).set_own (.inr (by simp))).set_own (.inr (by simp))
theorem any_take {ps : Path} {x : List UInt8} : (ps ++ [x]).any (fun x => decide (16 < x.length)) = (ps.any (fun x => decide (16 < x.length)) || decide (16 < x.length)) := by simp

set_option maxHeartbeats 8000000 in
theorem parse_c {w : World} {H : Heap} (L : List UInt8) (hw : w.heap = H) :
    CallF P F_vpath_Parse #[.string (strOf L)] w fun e w' => ∃ x, e = .returned (.tuple #[slcV x, .int .i64 (parseP L).2]) ∧ Mine w'.heap H.size y_string 1 x (strRow (parseP L).1) ∧ Ext [] H w'.heap := by
  refine fn_vpath_Parse ?_
  unfold T_vpath_Parse
  rw [zcSS, zcE]
  refine newB_h hw fun w1 hw1 => ?_
  refine newB_h hw1 fun w2 hw2 => ?_
  have hsz : (H.push (.cells #[.slice none 0 0] y_S_string)).size = H.size + 1 := by simp
  have h2 : w2.heap[H.size]? = some (.cells #[.slice none 0 0] y_S_string (0, 0)) := by rw [hw2]; exact push_old push_new
  have h3 : w2.heap[H.size + 1]? = some (.cells #[.int .i64 0] y_api_Errno (0, 0)) := by rw [hw2, ← hsz]; exact push_new
  have hx2 : Ext [] H w2.heap := by rw [hw2]; exact (Ext.push _).trans (Ext.push _)
  have hs2 : w2.heap.size = H.size + 2 := by rw [hw2]; simp
  rw [hsz]
  clear hw1 hw2
  have fin : ∀ {w w' : World} {x : Option Addr × Nat × Nat} {code : Int}, Ext [] H w.heap → Ext [H.size, H.size + 1] w.heap w'.heap → x = (none, 0, 0) → parseP L = ([], code) →
      ∃ y, Ending.returned (.tuple #[slcV x, .int .i64 code]) = .returned (.tuple #[slcV y, .int .i64 (parseP L).2]) ∧ Mine w'.heap H.size y_string 1 y (strRow (parseP L).1) ∧ Ext [] H w'.heap := by
    intro w w' x code h1 h2 hx hp
    subst hx
    rw [hp]
    exact ⟨(none, 0, 0), rfl, .inl ⟨rfl, rfl⟩, h1.own h2 (by intro b hb hlt; simp at hb; omega)⟩
  refine iteP_dec (fun hbig => ?_) (fun hsm => ?_)
  · refine setret (x := (none, 0, 0)) rfl h2 h3 (by omega) fun w4 hx4 h24 h34 _ => ?_
    refine ld_h (s := .slc) (t := (none, 0, 0)) rfl h24 rfl ?_
    refine ld_h (s := .int .i64) (t := 2) rfl h34 rfl ?_
    exact fin hx2 hx4 rfl (by unfold parseP; rw [if_pos (by simp only [strOf_size] at hbig; omega)])
  have hL256 : L.length ≤ 256 := by simp only [strOf_size] at hsm; omega
  have hhp : CallF P F_strings_HasPrefix #[.string (strOf L), .string (ByteArray.mk #[47])] w2 fun e w' => e = .returned (.bool (decide (L.head? = some 47))) ∧ w' = w2 := by
    refine fn_strings_HasPrefix ?_
    unfold T_strings_HasPrefix
    have h1 : CallF P F_internal_stringslite_HasPrefix #[.string (strOf L), .string (ByteArray.mk #[47])] w2 fun e w' => e = .returned (.bool (decide (L.head? = some 47))) ∧ w' = w2 := by
      refine fn_internal_stringslite_HasPrefix ?_
      unfold T_internal_stringslite_HasPrefix
      cases L with
      | nil => exact iteP_f rfl ⟨rfl, rfl⟩
      | cons c L =>
        refine iteP_t (decide_eq_true (by show ((strOf (c :: L)).size : Int) ≥ 1; rw [strOf_size]; simp only [List.length_cons]; omega)) ?_
        refine genQ_of (s := .str) _ (slStr_h (l := 0) (h := 1) uStr .no (.yes rfl) (by omega) (by simp)) ?_
        refine ⟨?_, rfl⟩
        congr 2
        rw [Bool.eq_iff_iff, beqStr, decide_eq_true_iff]
        simp
    exact callQ_of (decide (L.head? = some 47)) h1 ⟨rfl, rfl⟩
  refine callQ_of (decide (L.head? = some 47)) hhp ?_
  by_cases hhd : L.head? = some 47
  rotate_left
  · refine iteP_t (by simp [hhd]) ?_
    refine setret (x := (none, 0, 0)) rfl h2 h3 (by omega) fun w4 hx4 h24 h34 _ => ?_
    refine ld_h (s := .slc) (t := (none, 0, 0)) rfl h24 rfl ?_
    refine ld_h (s := .int .i64) (t := 40) rfl h34 rfl ?_
    exact fin hx2 hx4 rfl (by unfold parseP; rw [if_neg (by omega), if_pos hhd])
  refine iteP_f (by simp [hhd]) ?_
  refine loopP_of (fun (s : Int) W => ∃ i : Nat, s = (i : Int) ∧ i ≤ L.length ∧ W = w2 ∧ ∀ b ∈ L.take i, (decide (b = 47) || plainB b) = true) (fun s _ => (L.length - s).toNat) ⟨0, rfl, Nat.zero_le _, rfl, by simp⟩ ?_
  rintro _ w2 ⟨i, rfl, hi, rfl, hpl⟩
  refine iteP_dec (fun hlt => ?_) (fun hge => ?_)
  · have hil : i < L.length := by simp only [strOf_size] at hlt; omega
    have hnext : (decide (L[i] = 47) || plainB L[i]) = true → ∀ b ∈ L.take (i + 1), (decide (b = 47) || plainB b) = true := by
      intro h b hm
      rw [List.take_add_one, List.getElem?_eq_getElem hil] at hm
      rcases List.mem_append.1 hm with hm | hm
      · exact hpl b hm
      · simp only [Option.toList_some, List.mem_singleton] at hm; subst hm; exact h
    have hgo : ∀ {K : Int → Prop}, (decide (L[i] = 47) || plainB L[i]) = true → (∀ k, k = ((i + 1 : Nat) : Int) → K k) → addI .i64 (i : Int) 1 K := fun _ hK => addI_to ((i + 1 : Nat) : Int) (by omega) (by omega) (by omega) (hK _ rfl)
    refine joinP_in ?_
    refine joinP_in ?_
    refine ixStr_h i rfl hil ?_
    refine iteP_ne (fun h47 => ?_) (fun h47 => ?_)
    · refine ixStr_h i rfl hil ?_
      refine callQ_of (plainB L[i]) (plain_c _) ?_
      cases hb : plainB L[i] with
      | false =>
        refine iteP_t rfl ?_
        refine setret (x := (none, 0, 0)) rfl h2 h3 (by omega) fun w4 hx4 h24 h34 _ => ?_
        refine ld_h (s := .slc) (t := (none, 0, 0)) rfl h24 rfl ?_
        refine ld_h (s := .int .i64) (t := 40) rfl h34 rfl ?_
        refine fin hx2 hx4 rfl ?_
        have : okText L = false := by
          unfold okText
          rw [List.all_eq_false]
          refine ⟨L[i], List.getElem_mem hil, ?_⟩
          have : ¬ L[i] = 47 := fun e => h47 (by rw [e]; rfl)
          simp [this, hb]
        unfold parseP
        rw [if_neg (by omega), if_neg (by simp [hhd]), if_pos this]
      | true =>
        refine iteP_f rfl ?_
        refine hgo (by simp [hb]) ?_
        rintro _ rfl
        exact ⟨⟨i + 1, rfl, by omega, rfl, hnext (by simp [hb])⟩, by omega⟩
    · have h47' : L[i] = 47 := UInt8.toNat_inj.1 (by have h : ((L[i]).toNat : Int) = 47 := h47; show (L[i]).toNat = 47; omega)
      refine hgo (by simp [h47']) ?_
      rintro _ rfl
      exact ⟨⟨i + 1, rfl, by omega, rfl, hnext (by simp [h47'])⟩, by omega⟩
  have hie : i = L.length := by simp only [strOf_size] at hge; omega
  subst hie
  rw [List.take_length] at hpl
  have hok : okText L = true := List.all_eq_true.2 hpl
  have hP : parseP L = if (pieces L).any (fun x => decide (16 < x.length)) then ([], 41) else if 8 < (walkP (pieces L)).length then ([], 42) else (walkP (pieces L), 0) := by
    unfold parseP; rw [if_neg (by omega), if_neg (by simp [hhd]), if_neg (by simp [hok])]
  refine newB_h rfl fun w12 hw12 => ?_
  have h12 : Ext [] w2.heap w12.heap := by rw [hw12]; exact .push _
  have hb5 : w12.heap[H.size + 2]? = some (.cells #[.slice none 0 0] y_S_string (0, 0)) := by rw [hw12, ← hs2]; exact push_new
  have hs12 : w12.heap.size = H.size + 3 := by rw [hw12]; simp [hs2]
  rw [hs2]
  have hpieces : CallF P F_vpath_pieces #[.string (strOf L)] w12 fun e w' => e = .returned (.func (.func F_vpath_pieces_1) #[] #[.pointer (some ⟨H.size + 3, 0, none⟩)]) ∧ w'.heap = w12.heap.push (.cells #[.string (strOf L)] y_string) := by
    refine fn_vpath_pieces ?_
    unfold T_vpath_pieces
    refine newB_h rfl fun w13 hw13 => ?_
    exact genQ_of (s := .any) _ rfl ⟨by rw [hs12], hw13⟩
  refine callF_of hpieces ?_
  rintro e w13 ⟨rfl, hw13⟩
  refine ⟨_, rfl, ?_⟩
  have h1213 : Ext [] w12.heap w13.heap := by rw [hw13]; exact .push _
  have hb1 : w13.heap[H.size + 3]? = some (.cells #[.string (strOf L)] y_string (0, 0)) := by rw [hw13, ← hs12]; exact push_new
  have hs13 : w13.heap.size = H.size + 4 := by rw [hw13]; simp [hs12]
  have h213 := h12.trans h1213
  have hx13 := hx2.trans h213
  have hpl2 := pieces_len (L := L)
  refine range_ofA (α := List UInt8) (shs := [.str]) (tv := fun x => strOf x) (fp := [H.size + 3]) (A := [H.size + 3]) (seq_pieces rfl hb1 (by omega)) (fun _ h => h) [H.size, H.size + 1, H.size + 2] ?_ (fun b hb => by simp only [List.mem_singleton] at hb; omega)
    (fun pre W => ∃ x, Ext [] H W.heap ∧ W.heap[H.size]? = some (.cells #[.slice none 0 0] y_S_string (0, 0)) ∧ W.heap[H.size + 1]? = some (.cells #[.int .i64 0] y_api_Errno (0, 0)) ∧ W.heap[H.size + 2]? = some (.cells #[slcV x] y_S_string (0, 0)) ∧ Mine W.heap (H.size + 4) y_string 1 x (strRow (walkP pre)) ∧ pre.any (fun x => decide (16 < x.length)) = false)
    (fun W => Ext [] H W.heap ∧ W.heap[H.size]? = some (.cells #[.slice none 0 0] y_S_string (0, 0)) ∧ W.heap[H.size + 1]? = some (.cells #[.int .i64 41] y_api_Errno (0, 0)) ∧ (pieces L).any (fun x => decide (16 < x.length)) = true)
    (fun _ _ => False) ?_ ?_ (fun _ _ _ h _ => h.elim) ?_ ?_ ?_ ?_ ?_ (fun _ _ h => h.elim)
  · intro b hb
    simp only [List.mem_cons, List.not_mem_nil, or_false] at hb ⊢
    omega
  · rintro pre W W' ⟨x, h1, h2, h3, h4, h5, h6⟩ hB
    exact ⟨x, hB.ext (by omega) h1, hB.cells h2, hB.cells h3, hB.cells h4, hB.mine h5, h6⟩
  · rintro W W' ⟨h1, h2, h3, h4⟩ hB
    exact ⟨hB.ext (by omega) h1, hB.cells h2, hB.cells h3, h4⟩
  · rintro pre W W' ⟨x, h1, h2, h3, h4, h5, h6⟩ hx
    have hn : ∀ b, b ≠ H.size + 3 → b ∉ [H.size + 3] := fun b h => by simpa using h
    exact ⟨x, h1.own hx (by intro b hb hlt; simp at hb; omega), hx.get h2 (hn _ (by omega)), hx.get h3 (hn _ (by omega)), hx.get h4 (hn _ (by omega)), h5.ext hx (fun b hb => hn b (by have := ownM_ge h5 b hb; omega)), h6⟩
  · exact ⟨(none, 0, 0), hx13, h213.get h2 (by simp), h213.get h3 (by simp), h1213.get hb5 (by simp), .inl ⟨rfl, rfl⟩, rfl⟩
  · rintro pre y W ⟨rest, hrest⟩ ⟨x, k1, k2, k3, k4, k5, k6⟩ hsz beg kc kr kx hbeg
    have hprel : pre.length + 1 ≤ 256 := by have := congrArg List.length hrest; simp at this; omega
    have hwl : (walkP pre).length ≤ pre.length := by have := walk_len (ps := pre) (acc := []); simpa [walkP] using this
    refine hbeg W _ (.refl _ _) fun W2 hB2 hs2' hkc hkr _ => ?_
    have k12 : Ext [] H W2.heap := hB2.ext (by omega) k1
    have k22 := hB2.cells k2
    have k32 := hB2.cells k3
    have k42 := hB2.cells k4
    have k52 := hB2.mine k5
    have hxl : x.2.1 = (walkP pre).length := by have := k52.len; simp at this; omega
    have hW2 : H.size + 4 ≤ W2.heap.size := by omega
    have goOn : ∀ {W3 : World} {x' : Option Addr × Nat × Nat}, Ext ((H.size + 2) :: ownM x) W2.heap W3.heap → W3.heap[H.size + 2]? = some (.cells #[slcV x'] y_S_string (0, 0)) → Mine W3.heap (H.size + 4) y_string 1 x' (strRow (walkP (pre ++ [y]))) → ¬ 16 < y.length → kc W3 := by
      intro W3 x' hx h4 h5 hy
      have hown := ownM_ge k52
      have hn : ∀ b, b < H.size + 2 → b ∉ (H.size + 2) :: ownM x := fun b hb h => by
        rcases List.mem_cons.1 h with h | h
        · omega
        · have := hown b h; omega
      refine hkc W3 (.of hx (fun b hb => ?_) (by intro b hb; simp at hb; omega)) ⟨x', k12.own hx ?_, hx.get k22 (hn _ (by omega)), hx.get k32 (hn _ (by omega)), h4, h5, by rw [any_take, k6]; simp; omega⟩
      · rcases List.mem_cons.1 hb with rfl | hb
        · left; simp
        · right
          refine ⟨by have := hown b hb; omega, ?_⟩
          rcases k52 with ⟨rfl, _⟩ | ⟨b2, c2, hx2', _, hb2, _⟩
          · simp [ownM] at hb
          · simp only [ownM, hx2', List.mem_singleton] at hb; subst hb; exact ⟨_, _, _, hb2⟩
      · intro b hb hlt
        exact absurd hb (hn b (by omega))
    refine joinP_in ?_
    refine joinP_in ?_
    refine iteP_dec (fun hlong => ?_) (fun hshort => ?_)
    · have hlong : 16 < y.length := by have h := hlong; simp only [strOf_size] at h; omega
      refine setret (x := (none, 0, 0)) rfl k22 k32 (by omega) fun w4 hx4 h24 h34 hs4 => ?_
      refine hkr w4 (.of hx4 (fun b hb => .inl (by simp at hb ⊢; omega)) (by intro b hb; simp at hb; omega)) ⟨k12.own hx4 (by intro b hb hlt; simp at hb; omega), h24, h34, ?_⟩
      rw [List.any_eq_true]
      exact ⟨y, by rw [hrest]; simp, by simpa using hlong⟩
    have hshort : ¬ 16 < y.length := by have h := hshort; simp only [strOf_size] at h; omega
    have hnone : walkP (pre ++ [y]) = walkP pre → kc W2 := fun h => goOn (.refl _ _) k42 (by rw [h]; exact k52) hshort
    refine iteP_of (p := y = []) beqStr (fun h => hnone (by rw [walk_snoc, walkStep, if_pos (.inl h)])) (fun hy0 => ?_)
    refine iteP_of (p := y = [46]) beqStr (fun h => hnone (by rw [walk_snoc, walkStep, if_pos (.inr h)])) (fun hy1 => ?_)
    refine iteP_of (p := y = [46, 46]) beqStr (fun h => ?_) (fun hy2 => ?_)
    · refine ld_h (s := .slc) (t := x) rfl k42 rfl ?_
      refine ld_h (s := .slc) (t := x) rfl k42 rfl ?_
      refine subI_to ((x.2.1 : Int) - 1) rfl (by omega) (by omega) ?_
      refine genQ_of (s := .int .i64) ((x.2.1 - 1 : Nat) : Int) ?_ ?_
      · rw [run_max_int2]
        congr 2
        show (if (0 : Int) > (x.2.1 : Int) - 1 then 0 else (x.2.1 : Int) - 1) = ((x.2.1 - 1 : Nat) : Int)
        split <;> omega
      have hxc : x.2.1 ≤ x.2.2 := by
        rcases k52 with ⟨rfl, _⟩ | ⟨_, _, _, _, _, _, _, h, _⟩
        · exact Nat.le_refl _
        · exact h
      refine genQ_of (s := .slc) (if x.2.2 = 0 then x.1 else x.1.map (·.add (0 * 1)), (x.2.1 - 1) - 0, x.2.2 - 0) (run_slice_slc uSstr szStr .no (.yes rfl) (Nat.zero_le _) (by omega)) ?_
      refine stC_h rfl k42 (by simp) fun W3 hW3 => ?_
      have hx3 : Ext [H.size + 2] W2.heap W3.heap := by rw [hW3]; exact Ext.set _ (by simp)
      refine goOn (x' := (if x.2.2 = 0 then x.1 else x.1.map (·.add (0 * 1)), (x.2.1 - 1) - 0, x.2.2 - 0)) (hx3.mono (by simp)) (by rw [hW3]; exact set_new k42) ?_ hshort
      have hcut := (Mine.cut k52 (k := x.2.1 - 1) (by omega)).ext hx3 (fun b hb => by rw [ownM_cut] at hb; have := ownM_ge k52 b hb; simp only [List.mem_singleton]; omega)
      rw [strRow_take] at hcut
      have hw2 : walkP (pre ++ [y]) = (walkP pre).take (x.2.1 - 1) := by rw [walk_snoc, walkStep, if_neg (by simp [hy0, hy1]), if_pos h, List.dropLast_eq_take, ← hxl]
      rw [hw2]
      exact hcut
    · refine ld_h (s := .slc) (t := x) rfl k42 rfl ?_
      refine genL_of (s := .slc) (some ⟨W2.heap.size, 0, none⟩, 1, 1) _ (build1_g Estr uSstr (v := .string (strOf y)) rfl (by omega) (by omega)) ?_
      have hxp : Ext [] W2.heap (W2.heap.push (.cells (Value.string (strOf y)).cells y_string)) := .push _
      refine append_g (n := 1) (us := [.string (strOf y)]) (H := W2.heap.push (.cells (Value.string (strOf y)).cells y_string)) Estr (by omega) uSstr (slice_noint uSstr) rfl (k52.ext hxp (by simp)) (by simp; omega)
        (Src.slc rfl (.inr ⟨W2.heap.size, 0, _, _, _, rfl, push_new, by simp [Value.cells], by simp [Value.cells]⟩) rfl) (by intro v hv; simp only [List.mem_singleton] at hv; subst hv; rfl) (by omega) ?_
      intro x' W4 hm4 hl4 hx4 _
      have hb4 : W4.heap[H.size + 2]? = some (.cells #[slcV x] y_S_string (0, 0)) := hx4.get (hxp.get k42 (by simp)) (fun h => by have := ownM_ge k52 _ h; omega)
      refine stC_h rfl hb4 (by simp) fun W5 hW5 => ?_
      have hx5 : Ext [H.size + 2] W4.heap W5.heap := by rw [hW5]; exact Ext.set _ (by simp)
      refine goOn (x' := x') (((hxp.mono (by simp)).trans (hx4.mono (fun b hb => List.mem_cons_of_mem _ hb))).trans (hx5.mono (by simp))) (by rw [hW5]; exact set_new hb4) ?_ hshort
      rw [walk_snoc, walkStep, if_neg (by simp [hy0, hy1]), if_neg hy2, ← strRow_append]
      exact hm4.ext hx5 (fun b hb => by have := ownM_ge hm4 b hb; simp only [List.mem_singleton]; omega)
  · rintro xs W rfl ⟨x, k1, k2, k3, k4, k5, k6⟩ hD
    rw [if_neg (by simp [k6])] at hP
    have hxl : x.2.1 = (walkP (pieces L)).length := by have := k5.len; simp at this; omega
    refine ld_h (s := .slc) (t := x) rfl k4 rfl ?_
    have hne2 : ∀ {W' : World} {o : Obj} {b : Nat}, b ≠ w13.heap.size → W'.heap[b]? = some o → (W'.heap.setIfInBounds w13.heap.size (.deferred none))[b]? = some o := fun h ho => set_old ho h
    refine iteP_dec (fun hdeep => ?_) (fun hflat => ?_)
    · refine setret (x := (none, 0, 0)) rfl k2 k3 (by omega) fun w4 hx4 h24 h34 hs4 => ?_
      refine ⟨hx4.get hD (by simp; omega), fun w5 hw5 => ?_⟩
      have hh5 : w5.heap = w4.heap.setIfInBounds w13.heap.size (.deferred none) := by rw [hw5, heap_putObj]
      refine ld_h (s := .slc) (t := (none, 0, 0)) rfl (by rw [hh5]; exact hne2 (by omega) h24) rfl ?_
      refine ld_h (s := .int .i64) (t := 42) rfl (by rw [hh5]; exact hne2 (by omega) h34) rfl ?_
      rw [if_pos (by omega)] at hP
      rw [hP]
      refine ⟨(none, 0, 0), rfl, .inl ⟨rfl, rfl⟩, ?_⟩
      rw [hh5]
      exact (k1.own hx4 (by intro b hb hlt; simp at hb; omega)).set_own (.inl (by omega))
    · refine ld_h (s := .slc) (t := x) rfl k4 rfl ?_
      refine setret (x := x) rfl k2 k3 (by omega) fun w4 hx4 h24 h34 hs4 => ?_
      have hD4 := hx4.get hD (by simp; omega)
      refine ⟨hD4, fun w5 hw5 => ?_⟩
      have hh5 : w5.heap = w4.heap.setIfInBounds w13.heap.size (.deferred none) := by rw [hw5, heap_putObj]
      refine ld_h (s := .slc) (t := x) rfl (by rw [hh5]; exact hne2 (by omega) h24) rfl ?_
      refine ld_h (s := .int .i64) (t := 0) rfl (by rw [hh5]; exact hne2 (by omega) h34) rfl ?_
      rw [if_neg (by omega)] at hP
      rw [hP]
      refine ⟨x, rfl, ?_, ?_⟩
      · have hm4 := k5.ext hx4 (fun b hb => by have := ownM_ge k5 b hb; simp; omega)
        have hB : Beside w13.heap.size w4 w5 := by rw [hw5]; exact .put (Nat.le_refl _) hD4 (by intro _ _ _ h; cases h)
        exact (hB.mine hm4).mono (by omega)
      · rw [hh5]
        exact (k1.own hx4 (by intro b hb hlt; simp at hb; omega)).set_own (.inl (by omega))
  · rintro W ⟨k1, k2, k3, k4⟩ hD
    refine ⟨hD, fun w5 hw5 => ?_⟩
    have hh5 : w5.heap = W.heap.setIfInBounds w13.heap.size (.deferred none) := by rw [hw5, heap_putObj]
    refine ld_h (s := .slc) (t := (none, 0, 0)) rfl (by rw [hh5]; exact set_old k2 (by omega)) rfl ?_
    refine ld_h (s := .int .i64) (t := 41) rfl (by rw [hh5]; exact set_old k3 (by omega)) rfl ?_
    rw [if_pos k4] at hP
    rw [hP]
    refine ⟨(none, 0, 0), rfl, .inl ⟨rfl, rfl⟩, ?_⟩
    rw [hh5]
    exact k1.set_own (.inl (by omega))
end Go.Proofs.YtbmegmbnlajbbaaGreat
