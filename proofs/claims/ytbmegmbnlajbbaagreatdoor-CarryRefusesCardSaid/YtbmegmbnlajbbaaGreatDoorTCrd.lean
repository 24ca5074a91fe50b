/- Part 4 of the texts below the card, joined. -/
import Derived.Test.YtbmegmbnlajbbaaGreatDoorTCrc
import Derived.Test.YtbmegmbnlajbbaaGreatDoorTCrb
import Derived.KernelRfl
import Derived.Shelf.SlSortCmp.WholeK
import Derived.Shelf.Small.Bits
import Derived.Test.YtbmegmbnlajbbaaGreatDoorProg
namespace Go.Proofs.YtbmegmbnlajbbaaGreatDoor
open Go Go.Fw Go.Proofs
def walkStep (acc : Path) (x : List UInt8) : Path := if x = [] ∨ x = [46] then acc else if x = [46, 46] then acc.dropLast else acc ++ [x]
def walkP (ps : Path) : Path := ps.foldl walkStep []
def okText (L : List UInt8) : Bool := L.all fun b => decide (b = 47) || plainB b
def parseP (L : List UInt8) : Path × Int :=
 if 256 < L.length then ([], 2) else if L.head? ≠ some 47 then ([], 40) else if okText L = false then ([], 40)
 else if (pieces L).any (fun x => decide (16 < x.length)) then ([], 41) else if 8 < (walkP (pieces L)).length then ([], 42) else (walkP (pieces L), 0)
theorem walk_snoc {ps : Path} {x : List UInt8} : walkP (ps ++ [x]) = walkStep (walkP ps) x := by simp [walkP]
theorem walk_len : ∀ {ps acc : Path}, (ps.foldl walkStep acc).length ≤ acc.length + ps.length
 | [], acc => by simp
 | x :: ps, acc => by
  have := walk_len (ps := ps) (acc := walkStep acc x)
  have h : (walkStep acc x).length ≤ acc.length + 1 := by
   unfold walkStep; split
   ·omega
   ·split <;> simp; omega
  simp only [List.foldl_cons, List.length_cons]; omega
theorem pieces_len : ∀ {L : List UInt8}, (pieces L).length ≤ L.length
 | [] => by simp [pieces]
 | c :: L => by
  have := pieces_len (L := L)
  rw [pieces]
  split
  ·simp; omega
  ·split
   ·simp
   ·rename_i p ps h
    rw [h] at this
    split <;> (simp only [List.length_cons] at this ⊢; omega)
theorem Estr : Elem P y_string 1 16 := elem_of (z := .string .empty) (by kernel_rfl) rfl
theorem zcSS : zc P y_S_string = #[.slice none 0 0] := by kernel_rfl
theorem zcE : zc P y_api_Errno = #[.int .i64 0] := by kernel_rfl
theorem Mine.cut {H : Heap} {B : Nat} {T : TypeId} {x : Option Addr × Nat × Nat} {vs : List Value} (h : Mine H B T 1 x vs) {k : Nat} (hk : k ≤ x.2.1) :
  Mine H B T 1 (if x.2.2 = 0 then x.1 else x.1.map (·.add (0 * 1)), k - 0, x.2.2 - 0) (vs.take k) := by
 rcases h with ⟨rfl, rfl⟩ | ⟨b, c, hx, hB, hb, hc, hl, hle, he⟩
 ·simp only at hk
  obtain rfl : k = 0 := by omega
  exact .inl ⟨by simp, by simp⟩
 ·have hkl : (vs.take k).length = k := by simp; omega
  refine .inr ⟨b, c, ?_, hB, hb, by simpa using hc, by rw [hkl]; simp, by simp only; omega, ?_⟩
  ·simp only [hx]
   split
   ·rfl
   ·simp [add_none]
  ·rw [hkl]
   conv => rhs; rw [← he]
   simp only [Array.toList_extract, List.extract_eq_take_drop, List.drop_zero, Nat.sub_zero, List.take_take]
   congr 1; omega
theorem ownM_cut {x : Option Addr × Nat × Nat} {k c : Nat} : ownM (if x.2.2 = 0 then x.1 else x.1.map (·.add (0 * 1)), k, c) = ownM x := by
 by_cases h : x.2.2 = 0
 ·rw [if_pos h]; rfl
 ·rw [if_neg h]
  cases hx : x.1 with
  | none => simp [ownM, hx]
  | some a => simp [ownM, hx, Addr.add]
theorem setret {w : World} {H : Heap} {b2 b3 : Nat} {v2 v3 : Value} {code : Int} {x : Option Addr × Nat × Nat} (hw : w.heap = H) (h2 : H[b2]? = some (.cells #[v2] y_S_string (0, 0))) (h3 : H[b3]? = some (.cells #[v3] y_api_Errno (0, 0))) (hne : b2 ≠ b3) {K : World → Prop}
  (hK : ∀ w', Ext [b2, b3] H w'.heap → w'.heap[b2]? = some (.cells #[slcV x] y_S_string (0, 0)) → w'.heap[b3]? = some (.cells #[.int .i64 code] y_api_Errno (0, 0)) → w'.heap.size = H.size → K w') :
  stC ⟨b2, 0, none⟩ (.slice x.1 x.2.1 x.2.2) w fun w3 => stC ⟨b3, 0, none⟩ (.int .i64 code) w3 fun w4 => K w4 := by
 refine stC_h hw h2 (by simp) fun w3 hw3 => ?_
 have h33 : w3.heap[b3]? = some (.cells #[v3] y_api_Errno (0, 0)) := by rw [hw3]; exact set_old h3 (Ne.symm hne)
 have h32 : w3.heap[b2]? = some (.cells #[slcV x] y_S_string (0, 0)) := by rw [hw3]; exact set_new h2
 refine stC_h rfl h33 (by simp) fun w4 hw4 => ?_
 refine hK w4 ?_ (by rw [hw4]; exact set_old h32 hne) (by rw [hw4]; exact set_new h33) (by rw [hw4, hw3]; simp)
 rw [hw4, hw3]
 exact ((Ext.refl _ _).set_own (.inr (by simp))).set_own (.inr (by simp))
theorem any_take {ps : Path} {x : List UInt8} : (ps ++ [x]).any (fun x => decide (16 < x.length)) = (ps.any (fun x => decide (16 < x.length)) || decide (16 < x.length)) := by simp
set_option maxHeartbeats 8000000 in
theorem parse_c {w : World} {H : Heap} (L : List UInt8) (hw : w.heap = H) :
  CallF P F_vpath_Parse #[.string (strOf L)] w fun e w' => ∃ x, e = .returned (.tuple #[slcV x, .int .i64 (parseP L).2]) ∧ Mine w'.heap H.size y_string 1 x (strRow (parseP L).1) ∧ Ext [] H w'.heap := by
 refine fn_vpath_Parse ?_
 unfold T_vpath_Parse
 rw [zcSS, zcE]
 refine newB_h hw fun w1 hw1 => ?_
 refine newB_h hw1 fun w2 hw2 => ?_
 have hsz : (H.push (.cells #[.slice none 0 0] y_S_string)).size = H.size + 1 := by simp
 have h2 : w2.heap[H.size]? = some (.cells #[.slice none 0 0] y_S_string (0, 0)) := by rw [hw2]; exact push_old push_new
 have h3 : w2.heap[H.size + 1]? = some (.cells #[.int .i64 0] y_api_Errno (0, 0)) := by rw [hw2, ← hsz]; exact push_new
 have hx2 : Ext [] H w2.heap := by rw [hw2]; exact (Ext.push _).trans (Ext.push _)
 have hs2 : w2.heap.size = H.size + 2 := by rw [hw2]; simp
 rw [hsz]
 clear hw1 hw2
 have fin : ∀ {w w' : World} {x : Option Addr × Nat × Nat} {code : Int}, Ext [] H w.heap → Ext [H.size, H.size + 1] w.heap w'.heap → x = (none, 0, 0) → parseP L = ([], code) →
   ∃ y, Ending.returned (.tuple #[slcV x, .int .i64 code]) = .returned (.tuple #[slcV y, .int .i64 (parseP L).2]) ∧ Mine w'.heap H.size y_string 1 y (strRow (parseP L).1) ∧ Ext [] H w'.heap := by
  intro w w' x code h1 h2 hx hp
  subst hx
  rw [hp]
  exact ⟨(none, 0, 0), rfl, .inl ⟨rfl, rfl⟩, h1.own h2 (by intro b hb hlt; simp at hb; omega)⟩
 refine iteP_dec (fun hbig => ?_) (fun hsm => ?_)
 ·refine setret (x := (none, 0, 0)) rfl h2 h3 (by omega) fun w4 hx4 h24 h34 _ => ?_
  refine ld_h (s := .slc) (t := (none, 0, 0)) rfl h24 rfl ?_
  refine ld_h (s := .int .i64) (t := 2) rfl h34 rfl ?_
  exact fin hx2 hx4 rfl (by unfold parseP; rw [if_pos (by simp only [strOf_size] at hbig; omega)])
 have hL256 : L.length ≤ 256 := by simp only [strOf_size] at hsm; omega
 have hhp : CallF P F_strings_HasPrefix #[.string (strOf L), .string (ByteArray.mk #[47])] w2 fun e w' => e = .returned (.bool (decide (L.head? = some 47))) ∧ w' = w2 := by
  refine fn_strings_HasPrefix ?_
  unfold T_strings_HasPrefix
  have h1 : CallF P F_internal_stringslite_HasPrefix #[.string (strOf L), .string (ByteArray.mk #[47])] w2 fun e w' => e = .returned (.bool (decide (L.head? = some 47))) ∧ w' = w2 := by
   refine fn_internal_stringslite_HasPrefix ?_
   unfold T_internal_stringslite_HasPrefix
   cases L with
   | nil => exact iteP_f rfl ⟨rfl, rfl⟩
   | cons c L =>
    refine iteP_t (decide_eq_true (by show ((strOf (c :: L)).size : Int) ≥ 1; rw [strOf_size]; simp only [List.length_cons]; omega)) ?_
    refine genQ_of (s := .str) _ (slStr_h (l := 0) (h := 1) uStr .no (.yes rfl) (by omega) (by simp)) ?_
    refine ⟨?_, rfl⟩
    congr 2
    rw [Bool.eq_iff_iff, beqStr, decide_eq_true_iff]
    simp
  exact callQ_of (decide (L.head? = some 47)) h1 ⟨rfl, rfl⟩
 refine callQ_of (decide (L.head? = some 47)) hhp ?_
 by_cases hhd : L.head? = some 47
 rotate_left
 ·refine iteP_t (by simp [hhd]) ?_
  refine setret (x := (none, 0, 0)) rfl h2 h3 (by omega) fun w4 hx4 h24 h34 _ => ?_
  refine ld_h (s := .slc) (t := (none, 0, 0)) rfl h24 rfl ?_
  refine ld_h (s := .int .i64) (t := 40) rfl h34 rfl ?_
  exact fin hx2 hx4 rfl (by unfold parseP; rw [if_neg (by omega), if_pos hhd])
 refine iteP_f (by simp [hhd]) ?_
 refine loopP_of (fun (s : Int) W => ∃ i : Nat, s = (i : Int) ∧ i ≤ L.length ∧ W = w2 ∧ ∀ b ∈ L.take i, (decide (b = 47) || plainB b) = true) (fun s _ => (L.length - s).toNat) ⟨0, rfl, Nat.zero_le _, rfl, by simp⟩ ?_
 rintro _ w2 ⟨i, rfl, hi, rfl, hpl⟩
 refine iteP_dec (fun hlt => ?_) (fun hge => ?_)
 ·have hil : i < L.length := by simp only [strOf_size] at hlt; omega
  have hnext : (decide (L[i] = 47) || plainB L[i]) = true → ∀ b ∈ L.take (i + 1), (decide (b = 47) || plainB b) = true := by
   intro h b hm
   rw [List.take_add_one, List.getElem?_eq_getElem hil] at hm
   rcases List.mem_append.1 hm with hm | hm
   ·exact hpl b hm
   ·simp only [Option.toList_some, List.mem_singleton] at hm; subst hm; exact h
  have hgo : ∀ {K : Int → Prop}, (decide (L[i] = 47) || plainB L[i]) = true → (∀ k, k = ((i + 1 : Nat) : Int) → K k) → addI .i64 (i : Int) 1 K := fun _ hK => addI_to ((i + 1 : Nat) : Int) (by omega) (by omega) (by omega) (hK _ rfl)
  refine joinP_in ?_
  refine joinP_in ?_
  refine ixStr_h i rfl hil ?_
  refine iteP_ne (fun h47 => ?_) (fun h47 => ?_)
  ·refine ixStr_h i rfl hil ?_
   refine callQ_of (plainB L[i]) (plain_c _) ?_
   cases hb : plainB L[i] with
   | false =>
    refine iteP_t rfl ?_
    refine setret (x := (none, 0, 0)) rfl h2 h3 (by omega) fun w4 hx4 h24 h34 _ => ?_
    refine ld_h (s := .slc) (t := (none, 0, 0)) rfl h24 rfl ?_
    refine ld_h (s := .int .i64) (t := 40) rfl h34 rfl ?_
    refine fin hx2 hx4 rfl ?_
    have : okText L = false := by
     unfold okText
     rw [List.all_eq_false]
     refine ⟨L[i], List.getElem_mem hil, ?_⟩
     have : ¬ L[i] = 47 := fun e => h47 (by rw [e]; rfl)
     simp [this, hb]
    unfold parseP
    rw [if_neg (by omega), if_neg (by simp [hhd]), if_pos this]
   | true =>
    refine iteP_f rfl ?_
    refine hgo (by simp [hb]) ?_
    rintro _ rfl
    exact ⟨⟨i + 1, rfl, by omega, rfl, hnext (by simp [hb])⟩, by omega⟩
  ·have h47' : L[i] = 47 := UInt8.toNat_inj.1 (by have h : ((L[i]).toNat : Int) = 47 := h47; show (L[i]).toNat = 47; omega)
   refine hgo (by simp [h47']) ?_
   rintro _ rfl
   exact ⟨⟨i + 1, rfl, by omega, rfl, hnext (by simp [h47'])⟩, by omega⟩
 have hie : i = L.length := by simp only [strOf_size] at hge; omega
 subst hie
 rw [List.take_length] at hpl
 have hok : okText L = true := List.all_eq_true.2 hpl
 have hP : parseP L = if (pieces L).any (fun x => decide (16 < x.length)) then ([], 41) else if 8 < (walkP (pieces L)).length then ([], 42) else (walkP (pieces L), 0) := by
  unfold parseP; rw [if_neg (by omega), if_neg (by simp [hhd]), if_neg (by simp [hok])]
 refine newB_h rfl fun w12 hw12 => ?_
 have h12 : Ext [] w2.heap w12.heap := by rw [hw12]; exact .push _
 have hb5 : w12.heap[H.size + 2]? = some (.cells #[.slice none 0 0] y_S_string (0, 0)) := by rw [hw12, ← hs2]; exact push_new
 have hs12 : w12.heap.size = H.size + 3 := by rw [hw12]; simp [hs2]
 rw [hs2]
 have hpieces : CallF P F_vpath_pieces #[.string (strOf L)] w12 fun e w' => e = .returned (.func (.func F_vpath_pieces_1) #[] #[.pointer (some ⟨H.size + 3, 0, none⟩)]) ∧ w'.heap = w12.heap.push (.cells #[.string (strOf L)] y_string) := by
  refine fn_vpath_pieces ?_
  unfold T_vpath_pieces
  refine newB_h rfl fun w13 hw13 => ?_
  exact genQ_of (s := .any) _ rfl ⟨by rw [hs12], hw13⟩
 refine callF_of hpieces ?_
 rintro e w13 ⟨rfl, hw13⟩
 refine ⟨_, rfl, ?_⟩
 have h1213 : Ext [] w12.heap w13.heap := by rw [hw13]; exact .push _
 have hb1 : w13.heap[H.size + 3]? = some (.cells #[.string (strOf L)] y_string (0, 0)) := by rw [hw13, ← hs12]; exact push_new
 have hs13 : w13.heap.size = H.size + 4 := by rw [hw13]; simp [hs12]
 have h213 := h12.trans h1213
 have hx13 := hx2.trans h213
 have hpl2 := pieces_len (L := L)
 refine range_ofA (α := List UInt8) (shs := [.str]) (tv := fun x => strOf x) (fp := [H.size + 3]) (A := [H.size + 3]) (seq_pieces rfl hb1 (by omega)) (fun _ h => h) [H.size, H.size + 1, H.size + 2] ?_ (fun b hb => by simp only [List.mem_singleton] at hb; omega)
  (fun pre W => ∃ x, Ext [] H W.heap ∧ W.heap[H.size]? = some (.cells #[.slice none 0 0] y_S_string (0, 0)) ∧ W.heap[H.size + 1]? = some (.cells #[.int .i64 0] y_api_Errno (0, 0)) ∧ W.heap[H.size + 2]? = some (.cells #[slcV x] y_S_string (0, 0)) ∧ Mine W.heap (H.size + 4) y_string 1 x (strRow (walkP pre)) ∧ pre.any (fun x => decide (16 < x.length)) = false)
  (fun W => Ext [] H W.heap ∧ W.heap[H.size]? = some (.cells #[.slice none 0 0] y_S_string (0, 0)) ∧ W.heap[H.size + 1]? = some (.cells #[.int .i64 41] y_api_Errno (0, 0)) ∧ (pieces L).any (fun x => decide (16 < x.length)) = true)
  (fun _ _ => False) ?_ ?_ (fun _ _ _ h _ => h.elim) ?_ ?_ ?_ ?_ ?_ (fun _ _ h => h.elim)
 ·intro b hb
  simp only [List.mem_cons, List.not_mem_nil, or_false] at hb ⊢
  omega
 ·rintro pre W W' ⟨x, h1, h2, h3, h4, h5, h6⟩ hB
  exact ⟨x, hB.ext (by omega) h1, hB.cells h2, hB.cells h3, hB.cells h4, hB.mine h5, h6⟩
 ·rintro W W' ⟨h1, h2, h3, h4⟩ hB
  exact ⟨hB.ext (by omega) h1, hB.cells h2, hB.cells h3, h4⟩
 ·rintro pre W W' ⟨x, h1, h2, h3, h4, h5, h6⟩ hx
  have hn : ∀ b, b ≠ H.size + 3 → b ∉ [H.size + 3] := fun b h => by simpa using h
  exact ⟨x, h1.own hx (by intro b hb hlt; simp at hb; omega), hx.get h2 (hn _ (by omega)), hx.get h3 (hn _ (by omega)), hx.get h4 (hn _ (by omega)), h5.ext hx (fun b hb => hn b (by have := ownM_ge h5 b hb; omega)), h6⟩
 ·exact ⟨(none, 0, 0), hx13, h213.get h2 (by simp), h213.get h3 (by simp), h1213.get hb5 (by simp), .inl ⟨rfl, rfl⟩, rfl⟩
 ·rintro pre y W ⟨rest, hrest⟩ ⟨x, k1, k2, k3, k4, k5, k6⟩ hsz beg kc kr kx hbeg
  have hprel : pre.length + 1 ≤ 256 := by have := congrArg List.length hrest; simp at this; omega
  have hwl : (walkP pre).length ≤ pre.length := by have := walk_len (ps := pre) (acc := []); simpa [walkP] using this
  refine hbeg W _ (.refl _ _) fun W2 hB2 hs2' hkc hkr _ => ?_
  have k12 : Ext [] H W2.heap := hB2.ext (by omega) k1
  have k22 := hB2.cells k2
  have k32 := hB2.cells k3
  have k42 := hB2.cells k4
  have k52 := hB2.mine k5
  have hxl : x.2.1 = (walkP pre).length := by have := k52.len; simp at this; omega
  have hW2 : H.size + 4 ≤ W2.heap.size := by omega
  have goOn : ∀ {W3 : World} {x' : Option Addr × Nat × Nat}, Ext ((H.size + 2) :: ownM x) W2.heap W3.heap → W3.heap[H.size + 2]? = some (.cells #[slcV x'] y_S_string (0, 0)) → Mine W3.heap (H.size + 4) y_string 1 x' (strRow (walkP (pre ++ [y]))) → ¬ 16 < y.length → kc W3 := by
   intro W3 x' hx h4 h5 hy
   have hown := ownM_ge k52
   have hn : ∀ b, b < H.size + 2 → b ∉ (H.size + 2) :: ownM x := fun b hb h => by
    rcases List.mem_cons.1 h with h | h
    ·omega
    ·have := hown b h; omega
   refine hkc W3 (.of hx (fun b hb => ?_) (by intro b hb; simp at hb; omega)) ⟨x', k12.own hx ?_, hx.get k22 (hn _ (by omega)), hx.get k32 (hn _ (by omega)), h4, h5, by rw [any_take, k6]; simp; omega⟩
   ·rcases List.mem_cons.1 hb with rfl | hb
    ·left; simp
    ·right
     refine ⟨by have := hown b hb; omega, ?_⟩
     rcases k52 with ⟨rfl, _⟩ | ⟨b2, c2, hx2', _, hb2, _⟩
     ·simp [ownM] at hb
     ·simp only [ownM, hx2', List.mem_singleton] at hb; subst hb; exact ⟨_, _, _, hb2⟩
   ·intro b hb hlt
    exact absurd hb (hn b (by omega))
  refine joinP_in ?_
  refine joinP_in ?_
  refine iteP_dec (fun hlong => ?_) (fun hshort => ?_)
  ·have hlong : 16 < y.length := by have h := hlong; simp only [strOf_size] at h; omega
   refine setret (x := (none, 0, 0)) rfl k22 k32 (by omega) fun w4 hx4 h24 h34 hs4 => ?_
   refine hkr w4 (.of hx4 (fun b hb => .inl (by simp at hb ⊢; omega)) (by intro b hb; simp at hb; omega)) ⟨k12.own hx4 (by intro b hb hlt; simp at hb; omega), h24, h34, ?_⟩
   rw [List.any_eq_true]
   exact ⟨y, by rw [hrest]; simp, by simpa using hlong⟩
  have hshort : ¬ 16 < y.length := by have h := hshort; simp only [strOf_size] at h; omega
  have hnone : walkP (pre ++ [y]) = walkP pre → kc W2 := fun h => goOn (.refl _ _) k42 (by rw [h]; exact k52) hshort
  refine iteP_of (p := y = []) beqStr (fun h => hnone (by rw [walk_snoc, walkStep, if_pos (.inl h)])) (fun hy0 => ?_)
  refine iteP_of (p := y = [46]) beqStr (fun h => hnone (by rw [walk_snoc, walkStep, if_pos (.inr h)])) (fun hy1 => ?_)
  refine iteP_of (p := y = [46, 46]) beqStr (fun h => ?_) (fun hy2 => ?_)
  ·refine ld_h (s := .slc) (t := x) rfl k42 rfl ?_
   refine ld_h (s := .slc) (t := x) rfl k42 rfl ?_
   refine subI_to ((x.2.1 : Int) - 1) rfl (by omega) (by omega) ?_
   refine genQ_of (s := .int .i64) ((x.2.1 - 1 : Nat) : Int) ?_ ?_
   ·rw [run_max_int2]
    congr 2
    show (if (0 : Int) > (x.2.1 : Int) - 1 then 0 else (x.2.1 : Int) - 1) = ((x.2.1 - 1 : Nat) : Int)
    split <;> omega
   have hxc : x.2.1 ≤ x.2.2 := by
    rcases k52 with ⟨rfl, _⟩ | ⟨_, _, _, _, _, _, _, h, _⟩
    ·exact Nat.le_refl _
    ·exact h
   refine genQ_of (s := .slc) (if x.2.2 = 0 then x.1 else x.1.map (·.add (0 * 1)), (x.2.1 - 1) - 0, x.2.2 - 0) (run_slice_slc uSstr szStr .no (.yes rfl) (Nat.zero_le _) (by omega)) ?_
   refine stC_h rfl k42 (by simp) fun W3 hW3 => ?_
   have hx3 : Ext [H.size + 2] W2.heap W3.heap := by rw [hW3]; exact Ext.set _ (by simp)
   refine goOn (x' := (if x.2.2 = 0 then x.1 else x.1.map (·.add (0 * 1)), (x.2.1 - 1) - 0, x.2.2 - 0)) (hx3.mono (by simp)) (by rw [hW3]; exact set_new k42) ?_ hshort
   have hcut := (Mine.cut k52 (k := x.2.1 - 1) (by omega)).ext hx3 (fun b hb => by rw [ownM_cut] at hb; have := ownM_ge k52 b hb; simp only [List.mem_singleton]; omega)
   rw [strRow_take] at hcut
   have hw2 : walkP (pre ++ [y]) = (walkP pre).take (x.2.1 - 1) := by rw [walk_snoc, walkStep, if_neg (by simp [hy0, hy1]), if_pos h, List.dropLast_eq_take, ← hxl]
   rw [hw2]
   exact hcut
  ·refine ld_h (s := .slc) (t := x) rfl k42 rfl ?_
   refine genL_of (s := .slc) (some ⟨W2.heap.size, 0, none⟩, 1, 1) _ (build1_g Estr uSstr (v := .string (strOf y)) rfl (by omega) (by omega)) ?_
   have hxp : Ext [] W2.heap (W2.heap.push (.cells (Value.string (strOf y)).cells y_string)) := .push _
   refine append_g (n := 1) (us := [.string (strOf y)]) (H := W2.heap.push (.cells (Value.string (strOf y)).cells y_string)) Estr (by omega) uSstr (slice_noint uSstr) rfl (k52.ext hxp (by simp)) (by simp; omega)
    (Src.slc rfl (.inr ⟨W2.heap.size, 0, _, _, _, rfl, push_new, by simp [Value.cells], by simp [Value.cells]⟩) rfl) (by intro v hv; simp only [List.mem_singleton] at hv; subst hv; rfl) (by omega) ?_
   intro x' W4 hm4 hl4 hx4 _
   have hb4 : W4.heap[H.size + 2]? = some (.cells #[slcV x] y_S_string (0, 0)) := hx4.get (hxp.get k42 (by simp)) (fun h => by have := ownM_ge k52 _ h; omega)
   refine stC_h rfl hb4 (by simp) fun W5 hW5 => ?_
   have hx5 : Ext [H.size + 2] W4.heap W5.heap := by rw [hW5]; exact Ext.set _ (by simp)
   refine goOn (x' := x') (((hxp.mono (by simp)).trans (hx4.mono (fun b hb => List.mem_cons_of_mem _ hb))).trans (hx5.mono (by simp))) (by rw [hW5]; exact set_new hb4) ?_ hshort
   rw [walk_snoc, walkStep, if_neg (by simp [hy0, hy1]), if_neg hy2, ← strRow_append]
   exact hm4.ext hx5 (fun b hb => by have := ownM_ge hm4 b hb; simp only [List.mem_singleton]; omega)
 ·rintro xs W rfl ⟨x, k1, k2, k3, k4, k5, k6⟩ hD
  rw [if_neg (by simp [k6])] at hP
  have hxl : x.2.1 = (walkP (pieces L)).length := by have := k5.len; simp at this; omega
  refine ld_h (s := .slc) (t := x) rfl k4 rfl ?_
  have hne2 : ∀ {W' : World} {o : Obj} {b : Nat}, b ≠ w13.heap.size → W'.heap[b]? = some o → (W'.heap.setIfInBounds w13.heap.size (.deferred none))[b]? = some o := fun h ho => set_old ho h
  refine iteP_dec (fun hdeep => ?_) (fun hflat => ?_)
  ·refine setret (x := (none, 0, 0)) rfl k2 k3 (by omega) fun w4 hx4 h24 h34 hs4 => ?_
   refine ⟨hx4.get hD (by simp; omega), fun w5 hw5 => ?_⟩
   have hh5 : w5.heap = w4.heap.setIfInBounds w13.heap.size (.deferred none) := by rw [hw5, heap_putObj]
   refine ld_h (s := .slc) (t := (none, 0, 0)) rfl (by rw [hh5]; exact hne2 (by omega) h24) rfl ?_
   refine ld_h (s := .int .i64) (t := 42) rfl (by rw [hh5]; exact hne2 (by omega) h34) rfl ?_
   rw [if_pos (by omega)] at hP
   rw [hP]
   refine ⟨(none, 0, 0), rfl, .inl ⟨rfl, rfl⟩, ?_⟩
   rw [hh5]
   exact (k1.own hx4 (by intro b hb hlt; simp at hb; omega)).set_own (.inl (by omega))
  ·refine ld_h (s := .slc) (t := x) rfl k4 rfl ?_
   refine setret (x := x) rfl k2 k3 (by omega) fun w4 hx4 h24 h34 hs4 => ?_
   have hD4 := hx4.get hD (by simp; omega)
   refine ⟨hD4, fun w5 hw5 => ?_⟩
   have hh5 : w5.heap = w4.heap.setIfInBounds w13.heap.size (.deferred none) := by rw [hw5, heap_putObj]
   refine ld_h (s := .slc) (t := x) rfl (by rw [hh5]; exact hne2 (by omega) h24) rfl ?_
   refine ld_h (s := .int .i64) (t := 0) rfl (by rw [hh5]; exact hne2 (by omega) h34) rfl ?_
   rw [if_neg (by omega)] at hP
   rw [hP]
   refine ⟨x, rfl, ?_, ?_⟩
   ·have hm4 := k5.ext hx4 (fun b hb => by have := ownM_ge k5 b hb; simp; omega)
    have hB : Beside w13.heap.size w4 w5 := by rw [hw5]; exact .put (Nat.le_refl _) hD4 (by intro _ _ _ h; cases h)
    exact (hB.mine hm4).mono (by omega)
   ·rw [hh5]
    exact (k1.own hx4 (by intro b hb hlt; simp at hb; omega)).set_own (.inl (by omega))
 ·rintro W ⟨k1, k2, k3, k4⟩ hD
  refine ⟨hD, fun w5 hw5 => ?_⟩
  have hh5 : w5.heap = W.heap.setIfInBounds w13.heap.size (.deferred none) := by rw [hw5, heap_putObj]
  refine ld_h (s := .slc) (t := (none, 0, 0)) rfl (by rw [hh5]; exact set_old k2 (by omega)) rfl ?_
  refine ld_h (s := .int .i64) (t := 41) rfl (by rw [hh5]; exact set_old k3 (by omega)) rfl ?_
  rw [if_pos k4] at hP
  rw [hP]
  refine ⟨(none, 0, 0), rfl, .inl ⟨rfl, rfl⟩, ?_⟩
  rw [hh5]
  exact k1.set_own (.inl (by omega))
end Go.Proofs.YtbmegmbnlajbbaaGreatDoor
namespace Go.Proofs.YtbmegmbnlajbbaaGreatDoor
open Go Go.Fw Go.Proofs
def segs : List UInt8 → List (List UInt8)
 | [] => [[]]
 | c :: L => if c = 47 then [] :: segs L else match segs L with | [] => [[c]] | p :: ps => (c :: p) :: ps
def rem (L : List UInt8) (f : Nat) : Path := if f ≤ L.length then segs (L.drop f) else []
end Go.Proofs.YtbmegmbnlajbbaaGreatDoor
namespace Go.Proofs.YtbmegmbnlajbbaaGreatDoor
open Go Go.Fw Go.Proofs Go.Sort
theorem cmpP_eq : ∀ {p q : Path}, cmpP p q = 0 ↔ p = q
 | [], [] => by simp [cmpP]
 | [], _ :: _ => by simp [cmpP]
 | _ :: _, [] => by simp [cmpP]
 | x :: p, y :: q => by
  simp only [cmpP]
  by_cases h : Lib.compareBytes x y = 0
  ·rw [if_neg (fun e => e h), cmpP_eq, cmpB_eq.1 h]; simp
  ·rw [if_pos h]
   have : x ≠ y := fun e => h (cmpB_eq.2 e)
   simp [h, this]
theorem cmpP_neg : ∀ {p q : Path}, cmpP p q = - cmpP q p
 | [], [] => by simp [cmpP]
 | [], _ :: _ => by simp [cmpP]
 | _ :: _, [] => by simp [cmpP]
 | x :: p, y :: q => by
  simp only [cmpP]
  have hn := cmpB_neg (a := x) (b := y)
  by_cases h : Lib.compareBytes x y = 0
  ·rw [if_neg (fun e => e h), if_neg (fun e => e (by omega)), cmpP_neg]
  ·rw [if_pos h, if_pos (by omega), hn]
theorem cmpP_range : ∀ {p q : Path}, cmpP p q = -1 ∨ cmpP p q = 0 ∨ cmpP p q = 1
 | [], [] => by simp [cmpP]
 | [], _ :: _ => by simp [cmpP]
 | _ :: _, [] => by simp [cmpP]
 | x :: p, y :: q => by
  simp only [cmpP]
  split
  ·exact cmpB_range
  ·exact cmpP_range
theorem cmpP_trans : ∀ {p q r : Path}, cmpP p q < 0 → cmpP q r < 0 → cmpP p r < 0
 | [], [], _, h, _ => by simp [cmpP] at h
 | [], _ :: _, [], _, h => by simp [cmpP] at h
 | [], _ :: _, _ :: _, _, _ => by simp [cmpP]
 | _ :: _, [], _, h, _ => by simp [cmpP] at h
 | _ :: _, _ :: _, [], _, h => by simp [cmpP] at h
 | x :: p, y :: q, z :: r, h1, h2 => by
  simp only [cmpP] at h1 h2 ⊢
  by_cases hxy : Lib.compareBytes x y = 0
  ·rw [if_neg (fun e => e hxy)] at h1
   obtain rfl := cmpB_eq.1 hxy
   by_cases hyz : Lib.compareBytes x z = 0
   ·rw [if_neg (fun e => e hyz)] at h2 ⊢
    exact cmpP_trans h1 h2
   ·rw [if_pos hyz] at h2 ⊢
    exact h2
  ·rw [if_pos hxy] at h1
   by_cases hyz : Lib.compareBytes y z = 0
   ·obtain rfl := cmpB_eq.1 hyz
    rw [if_pos hxy]; exact h1
   ·rw [if_pos hyz] at h2
    have h3 := cmpB_lt.2 (List.lt_trans (cmpB_lt.1 h1) (cmpB_lt.1 h2))
    rw [if_pos (by omega)]; exact h3
theorem swo_cmpP {α : Type} (f : α → Path) : SWO (ltOf fun x y => cmpP (f x) (f y)) := by
 have h : ∀ x y, ltOf (fun x y => cmpP (f x) (f y)) x y = true ↔ cmpP (f x) (f y) < 0 := by
  intro x y; unfold ltOf; exact decide_eq_true_iff
 refine ⟨fun x => ?_, fun x y z h1 h2 => ?_, fun x y z h1 h2 => ?_⟩
 ·rw [← Bool.not_eq_true, h, cmpP_eq.2 rfl]; omega
 ·rw [h] at *; exact cmpP_trans h1 h2
 ·rw [← Bool.not_eq_true, h] at *
  intro h3
  have hxy := cmpP_range (p := f x) (q := f y)
  have hyz := cmpP_range (p := f y) (q := f z)
  have n1 := cmpP_neg (p := f x) (q := f y)
  have n2 := cmpP_neg (p := f y) (q := f z)
  rcases Int.lt_or_eq_of_le (show cmpP (f y) (f x) ≤ 0 by omega) with h4 | h4
  ·rcases Int.lt_or_eq_of_le (show cmpP (f z) (f y) ≤ 0 by omega) with h5 | h5
   ·have h6 := cmpP_trans h5 h4
    have n3 := cmpP_neg (p := f x) (q := f z)
    omega
   ·rw [cmpP_eq.1 h5] at h3; omega
  ·rw [cmpP_eq.1 h4] at h2; omega
theorem cmpP_drop : ∀ {i : Nat} {p q : Path}, p.take i = q.take i → i ≤ p.length → i ≤ q.length → cmpP p q = cmpP (p.drop i) (q.drop i)
 | 0, p, q, _, _, _ => by simp
 | i + 1, [], q, _, h, _ => by simp at h
 | i + 1, x :: p, [], _, _, h => by simp at h
 | i + 1, x :: p, y :: q, h, h1, h2 => by
  simp only [List.take_succ_cons, List.cons.injEq] at h
  obtain ⟨rfl, h⟩ := h
  simp only [cmpP, List.drop_succ_cons]
  rw [if_neg (fun e => e (cmpB_eq.2 rfl))]
  exact cmpP_drop h (by simpa using h1) (by simpa using h2)
theorem compare_c {w : World} {H : Heap} {a b : Option Addr} {n nc m mc : Nat} {p q : Path} (hw : w.heap = H) (hL : Cells H a (strRow p)) (hn : n = p.length) (hM : Cells H b (strRow q)) (hm : m = q.length) (hp : p.length ≤ 1099511627776) :
  CallF P F_vpath_Compare #[.slice a n nc, .slice b m mc] w fun e w' => e = .returned (.int .i64 (cmpP p q)) ∧ w' = w := by
 subst hn hm
 refine fn_vpath_Compare ?_
 unfold T_vpath_Compare
 have h : CallF P F_slices_CompareFunc_S_string_S_string_string_string #[.slice a p.length nc, .slice b q.length mc, .func (.func F_cmp_Compare_string) #[] #[]] w fun e w' => e = .returned (.int .i64 (cmpP p q)) ∧ w' = w := by
  refine fn_slices_CompareFunc_S_string_S_string_string_string ?_
  unfold T_slices_CompareFunc_S_string_S_string_string_string
  refine loopP_of (fun (s : Int) W => ∃ i : Nat, s = (i : Int) ∧ i ≤ p.length ∧ i ≤ q.length ∧ W = w ∧ p.take i = q.take i) (fun s _ => (p.length - s).toNat) ⟨0, rfl, Nat.zero_le _, Nat.zero_le _, rfl, by simp⟩ ?_
  rintro _ w ⟨i, rfl, hi, hj, rfl, hs⟩
  have hd := cmpP_drop hs hi hj
  refine iteP_dec (fun hlt => ?_) (fun hge => ?_)
  ·have hil : i < p.length := by omega
   refine strIx hw hL rfl hil rfl ?_
   refine iteP_dec (fun hge => ?_) (fun hlt2 => ?_)
   ·have : i = q.length := by omega
    rw [List.drop_eq_getElem_cons hil, List.drop_eq_nil_of_le (show q.length ≤ i by omega)] at hd
    exact ⟨by rw [hd]; rfl, rfl⟩
   ·have hjl : i < q.length := by omega
    refine strIx hw hM rfl hjl rfl ?_
    refine callV_func ((cmpstr_c _ _).mono ?_)
    rintro e w' ⟨rfl, rfl⟩
    refine ⟨_, rfl, ?_⟩
    rw [List.drop_eq_getElem_cons hil, List.drop_eq_getElem_cons hjl, cmpP] at hd
    refine iteP_ne (fun hne => ?_) (fun heq => ?_)
    ·rw [if_pos hne] at hd
     exact ⟨by rw [hd], rfl⟩
    ·refine addI_to ((i + 1 : Nat) : Int) (by omega) (by omega) (by omega) ?_
     exact ⟨⟨i + 1, rfl, by omega, by omega, rfl, same_take hil hjl hs (cmpB_eq.1 heq)⟩, by omega⟩
  ·have : i = p.length := by omega
   rw [List.drop_eq_nil_of_le (show p.length ≤ i by omega)] at hd
   refine iteP_dec (fun h => ?_) (fun h => ?_)
   ·rw [List.drop_eq_getElem_cons (show i < q.length by omega)] at hd
    exact ⟨by rw [hd]; rfl, rfl⟩
   ·rw [List.drop_eq_nil_of_le (show q.length ≤ i by omega)] at hd
    exact ⟨by rw [hd]; rfl, rfl⟩
 refine callF_of h ?_
 rintro e w' ⟨rfl, rfl⟩
 exact ⟨_, rfl, rfl, rfl⟩
end Go.Proofs.YtbmegmbnlajbbaaGreatDoor
namespace Go.Proofs.YtbmegmbnlajbbaaGreatDoor
open Go Go.Fw Go.Proofs Go.Sort
theorem plain47 : plainB 47 = false := by decide
theorem nameOk_iff {L : List UInt8} : nameOk L = true ↔ (L ≠ [] ∧ L.length ≤ 16 ∧ L ≠ [46] ∧ L ≠ [46, 46]) ∧ ∀ b ∈ L, plainB b = true := by
 unfold nameOk
 rw [Bool.and_eq_true, decide_eq_true_iff, List.all_eq_true]
theorem nameOk_no47 {L : List UInt8} (h : nameOk L = true) : (47 : UInt8) ∉ L := by
 intro hm
 have := (nameOk_iff.1 h).2 47 hm
 rw [plain47] at this; cases this
def okP (p : Path) : Prop := (∀ L ∈ p, nameOk L = true) ∧ p.length ≤ 8
theorem check_ok {p : Path} : checkP p = 0 ↔ okP p := by
 unfold checkP okP
 by_cases h : p.all nameOk = true
 ·rw [if_pos h]
  rw [List.all_eq_true] at h
  by_cases h2 : 8 < p.length
  ·rw [if_pos h2]
   constructor
   ·intro h3; omega
   ·intro h3; omega
  ·rw [if_neg h2]
   exact ⟨fun _ => ⟨h, by omega⟩, fun _ => rfl⟩
 ·rw [if_neg h]
  rw [List.all_eq_true] at h
  constructor
  ·intro h3; omega
  ·intro h3; exact absurd h3.1 h
theorem okP.take {p : Path} (h : okP p) (i : Nat) : okP (p.take i) := ⟨fun L hL => h.1 L (List.mem_of_mem_take hL), by have := h.2; simp; omega⟩
theorem okP.tlen {p : Path} (h : okP p) : tlen p ≤ 16 * p.length := by
 obtain ⟨h, h8⟩ := h
 clear h8
 induction p with
 | nil => simp [Go.Proofs.YtbmegmbnlajbbaaGreatDoor.tlen]
 | cons x p ih =>
  have h1 := (nameOk_iff.1 (h x (by simp))).1.2.1
  have h2 := ih fun L hL => h L (by simp [hL])
  simp only [Go.Proofs.YtbmegmbnlajbbaaGreatDoor.tlen, List.map_cons, List.sum_cons, List.length_cons] at h2 ⊢
  omega
theorem okP.small {p : Path} (h : okP p) : Go.Proofs.YtbmegmbnlajbbaaGreatDoor.tlen p + p.length ≤ 136 := by have := h.tlen; have := h.2; omega
theorem pieces_join : ∀ {p : Path}, p ≠ [] → (∀ L ∈ p, nameOk L = true) → pieces (joinP p) = p
 | [], h, _ => absurd rfl h
 | [x], _, h => by
  have hx := h x (by simp)
  have : joinP [x] = x := by simp [joinP]
  rw [this, pieces_last (nameOk_no47 hx) (nameOk_iff.1 hx).1.1]
 | x :: y :: p, _, h => by
  have hx := h x (by simp)
  have e : joinP (x :: y :: p) = x ++ 47 :: joinP (y :: p) := by simp [joinP]
  rw [e, pieces_sep (nameOk_no47 hx), pieces_join (by simp) fun L hL => h L (List.mem_cons_of_mem _ hL)]
theorem walk_names : ∀ {p acc : Path}, (∀ L ∈ p, nameOk L = true) → p.foldl walkStep acc = acc ++ p
 | [], acc, _ => by simp
 | x :: p, acc, h => by
  obtain ⟨⟨h1, h2, h3, h4⟩, _⟩ := nameOk_iff.1 (h x (by simp))
  rw [List.foldl_cons]
  have e : walkStep acc x = acc ++ [x] := by rw [walkStep, if_neg (by simp [h1, h3]), if_neg h4]
  rw [e, walk_names fun L hL => h L (List.mem_cons_of_mem _ hL)]; simp
theorem join_bytes : ∀ {p : Path}, ∀ b ∈ joinP p, b = 47 ∨ ∃ L ∈ p, b ∈ L
 | [], b, h => by simp [joinP] at h
 | x :: p, b, h => by
  simp only [joinP, List.mem_append, List.mem_flatMap, List.mem_cons] at h
  rcases h with h | ⟨L, hL, h | h⟩
  ·exact .inr ⟨x, by simp, h⟩
  ·exact .inl h
  ·exact .inr ⟨L, by simp [hL], h⟩
theorem parse_show {p : Path} (h : okP p) : parseP (showP p) = (p, 0) := by
 have hlen : (showP p).length ≤ 137 := by
  have h1 := h.small
  unfold showP
  cases p with
  | nil => simp [joinP]
  | cons x p =>
   simp only [List.length_cons, tlen_join]
   simp only [List.length_cons] at h1
   omega
 have hok : okText (showP p) = true := by
  unfold okText showP
  rw [List.all_eq_true]
  intro b hb
  rcases List.mem_cons.1 hb with rfl | hb
  ·simp
  ·rcases join_bytes b hb with rfl | ⟨L, hL, hm⟩
   ·simp
   ·rw [(nameOk_iff.1 (h.1 L hL)).2 b hm]; simp
 have hpc : pieces (showP p) = [] :: p := by
  unfold showP
  have h0 : pieces (47 :: joinP p) = [] :: pieces (joinP p) := pieces_sep (p := []) (by simp)
  rw [h0]
  by_cases hp : p = []
  ·subst hp; rfl
  ·rw [pieces_join hp h.1]
 have hwalk : walkP (pieces (showP p)) = p := by
  rw [hpc]
  show (p.foldl walkStep (walkStep [] [])) = p
  rw [walk_names h.1]; simp [walkStep]
 have hany : (pieces (showP p)).any (fun x => decide (16 < x.length)) = false := by
  rw [hpc, List.any_eq_false]
  intro x hx
  rcases List.mem_cons.1 hx with rfl | hx
  ·simp
  ·have := (nameOk_iff.1 (h.1 x hx)).1.2.1
   simp; omega
 have h8 := h.2
 unfold parseP
 rw [if_neg (by omega), if_neg (by simp [showP]), if_neg (by simp [hok]), hany, hwalk, if_neg (by simp), if_neg (by omega)]
theorem show_inj {p q : Path} (hp : okP p) (hq : okP q) (h : showP p = showP q) : p = q := by
 have := parse_show hp
 rw [h, parse_show hq] at this
 simpa using this.symm
theorem pieces_mem : ∀ {L x : List UInt8}, x ∈ pieces L → (47 : UInt8) ∉ x ∧ ∀ b ∈ x, b ∈ L
 | [], x, h => by simp [pieces] at h
 | c :: L, x, h => by
  rw [pieces] at h
  by_cases hc : c = 47
  ·rw [if_pos hc] at h
   rcases List.mem_cons.1 h with rfl | h
   ·simp
   ·have := pieces_mem h
    exact ⟨this.1, fun b hb => List.mem_cons_of_mem _ (this.2 b hb)⟩
  ·rw [if_neg hc] at h
   cases hps : pieces L with
   | nil =>
    rw [hps] at h
    simp only [List.mem_singleton] at h
    subst h
    exact ⟨by simp [Ne.symm hc], by simp⟩
   | cons p ps =>
    rw [hps] at h
    have hp := pieces_mem (L := L) (x := p) (by rw [hps]; simp)
    simp only at h
    split at h
    ·rcases List.mem_cons.1 h with rfl | h
     ·exact ⟨by simp [Ne.symm hc], by simp⟩
     ·have := pieces_mem (L := L) (x := x) (by rw [hps]; simp [h])
      exact ⟨this.1, fun b hb => List.mem_cons_of_mem _ (this.2 b hb)⟩
    ·rcases List.mem_cons.1 h with rfl | h
     ·refine ⟨by simp [Ne.symm hc, hp.1], fun b hb => ?_⟩
      rcases List.mem_cons.1 hb with rfl | hb
      ·simp
      ·exact List.mem_cons_of_mem _ (hp.2 b hb)
     ·have := pieces_mem (L := L) (x := x) (by rw [hps]; simp [h])
      exact ⟨this.1, fun b hb => List.mem_cons_of_mem _ (this.2 b hb)⟩
theorem walk_mem : ∀ {ps acc : Path} {x : List UInt8}, x ∈ ps.foldl walkStep acc → x ∈ acc ∨ (x ∈ ps ∧ x ≠ [] ∧ x ≠ [46] ∧ x ≠ [46, 46])
 | [], acc, x, h => .inl h
 | y :: ps, acc, x, h => by
  rw [List.foldl_cons] at h
  rcases walk_mem h with h | ⟨h1, h2⟩
  ·unfold walkStep at h
   split at h
   ·exact .inl h
   ·rename_i h1
    split at h
    ·exact .inl ((List.dropLast_sublist acc).subset h)
    ·rename_i h2
     rcases List.mem_append.1 h with h | h
     ·exact .inl h
     ·simp only [List.mem_singleton] at h
      subst h
      simp only [not_or] at h1
      exact .inr ⟨by simp, h1.1, h1.2, h2⟩
  ·exact .inr ⟨List.mem_cons_of_mem _ h1, h2⟩
theorem parse_ok (L : List UInt8) : okP (parseP L).1 := by
 have nil : okP [] := ⟨by simp, by simp⟩
 unfold parseP
 split
 ·exact nil
 split
 ·exact nil
 split
 ·exact nil
 rename_i hok
 split
 ·exact nil
 rename_i hany
 split
 ·exact nil
 rename_i hdeep
 refine ⟨fun x hx => ?_, by simp only; omega⟩
 rcases walk_mem hx with h | ⟨h1, h2, h3, h4⟩
 ·cases h
 ·have hm := pieces_mem h1
  rw [nameOk_iff]
  refine ⟨⟨h2, ?_, h3, h4⟩, fun b hb => ?_⟩
  ·simp only [Bool.not_eq_true, List.any_eq_false] at hany
   have := hany x h1
   simp at this; omega
  ·have hb2 := hm.2 b hb
   simp only [Bool.not_eq_false] at hok
   have h5 := List.all_eq_true.1 hok b hb2
   have h6 : b ≠ 47 := fun e => hm.1 (by rw [← e]; exact hb)
   simpa [h6] using h5
end Go.Proofs.YtbmegmbnlajbbaaGreatDoor
namespace Go.Proofs.YtbmegmbnlajbbaaGreatDoor
open Go Go.Fw Go.Proofs
def numB (n : Nat) : List UInt8 := if h : n ≤ 127 then [UInt8.ofNat n] else UInt8.ofNat (n % 128 + 128) :: numB (n / 128)
termination_by n
decreasing_by omega
theorem numB_low {n : Nat} (h : n ≤ 127) : numB n = [UInt8.ofNat n] := by rw [numB, dif_pos h]
theorem numB_high {n : Nat} (h : 127 < n) : numB n = UInt8.ofNat (n % 128 + 128) :: numB (n / 128) := by rw [numB, dif_neg (by omega)]
def textB (L : List UInt8) : List UInt8 := numB L.length ++ L
def OutX (H1 : Heap) (F : List Nat) (b : Nat) (L : List UInt8) (W : World) (x : Option Addr × Nat × Nat) : Prop := Ext (b :: F) H1 W.heap ∧ W.heap[b]? = some (.cells #[slcV x] y_wire_Out (0, 0)) ∧ Mine W.heap 0 y_uint8 1 x (byteCells L) ∧ b ∉ ownM x ∧ (∀ c ∈ ownM x, c ∈ F ∨ H1.size ≤ c) ∧ b < H1.size
def OutW (H1 : Heap) (F : List Nat) (b : Nat) (L : List UInt8) (W : World) : Prop := ∃ x, OutX H1 F b L W x
theorem or128 (x : BitVec 8) : (x ||| 128#8).toNat = x.toNat % 128 + 128 := by
 revert x; decide
theorem or8 {n : Nat} {K : Int → Prop} (h : K ((n % 128 + 128 : Nat) : Int)) : orI .u8 ((n % 256 : Nat) : Int) 128 K := by
 refine ⟨_, ?_, h⟩
 have e1 : BitVec.ofInt 8 ((n % 256 : Nat) : Int) = BitVec.ofNat 8 n := by
  apply BitVec.eq_of_toNat_eq
  simp [BitVec.toNat_ofInt]
  omega
 show _ = IntKind.u8.wrap ((BitVec.ofInt 8 ((n % 256 : Nat) : Int) ||| BitVec.ofInt 8 128).toNat : Int)
 rw [e1]
 have e2 := or128 (BitVec.ofNat 8 n)
 have e3 : BitVec.ofInt 8 128 = 128#8 := by decide
 rw [e3, e2, wrap8_nat]
 simp only [BitVec.toNat_ofNat]
 omega
theorem putB {w : World} {H1 : Heap} {F : List Nat} {b : Nat} {L : List UInt8} {x : Option Addr × Nat × Nat} {m : Nat} {K : World → Prop} (hO : OutX H1 F b L w x) (hm : m < 256) (hL : L.length ≤ 1099511627776) (hK : ∀ w', OutW H1 F b (L ++ [UInt8.ofNat m]) w' → K w') :
  genL P (Instr.buildSlice y_S_uint8 1 #[(0, (Value.int .u8 (m : Int)))]) .slc w fun (t18 : (Option Addr × Nat × Nat)) w_2 =>
  genL P (Builtin.append_ #[y_S_uint8, y_S_uint8] y_S_uint8 #[(Value.slice x.1 x.2.1 x.2.2), (Value.slice t18.1 t18.2.1 t18.2.2)]) .slc w_2 fun (t19 : (Option Addr × Nat × Nat)) w_3 =>
  withAddr (some ⟨b, 0, none⟩) fun p_1 =>
  stC p_1 (Value.slice t19.1 t19.2.1 t19.2.2) w_3 K := by
 obtain ⟨h1, h2, h3, h4, h5, h6⟩ := hO
 have hxl : x.2.1 = L.length := by have := h3.len; simp at this; omega
 refine genL_of (s := .slc) (some ⟨w.heap.size, 0, none⟩, 1, 1) _ (build1_g E8 uS8 (v := .int .u8 (m : Int)) rfl (by omega) (by omega)) ?_
 have hxp : Ext [] w.heap (w.heap.push (.cells (Value.int .u8 (m : Int)).cells y_uint8)) := .push _
 have hbl := lt_of_get h2
 refine append_g (n := 1) (us := byteCells [UInt8.ofNat m]) (H := w.heap.push (.cells (Value.int .u8 (m : Int)).cells y_uint8)) E8 (by omega) uS8 (slice_noint uS8) rfl (h3.ext hxp (by simp)) (Nat.zero_le _)
  (Src.slc rfl (.inr ⟨w.heap.size, 0, _, _, _, rfl, push_new, by simp [Value.cells], by simp [Value.cells, byteCells]; omega⟩) rfl) one_byteCells (by omega) ?_
 intro x' w4 hm4 hl4 hx4 hs4
 have hb4 : w4.heap[b]? = some (.cells #[slcV x] y_wire_Out (0, 0)) := hx4.get (hxp.get h2 (by simp)) h4
 show stC ⟨b, 0, none⟩ (slcV x') w4 K
 refine stC_h rfl hb4 (by simp) fun w5 hw5 => hK w5 ?_
 have hx5 : Ext [b] w4.heap w5.heap := by rw [hw5]; exact Ext.set _ (by simp)
 have hs1 := h1.1
 have hp1 := hxp.1
 have hbx : b ∉ ownM x' := fun h => by
  rcases hs4 b h with h | h
  ·exact h4 h
  ·have := hp1; omega
 refine ⟨x', ?_, by rw [hw5]; exact set_new hb4, ?_, hbx, fun c hc => ?_, h6⟩
 ·have h14 : Ext (b :: F) H1 w4.heap := (h1.trans (hxp.mono (by simp))).own hx4 (fun c hc hlt => by
   rcases h5 c hc with h | h
   ·exact List.mem_cons_of_mem _ h
   ·omega)
  exact h14.trans (hx5.mono (by simp))
 ·rw [← byteCells_append]
  exact hm4.ext hx5 (fun c hc => by simp only [List.mem_singleton]; rintro rfl; exact hbx hc)
 ·rcases hs4 c hc with h | h
  ·exact h5 c h
  ·exact .inr (by omega)
theorem numB_len : ∀ (m n : Nat), n < 128 ^ (m + 1) → (numB n).length ≤ m + 1
 | 0, n, h => by rw [numB_low (by simp at h; omega)]; simp
 | m + 1, n, h => by
  by_cases hl : n ≤ 127
  ·rw [numB_low hl]; simp
  ·rw [numB_high (by omega), List.length_cons]
   have := numB_len m (n / 128) (by rw [Nat.pow_succ] at h; omega)
   omega
theorem numB_len64 {n : Nat} (h : n < 18446744073709551616) : (numB n).length ≤ 10 := numB_len 9 n (Nat.lt_of_lt_of_le h (by decide))
theorem shr7 {k : Nat} {K : Int → Prop} (h : K ((k / 128 : Nat) : Int)) : shrI .u64 (k : Int) 7 K := by
 refine ⟨by omega, _, ?_, h⟩
 have e : (2 : Int) ^ (min (Int.toNat 7) IntKind.u64.bits) = 128 := by decide
 rw [e, Int.fdiv_eq_ediv_of_nonneg _ (by omega)]
 omega
theorem num_c {w : World} {H1 : Heap} {F : List Nat} {b : Nat} {L : List UInt8} (n : Nat) (hO : OutW H1 F b L w) (hn : n < 18446744073709551616) (hL : L.length ≤ 549755813888) :
  CallF P F_wire_Out_Num #[.pointer (some ⟨b, 0, none⟩), .int .u64 (n : Int)] w fun e w' => e = .returned (.tuple #[]) ∧ OutW H1 F b (L ++ numB n) w' := by
 have hnl := numB_len64 hn
 refine fn_wire_Out_Num ?_
 unfold T_wire_Out_Num
 refine iteP_f rfl ?_
 refine loopP_of (fun (s : Int) W => ∃ (k : Nat) (M : List UInt8), s = (k : Int) ∧ OutW H1 F b M W ∧ M ++ numB k = L ++ numB n) (fun s _ => s.toNat) ⟨n, L, rfl, hO, rfl⟩ ?_
 rintro _ W ⟨k, M, rfl, ⟨x, hX⟩, hM⟩
 have hMl : M.length ≤ 1099511627776 := by have := congrArg List.length hM; simp at this; omega
 refine iteP_dec (fun h => ?_) (fun h => ?_)
 ·simp only [withAddr_some]
  refine ld_h (s := .slc) (t := x) rfl hX.2.1 rfl ?_
  refine ⟨_, (wrap8_nat k).symm, or8 ?_⟩
  refine putB hX (by omega) hMl fun w' hO' => shr7 ?_
  exact ⟨⟨k / 128, _, rfl, hO', by rw [← hM, numB_high (n := k) (by omega)]; simp⟩, by omega⟩
 ·simp only [withAddr_some]
  refine ld_h (s := .slc) (t := x) rfl hX.2.1 rfl ?_
  refine ⟨_, (wrap8_nat k).symm, ?_⟩
  refine putB hX (by omega) hMl fun w' hO' => ?_
  rw [Nat.mod_eq_of_lt (by omega), show M ++ [UInt8.ofNat k] = L ++ numB n by rw [← hM, numB_low (by omega)]] at hO'
  exact ⟨trivial, hO'⟩
theorem text_c {w : World} {H1 : Heap} {F : List Nat} {b : Nat} {L : List UInt8} (M : List UInt8) (hO : OutW H1 F b L w) (hL : L.length + M.length ≤ 274877906944) :
  CallF P F_wire_Out_Text #[.pointer (some ⟨b, 0, none⟩), .string (strOf M)] w fun e w' => e = .returned (.tuple #[]) ∧ OutW H1 F b (L ++ textB M) w' := by
 refine fn_wire_Out_Text ?_
 unfold T_wire_Out_Text
 refine iteP_f rfl ?_
 have hnl := numB_len64 (n := M.length) (by omega)
 refine cvI_u64 (by omega) (by simp; omega) ?_
 refine callF_of (num_c M.length hO (by omega) (by omega)) ?_
 rintro e w1 ⟨rfl, x, hX⟩
 refine ⟨(), rfl, ?_⟩
 obtain ⟨h1, h2, h3, h4, h5, h6⟩ := hX
 have hxl : x.2.1 = (L ++ numB M.length).length := by have := h3.len; simp at this; simp; omega
 rw [List.length_append] at hxl
 simp only [withAddr_some]
 refine ld_h (s := .slc) (t := x) rfl h2 rfl ?_
 refine append_g E8 (by omega) uS8 ⟨_, uStr, by intro k h; cases h⟩ rfl h3 (Nat.zero_le _) (n := M.length) (us := byteCells M) Src.str one_byteCells (by omega) ?_
 intro x' w4 hm4 hl4 hx4 hs4
 have hb4 : w4.heap[b]? = some (.cells #[slcV x] y_wire_Out (0, 0)) := hx4.get h2 h4
 refine stC_h rfl hb4 (by simp) fun w5 hw5 => ?_
 have hx5 : Ext [b] w4.heap w5.heap := by rw [hw5]; exact Ext.set _ (by simp)
 have hs1 := h1.1
 have hbl := lt_of_get h2
 have hbx : b ∉ ownM x' := fun h => by
  rcases hs4 b h with h | h
  ·exact h4 h
  ·omega
 refine ⟨trivial, x', ?_, by rw [hw5]; exact set_new hb4, ?_, hbx, fun c hc => ?_, h6⟩
 ·have h14 : Ext (b :: F) H1 w4.heap := h1.own hx4 (fun c hc hlt => by
   rcases h5 c hc with h | h
   ·exact List.mem_cons_of_mem _ h
   ·omega)
  exact h14.trans (hx5.mono (by simp))
 ·rw [textB, ← List.append_assoc, ← byteCells_append]
  exact hm4.ext hx5 (fun c hc => by simp only [List.mem_singleton]; rintro rfl; exact hbx hc)
 ·rcases hs4 c hc with h | h
  ·exact h5 c h
  ·exact .inr (by omega)
theorem bytes_c {w : World} {H1 : Heap} {F : List Nat} {b : Nat} {L : List UInt8} (hO : OutW H1 F b L w) (hL : L.length ≤ 549755813888) :
  CallF P F_wire_Out_Bytes #[.pointer (some ⟨b, 0, none⟩)] w fun e w' => ∃ y, e = .returned (slcV y) ∧ Mine w'.heap w.heap.size y_uint8 1 y (byteCells L) ∧ Ext [] w.heap w'.heap := by
 obtain ⟨x, h1, h2, h3, h4, h5, h6⟩ := hO
 have hxl : x.2.1 = L.length := by have := h3.len; simp at this; omega
 refine fn_wire_Out_Bytes ?_
 unfold T_wire_Out_Bytes
 refine iteP_f rfl ?_
 simp only [withAddr_some]
 refine ld_h (s := .slc) (t := x) rfl h2 rfl ?_
 refine append_g (x := (none, 0, 0)) (vs := []) (B := w.heap.size) E8 (by omega) uS8 (slice_noint uS8) rfl (.inl ⟨rfl, rfl⟩) (Nat.le_refl _) (Src.slc rfl h3.cells (by simp; omega)) one_byteCells (by simp only; omega) ?_
 intro y w' hm hl hx hs
 exact ⟨y, rfl, by simpa using hm, hx.mono (by simp [ownM])⟩
def uintB (k : Int) : List UInt8 := numB (IntKind.u64.wrap k).toNat
theorem wrap64_lt (k : Int) : 0 ≤ IntKind.u64.wrap k ∧ IntKind.u64.wrap k < 18446744073709551616 := by
 simp only [IntKind.wrap, IntKind.bits, IntKind.signed]
 have e : (2 : Int) ^ 64 = 18446744073709551616 := by decide
 simp only [e, Bool.false_and, Bool.false_eq_true, if_false]
 omega
theorem cvU {k : Int} {K : Int → Prop} (h : ∀ n : Nat, n = (IntKind.u64.wrap k).toNat → n < 18446744073709551616 → K (n : Int)) : cvI .u64 k K := by
 have hw := wrap64_lt k
 refine ⟨((IntKind.u64.wrap k).toNat : Int), by omega, h _ rfl (by omega)⟩
theorem uintB_len {k : Int} : (uintB k).length ≤ 10 := numB_len64 (by have := wrap64_lt k; omega)
theorem zcO : zc P y_wire_Out = #[slcV (none, 0, 0)] := by kernel_rfl
theorem OutW.rebase {H1 : Heap} {F : List Nat} {b : Nat} {L : List UInt8} {w w' : World} (h : OutW H1 F b L w) (hx : Ext [] w.heap w'.heap) : ∃ F', OutW w'.heap F' b L w' ∧ (∀ c ∈ F', c ∈ F ∨ H1.size ≤ c) ∧ ∀ c ∈ F', c < w.heap.size := by
 obtain ⟨x, h1, h2, h3, h4, h5, h6⟩ := h
 have := hx.1
 have := lt_of_get h2
 refine ⟨ownM x, ⟨x, .refl _ _, hx.get h2 (by simp), h3.ext hx (by simp), h4, fun c hc => .inl hc, by omega⟩, h5, fun c hc => ?_⟩
 rcases h3 with ⟨hx1, _⟩ | ⟨b', c', hx1, _, hb', _⟩
 ·simp [ownM, hx1] at hc
 ·simp [ownM, hx1] at hc
  subst hc
  exact lt_of_get hb'
theorem OutW.unbase {H1 : Heap} {F F' : List Nat} {b : Nat} {L L' : List UInt8} {w w1 w' : World} (h : OutW H1 F b L w) (hx : Ext [] w.heap w1.heap) (hF : ∀ c ∈ F', c ∈ F ∨ H1.size ≤ c) (h' : OutW w1.heap F' b L' w') : OutW H1 F b L' w' := by
 obtain ⟨x, h1, h2, h3, h4, h5, h6⟩ := h
 obtain ⟨y, g1, g2, g3, g4, g5, g6⟩ := h'
 have s1 := h1.1
 have s2 := hx.1
 refine ⟨y, (h1.trans (hx.mono (by simp))).own g1 (fun c hc hlt => ?_), g2, g3, g4, fun c hc => ?_, h6⟩
 ·rcases List.mem_cons.1 hc with rfl | hc
  ·simp
  ·rcases hF c hc with h | h
   ·exact List.mem_cons_of_mem _ h
   ·omega
 ·rcases g5 c hc with h | h
  ·exact hF c h
  ·exact .inr (by omega)
theorem OutW.ext {H1 : Heap} {F : List Nat} {b : Nat} {L : List UInt8} {w w' : World} (h : OutW H1 F b L w) (hx : Ext [] w.heap w'.heap) : OutW H1 F b L w' := by
 obtain ⟨x, h1, h2, h3, h4, h5, h6⟩ := h
 exact ⟨x, h1.trans (hx.mono (by simp)), hx.get h2 (by simp), h3.ext hx (by simp), h4, h5, h6⟩
end Go.Proofs.YtbmegmbnlajbbaaGreatDoor
namespace Go.Proofs.YtbmegmbnlajbbaaGreatDoor
open Go Go.Fw Go.Proofs Go.Sort
def rdN : Nat → Nat → List UInt8 → Option (Nat × List UInt8)
 | _, _, [] => none
 | at', acc, c :: R => if (at' = 9 ∧ 1 < c.toNat) ∨ (0 < at' ∧ c.toNat = 0) then none else
  if c.toNat < 128 then some (acc + c.toNat * 128 ^ at', R) else rdN (at' + 1) (acc + (c.toNat % 128) * 128 ^ at') R
def rdNum (R : List UInt8) : Option (Nat × List UInt8) := rdN 0 0 R
theorem rdN_back : ∀ (R0 : List UInt8) (e acc n : Nat) (R : List UInt8), e ≤ 9 → rdN e acc R0 = some (n, R) → ∃ m, R0 = numB m ++ R ∧ n = acc + m * 128 ^ e ∧ m < 2 ^ (64 - 7 * e) ∧ (0 < e → 0 < m)
 | [], e, acc, n, R, he, h => by simp [rdN] at h
 | c :: R0, e, acc, n, R, he, h => by
  simp only [rdN] at h
  have hc := c.toNat_lt
  split at h
  ·cases h
  ·rename_i hbad
   split at h
   ·rename_i hlt
    simp only [Option.some.injEq, Prod.mk.injEq] at h
    obtain ⟨rfl, rfl⟩ := h
    refine ⟨c.toNat, ?_, rfl, ?_, fun h => by omega⟩
    ·rw [numB_low (by omega)]; simp
    ·by_cases h9 : e = 9
     ·subst h9; simp; omega
     ·have : 2 ^ 8 ≤ 2 ^ (64 - 7 * e) := Nat.pow_le_pow_right (by omega) (by omega)
      omega
   ·rename_i hge
    have h9 : e < 9 := by omega
    obtain ⟨m, e1, e2, e3, e4⟩ := rdN_back R0 (e + 1) _ n R (by omega) h
    have hm := e4 (by omega)
    refine ⟨c.toNat % 128 + 128 * m, ?_, ?_, ?_, fun _ => by omega⟩
    ·rw [numB_high (by omega), show (c.toNat % 128 + 128 * m) % 128 + 128 = c.toNat by omega, show (c.toNat % 128 + 128 * m) / 128 = m by omega, e1]
     simp
    ·rw [e2, Nat.pow_succ, Nat.add_mul]
     generalize 128 ^ e = q
     rw [Nat.mul_comm q 128, ← Nat.mul_assoc, Nat.mul_comm m 128]
     omega
    ·have e5 : 2 ^ (64 - 7 * e) = 2 ^ (64 - 7 * (e + 1)) * 128 := by
      rw [show 64 - 7 * e = (64 - 7 * (e + 1)) + 7 by omega, Nat.pow_add]
     omega
theorem rdNum_back {R0 R : List UInt8} {n : Nat} (h : rdNum R0 = some (n, R)) : R0 = numB n ++ R ∧ n < 18446744073709551616 := by
 obtain ⟨m, h1, h2, h3, _⟩ := rdN_back R0 0 0 n R (by omega) h
 simp at h2
 subst h2
 exact ⟨h1, by simpa using h3⟩
def rdText (most : Nat) (R : List UInt8) : Option (List UInt8 × List UInt8) :=
 match rdNum R with
 | none => none
 | some (n, R) => if most < n ∨ R.length < n then none else some (R.take n, R.drop n)
end Go.Proofs.YtbmegmbnlajbbaaGreatDoor
namespace Go.Proofs.YtbmegmbnlajbbaaGreatDoor
open Go Go.Fw Go.Proofs
abbrev Rest := Option (List UInt8)
def InW (H : Heap) (b : Nat) (F : List Nat) (s : Rest) : Prop := ∃ (x : Option Addr × Nat × Nat) (e : Int), H[b]? = some (.cells #[slcV x, .int .i64 e] y_wire_In (0, 0)) ∧ b ∉ F ∧ (∀ c ∈ ownM x, c ∈ F) ∧
 (match s with | some R => e = 0 ∧ Cells H x.1 (byteCells R) ∧ x.2.1 = R.length ∧ x.2.1 ≤ x.2.2 ∧ R.length ≤ 9223372036854775807 | none => e ≠ 0)
theorem own_cells {H H' : Heap} {M F : List Nat} {x : Option Addr × Nat × Nat} {vs : List Value} (h : Cells H x.1 vs) (hx : Ext M H H') (hF : ∀ c ∈ ownM x, c ∈ F) (hM : ∀ c ∈ F, c ∉ M) : Cells H' x.1 vs :=
 h.ext hx fun a ha _ => hM _ (hF _ (by simp [ownM, ha]))
theorem InW.ext {H H' : Heap} {b : Nat} {F M : List Nat} {s : Rest} (h : InW H b F s) (hx : Ext M H H') (hb : b ∉ M) (hF : ∀ c ∈ F, c ∉ M) : InW H' b F s := by
 obtain ⟨x, e, h1, h2, h3, h4⟩ := h
 refine ⟨x, e, hx.get h1 hb, h2, h3, ?_⟩
 cases s with
 | none => exact h4
 | some R => exact ⟨h4.1, own_cells h4.2.1 hx h3 hF, h4.2.2⟩
theorem InW.lt {H : Heap} {b : Nat} {F : List Nat} {s : Rest} (h : InW H b F s) : b < H.size := by obtain ⟨x, e, h1, _⟩ := h; exact lt_of_get h1
theorem infail_c {w : World} {H : Heap} {b : Nat} {F : List Nat} {s : Rest} (code : Int) (hw : w.heap = H) (hI : InW H b F s) (hc : code ≠ 0) :
  CallF P F_wire_In_fail #[.pointer (some ⟨b, 0, none⟩), .int .i64 code] w fun e w' => e = .returned (.tuple #[]) ∧ InW w'.heap b F none ∧ Ext [b] H w'.heap := by
 obtain ⟨x, e, h1, h2, h3, _⟩ := hI
 refine fn_wire_In_fail ?_
 unfold T_wire_In_fail
 simp only [withAddr_some, add_none]
 refine stC_h hw h1 (by simp) fun w1 hw1 => ?_
 have hx1 : Ext [b] H w1.heap := by rw [hw1]; exact Ext.set _ (by simp)
 have hb1 : w1.heap[b]? = some (.cells #[slcV (none, 0, 0), .int .i64 e] y_wire_In (0, 0)) := by rw [hw1]; exact set_new h1
 refine stC_h rfl hb1 (by simp) fun w2 hw2 => ?_
 exact ⟨trivial, ⟨(none, 0, 0), code, by rw [hw2]; exact set_new hb1, h2, by simp [ownM], hc⟩, by rw [hw2]; exact hx1.set_own (.inr (by simp))⟩
def cutX (x : Option Addr × Nat × Nat) (k : Nat) : Option Addr × Nat × Nat := (if x.2.2 = k then x.1 else x.1.map (·.add (k * 1)), x.2.1 - k, x.2.2 - k)
theorem own_cutX {x : Option Addr × Nat × Nat} {k : Nat} : ∀ c ∈ ownM (cutX x k), c ∈ ownM x := by
 obtain ⟨a, n, m⟩ := x
 intro c hc
 unfold cutX at hc
 simp only at hc
 split at hc
 ·exact hc
 ·cases a with
  | none => simp [ownM] at hc
  | some a =>
   have : (a.add k).block = a.block := by unfold Addr.add; split <;> rfl
   simpa [ownM, this] using hc
theorem cells_cutX {H : Heap} {x : Option Addr × Nat × Nat} {R : List UInt8} (h : Cells H x.1 (byteCells R)) (k : Nat) (hl : R.length ≤ x.2.2) : Cells H (cutX x k).1 (byteCells (R.drop k)) := by
 have := Cells.drop h k x.2.2 (by simpa using hl)
 rw [byteCells_drop] at this
 simpa only [cutX, Nat.mul_one] using this
def nx : Rest → (Int × Bool) × Rest
 | some (c :: R) => (((c.toNat : Int), true), some R)
 | _ => ((0, false), none)
theorem next_c' {w : World} {H : Heap} {b : Nat} {F : List Nat} {s : Rest} (hw : w.heap = H) (hI : InW H b F s) :
  CallF P F_wire_In_next #[.pointer (some ⟨b, 0, none⟩)] w fun e w' => e = .returned (.tuple #[.int .u8 (nx s).1.1, .bool (nx s).1.2]) ∧ InW w'.heap b F (nx s).2 ∧ Ext [b] H w'.heap := by
 obtain ⟨x, e, h1, h2, h3, h4⟩ := id hI
 refine fn_wire_In_next ?_
 unfold T_wire_In_next
 refine joinP_in ?_
 refine iteP_f rfl ?_
 simp only [withAddr_some, add_none]
 refine ld_h (s := .int .i64) (t := e) hw h1 rfl ?_
 cases s with
 | none => exact iteP_ne (fun _ => ⟨rfl, by rw [hw]; exact hI, by rw [hw]; exact .refl _ _⟩) (fun h => absurd h h4)
 | some R =>
  obtain ⟨rfl, hC, hl, hcap, hlen⟩ := h4
  refine iteP_f rfl ?_
  refine ld_h (s := .slc) (t := x) hw h1 rfl ?_
  cases R with
  | nil =>
   refine iteP_t (by simp [hl]) ?_
   refine callF_of (infail_c 20 hw hI (by omega)) ?_
   rintro e w' ⟨rfl, h⟩
   exact ⟨(), rfl, rfl, h⟩
  | cons c R =>
   refine iteP_f (by simp [hl]; omega) ?_
   refine ld_h (s := .slc) (t := x) hw h1 rfl ?_
   obtain ⟨b2, o, cs, T, fr, hx1, hb2, ho, hby⟩ := hC.bytes (by simp)
   rw [hx1]
   refine ixS_1 0 rfl (by rw [hl]; simp) ?_
   refine ld_h (s := .int .u8) (t := (c.toNat : Int)) hw hb2 (by have := hby 0 (by simp); simp at this; exact this) ?_
   refine ld_h (s := .slc) (t := x) hw h1 rfl ?_
   refine genQ_of (s := .slc) (cutX x 1) (run_slice_slc uS8 sz8 (.yes rfl) .no (by rw [hl]; simp) hcap) ?_
   refine stC_h hw h1 (by simp) fun w1 hw1 => ?_
   have hx : Ext [b] H w1.heap := by rw [hw1]; exact Ext.set _ (by simp)
   have hown : ∀ d ∈ ownM (cutX x 1), d ∈ F := fun d hd => h3 d (own_cutX d hd)
   refine ⟨rfl, ⟨cutX x 1, 0, by rw [hw1]; exact set_new h1, h2, hown, rfl, ?_, by simp [cutX, hl], by simp only [cutX]; omega, by simp at hlen; omega⟩, hx⟩
   exact own_cells (cells_cutX hC 1 (by omega)) hx hown fun d hd h => by simp at h; subst h; exact h2 hd
theorem ofInt64_nat (m : Nat) : (BitVec.ofInt 64 (m : Int)).toNat = m % 18446744073709551616 := by
 rw [BitVec.toNat_ofInt]
 have : ((2 : Nat) ^ 64 : Nat) = 18446744073709551616 := by decide
 rw [this]; omega
theorem or64 {a b : Nat} {K : Int → Prop} (ha : a < 18446744073709551616) (hb : b < 18446744073709551616) (h : K ((a ||| b : Nat) : Int)) : orI .u64 (a : Int) (b : Int) K := by
 refine ⟨_, ?_, h⟩
 have e : (BitVec.ofInt IntKind.u64.bits (a : Int) ||| BitVec.ofInt IntKind.u64.bits (b : Int)).toNat = a ||| b := by
  show (BitVec.ofInt 64 (a : Int) ||| BitVec.ofInt 64 (b : Int)).toNat = a ||| b
  rw [BitVec.toNat_or, ofInt64_nat, ofInt64_nat, Nat.mod_eq_of_lt ha, Nat.mod_eq_of_lt hb]
 rw [e, wrap64_nat]
 have : a ||| b < 2 ^ 64 := Nat.or_lt_two_pow (by simpa using ha) (by simpa using hb)
 rw [Nat.mod_eq_of_lt (by simpa using this)]
theorem and127 (x : BitVec 8) : (x &&& 127#8).toNat = x.toNat % 128 := by
 revert x; decide
theorem and8 {c : UInt8} {K : Int → Prop} (h : K ((c.toNat % 128 : Nat) : Int)) : andI .u8 (c.toNat : Int) 127 K := by
 refine ⟨_, ?_, h⟩
 have e1 : BitVec.ofInt 8 (c.toNat : Int) = BitVec.ofNat 8 c.toNat := by
  apply BitVec.eq_of_toNat_eq
  simp
 show _ = IntKind.u8.wrap ((BitVec.ofInt 8 (c.toNat : Int) &&& BitVec.ofInt 8 127).toNat : Int)
 have e3 : BitVec.ofInt 8 127 = 127#8 := by decide
 rw [e1, e3, and127, wrap8_nat]
 have := c.toNat_lt
 simp only [BitVec.toNat_ofNat]
 omega
theorem pow128 (e : Nat) : 2 ^ (7 * e) = 128 ^ e := by rw [Nat.pow_mul]
theorem more7 {c : UInt8} {e acc : Nat} (he : e ≤ 9) (ha : acc < 128 ^ e) (h9 : e = 9 → c.toNat ≤ 1) {i : Int} (hi : i = 7 * (e : Int)) {K : Int → Prop} (h : K ((acc + c.toNat % 128 * 128 ^ e : Nat) : Int)) :
  shlI .u64 ((c.toNat % 128 : Nat) : Int) i fun t => orI .u64 (acc : Int) t K := by
 have hc := c.toNat_lt
 have hp : 128 ^ e ≤ 128 ^ 9 := Nat.pow_le_pow_right (by omega) he
 have h128 : (128 : Nat) ^ 9 = 9223372036854775808 := by decide
 have hlt : c.toNat % 128 * 128 ^ e < 18446744073709551616 := by
  by_cases h : e = 9
  ·subst h
   have := h9 rfl
   have h1 : c.toNat % 128 ≤ 1 := by omega
   calc c.toNat % 128 * 128 ^ 9 ≤ 1 * 128 ^ 9 := Nat.mul_le_mul_right _ h1
    _ < _ := by decide
  ·have hp8 : 128 ^ e ≤ 128 ^ 8 := Nat.pow_le_pow_right (by omega) (by omega)
   calc c.toNat % 128 * 128 ^ e ≤ 127 * 128 ^ 8 := Nat.mul_le_mul (by omega) hp8
    _ < _ := by decide
 refine ⟨by omega, ((c.toNat % 128 * 128 ^ e : Nat) : Int), ?_, ?_⟩
 ·have e1 : min i.toNat IntKind.u64.bits = 7 * e := by
   have : IntKind.u64.bits = 64 := rfl
   omega
  rw [e1]
  have e2 : ((c.toNat % 128 : Nat) : Int) * 2 ^ (7 * e) = ((c.toNat % 128 * 128 ^ e : Nat) : Int) := by
   rw [← pow128]; simp
  rw [e2, wrap_u64 (by omega) (by omega)]
 ·refine or64 (by omega) hlt ?_
  have h2 : acc ||| c.toNat % 128 * 128 ^ e = acc + c.toNat % 128 * 128 ^ e := by
   rw [← pow128]
   have h3 := Nat.shiftLeft_add_eq_or_of_lt (i := 7 * e) (b := acc) (by rw [pow128]; exact ha) (c.toNat % 128)
   rw [Nat.shiftLeft_eq] at h3
   rw [Nat.or_comm, ← h3, Nat.add_comm]
  rw [h2]; exact h
def nmS (s : Rest) : Nat × Rest := match s with | none => (0, none) | some R => match rdNum R with | none => (0, none) | some (n, R) => (n, some R)
def txS (most : Nat) (s : Rest) : List UInt8 × Rest := match s with | none => ([], none) | some R => match rdText most R with | none => ([], none) | some (t, R) => (t, some R)
theorem inum_c {w : World} {H : Heap} {b : Nat} {F : List Nat} {s : Rest} (hw : w.heap = H) (hI : InW H b F s) :
  CallF P F_wire_In_Num #[.pointer (some ⟨b, 0, none⟩)] w fun e w' => e = .returned (.int .u64 ((nmS s).1 : Int)) ∧ InW w'.heap b F (nmS s).2 ∧ Ext [b] H w'.heap := by
 refine fn_wire_In_Num ?_
 unfold T_wire_In_Num
 cases s with
 | none =>
  refine loopP_of (fun (s : Int × Int) W => W = w) (fun _ _ => 0) rfl ?_
  rintro s W rfl
  refine joinP_in ?_
  refine callF_of (next_c' hw hI) ?_
  rintro e w' ⟨rfl, h⟩
  refine ⟨(0, false), rfl, ?_⟩
  exact iteP_t rfl ⟨rfl, h⟩
 | some R0 =>
 refine loopP_of (fun (s : Int × Int) W => ∃ (acc e : Nat) (R : List UInt8), s = ((acc : Int), (e : Int)) ∧ e ≤ 9 ∧ acc < 128 ^ e ∧ InW W.heap b F (some R) ∧ rdN e acc R = rdNum R0 ∧ Ext [b] H W.heap) (fun s _ => (10 - s.2).toNat)
  ⟨0, 0, R0, rfl, by omega, by simp, by rw [hw]; exact hI, rfl, by rw [hw]; exact .refl _ _⟩ ?_
 rintro _ W ⟨acc, e, R, rfl, he, hacc, hIW, hrd, hxW⟩
 refine joinP_in ?_
 refine callF_of (next_c' rfl hIW) ?_
 rintro e' w2 ⟨rfl, hI2, hx2⟩
 have hx02 := hxW.trans hx2
 cases R with
 | nil =>
  refine ⟨(0, false), rfl, ?_⟩
  refine iteP_t rfl ?_
  have : nmS (some R0) = (0, none) := by simp only [nmS, ← hrd, rdN]
  rw [this]
  exact ⟨rfl, hI2, hx02⟩
 | cons c R =>
  refine ⟨((c.toNat : Int), true), rfl, ?_⟩
  refine iteP_f rfl ?_
  have hbad : ((e = 9 ∧ 1 < c.toNat) ∨ (0 < e ∧ c.toNat = 0)) → callF P F_wire_In_fail #[(Value.pointer (some ⟨b, 0, none⟩)), (Value.int .i64 21)] [] true w2 fun (_ : Unit) w_3 =>
    Ending.returned (Value.int .u64 0) = .returned (.int .u64 ((nmS (some R0)).1 : Int)) ∧ InW w_3.heap b F (nmS (some R0)).2 ∧ Ext [b] H w_3.heap := by
   intro hb
   have : nmS (some R0) = (0, none) := by simp only [nmS, ← hrd, rdN, if_pos hb]
   rw [this]
   refine callF_of (infail_c 21 rfl hI2 (by omega)) ?_
   rintro e3 w3 ⟨rfl, h3, hx3⟩
   exact ⟨(), rfl, rfl, h3, hx02.trans hx3⟩
  refine joinP_of (fun _ W' => W' = w2 ∧ ¬ ((e = 9 ∧ 1 < c.toNat) ∨ (0 < e ∧ c.toNat = 0))) ?_ ?_
  ·refine iteP_eq (fun h9 => ?_) (fun h9 => ?_)
   ·refine iteP_dec (fun h1 => hbad (.inl ⟨by omega, by simp only at h1; omega⟩)) (fun h1 => ?_)
    refine iteP_dec (fun hp => ?_) (fun hp => ⟨rfl, by simp only at h1; omega⟩)
    exact iteP_eq (fun h0 => hbad (.inr ⟨by omega, by simp only at h0; omega⟩)) (fun h0 => ⟨rfl, by simp only at h0 h1; omega⟩)
   ·refine iteP_dec (fun hp => ?_) (fun hp => ⟨rfl, by simp only at h9 hp; omega⟩)
    exact iteP_eq (fun h0 => hbad (.inr ⟨by simp only at hp; omega, by simp only at h0; omega⟩)) (fun h0 => ⟨rfl, by simp only at h0 h9; omega⟩)
  rintro _ W' ⟨rfl, hok⟩
  refine and8 ?_
  refine cvI_u64 (by omega) (by omega) ?_
  refine mulI_to (7 * (e : Int)) rfl (by omega) (by omega) ?_
  refine more7 he hacc (fun h => by omega) rfl ?_
  refine iteP_dec (fun h => ?_) (fun h => ?_)
  ·have hc : c.toNat < 128 := by simp only at h; omega
   have : nmS (some R0) = (acc + c.toNat * 128 ^ e, some R) := by simp only [nmS, ← hrd, rdN, if_neg hok, if_pos hc]
   rw [this, Nat.mod_eq_of_lt hc]
   exact ⟨rfl, hI2, hx02⟩
  ·have hc : ¬ c.toNat < 128 := by simp only at h; omega
   refine addI_to ((e + 1 : Nat) : Int) (by omega) (by omega) (by omega) ?_
   refine ⟨⟨_, e + 1, R, rfl, by omega, ?_, hI2, ?_, hx02⟩, by omega⟩
   ·rw [Nat.pow_succ]
    have : c.toNat % 128 * 128 ^ e ≤ 127 * 128 ^ e := Nat.mul_le_mul_right _ (by omega)
    omega
   ·rw [← hrd]; simp only [rdN, if_neg hok, if_neg hc]
theorem max0 (n : Nat) (w : World) : (Builtin.max_ #[y_int, y_int] y_int #[.int .i64 (n : Int), .int .i64 0]).run P w = .ok (.int .i64 (n : Int)) w := by
 rw [run_max_int2]
 congr 2
theorem itake_c {w : World} {H : Heap} {b : Nat} {F : List Nat} {R : List UInt8} {n : Nat} (hw : w.heap = H) (hI : InW H b F (some R)) (hn : n ≤ 9223372036854775807) :
  CallF P F_wire_In_take #[.pointer (some ⟨b, 0, none⟩), .int .i64 (n : Int)] w fun e w' => Ext [b] H w'.heap ∧ ((R.length < n ∧ e = .returned (.slice none 0 0) ∧ InW w'.heap b F none) ∨
   (n ≤ R.length ∧ ∃ y, e = .returned (slcV y) ∧ Cells w'.heap y.1 (byteCells (R.take n)) ∧ y.2.1 = n ∧ (∀ c ∈ ownM y, c ∈ F) ∧ InW w'.heap b F (some (R.drop n)))) := by
 obtain ⟨x, e, h1, h2, h3, rfl, hC, hl, hcap, hlen⟩ := id hI
 refine fn_wire_In_take ?_
 unfold T_wire_In_take
 refine joinP_in ?_
 refine iteP_f rfl ?_
 simp only [withAddr_some, add_none]
 refine ld_h (s := .int .i64) (t := 0) hw h1 rfl ?_
 refine iteP_f rfl ?_
 refine ld_h (s := .slc) (t := x) hw h1 rfl ?_
 refine iteP_dec (fun h => ?_) (fun h => ?_)
 ·refine callF_of (infail_c 20 hw hI (by omega)) ?_
  rintro e3 w3 ⟨rfl, h3, hx3⟩
  exact ⟨(), rfl, hx3, .inl ⟨by omega, trivial, h3⟩⟩
 ·have hnl : n ≤ R.length := by omega
  refine ld_h (s := .slc) (t := x) hw h1 rfl ?_
  refine genQ_of (s := .slc) (if x.2.2 = 0 then x.1 else x.1.map (·.add (0 * 1)), n - 0, x.2.2 - 0) (run_slice_slc uS8 sz8 .no (.yes rfl) (Nat.zero_le _) (by omega)) ?_
  refine ld_h (s := .slc) (t := x) hw h1 rfl ?_
  refine genQ_of (s := .slc) (cutX x n) (run_slice_slc uS8 sz8 (.yes rfl) .no (by omega) hcap) ?_
  refine stC_h hw h1 (by simp) fun w1 hw1 => ?_
  have hx : Ext [b] H w1.heap := by rw [hw1]; exact Ext.set _ (by simp)
  have hFb : ∀ c ∈ F, c ∉ [b] := fun d hd h => by simp at h; subst h; exact h2 hd
  have hown : ∀ d ∈ ownM (cutX x n), d ∈ F := fun d hd => h3 d (own_cutX d hd)
  have hy : ((if x.2.2 = 0 then x.1 else x.1.map (·.add (0 * 1)), n - 0, x.2.2 - 0) : Option Addr × Nat × Nat).1 = x.1 := by
   simp only
   split
   ·rfl
   ·cases x.1 with
    | none => rfl
    | some a => simp [Addr.add]
  refine ⟨hx, .inr ⟨hnl, (if x.2.2 = 0 then x.1 else x.1.map (·.add (0 * 1)), n - 0, x.2.2 - 0), rfl, ?_, by simp, ?_, ⟨cutX x n, 0, by rw [hw1]; exact set_new h1, h2, hown, rfl, ?_, by simp [cutX, hl], by simp only [cutX]; omega, by simp; omega⟩⟩⟩
  ·rw [hy, ← byteCells_take]
   exact own_cells (hC.take n) hx h3 hFb
  ·intro c hc
   refine h3 c ?_
   unfold ownM at hc ⊢
   rw [hy] at hc; exact hc
  ·exact own_cells (cells_cutX hC n (by omega)) hx hown hFb
theorem itext_c {w : World} {H : Heap} {b : Nat} {F : List Nat} {s : Rest} {most : Nat} (hw : w.heap = H) (hI : InW H b F s) (hm : most ≤ 1073741824) :
  CallF P F_wire_In_Text #[.pointer (some ⟨b, 0, none⟩), .int .i64 (most : Int)] w fun e w' => e = .returned (.string (strOf (txS most s).1)) ∧ InW w'.heap b F (txS most s).2 ∧ Ext [b] H w'.heap := by
 refine fn_wire_In_Text ?_
 unfold T_wire_In_Text
 refine callF_of (inum_c hw hI) ?_
 rintro e w1 ⟨rfl, h1, hx1⟩
 refine ⟨((nmS s).1 : Int), rfl, ?_⟩
 refine joinP_of (fun _ W => W = w1 ∧ ∃ R, (nmS s).2 = some R) ?_ ?_
 ·refine iteP_f rfl ?_
  obtain ⟨x, e, g1, g2, g3, g4⟩ := id h1
  simp only [withAddr_some, add_none]
  refine ld_h (s := .int .i64) (t := e) rfl g1 rfl ?_
  cases hs : (nmS s).2 with
  | none =>
   rw [hs] at g4 h1
   have : txS most s = ([], none) := by
    cases s with
    | none => rfl
    | some R =>
     simp only [nmS] at hs
     simp only [txS, rdText]
     cases h : rdNum R with
     | none => rfl
     | some y => rw [h] at hs; simp at hs
   rw [this]
   refine iteP_ne (fun _ => ⟨rfl, h1, hx1⟩) (fun h => absurd h g4)
  | some R =>
   rw [hs] at g4
   exact iteP_f (by rw [g4.1]; rfl) ⟨trivial, R, rfl⟩
 rintro _ W ⟨hW, R, hR⟩
 subst hW
 obtain ⟨R0, rfl, hn⟩ : ∃ R0, s = some R0 ∧ rdNum R0 = some ((nmS s).1, R) := by
  cases s with
  | none => simp [nmS] at hR
  | some R0 =>
   refine ⟨R0, rfl, ?_⟩
   simp only [nmS] at hR ⊢
   cases h : rdNum R0 with
   | none => rw [h] at hR; simp at hR
   | some y => rw [h] at hR; simp at hR ⊢; rw [← hR]
 rw [hR] at h1
 have hlt := (rdNum_back hn).2
 generalize (nmS (some R0)).1 = n at hn hlt
 refine genQ_of (s := .int .i64) (most : Int) (max0 most W) ?_
 refine cvI_u64 (by omega) (by omega) ?_
 refine iteP_dec (fun h => ?_) (fun h => ?_)
 ·have : txS most (some R0) = ([], none) := by simp only [txS, rdText, hn]; rw [if_pos (by omega)]
  rw [this]
  refine callF_of (infail_c 2 rfl h1 (by omega)) ?_
  rintro e3 w3 ⟨rfl, h3, hx3⟩
  exact ⟨(), rfl, rfl, h3, hx1.trans hx3⟩
 ·refine cvI_i64 (by omega) (by omega) ?_
  refine callF_of (itake_c rfl h1 (by omega)) ?_
  rintro e3 w3 ⟨hx3, ⟨hl, rfl, h3⟩ | ⟨hl, y, rfl, hC, hy, ho, h3⟩⟩
  ·refine ⟨(none, 0, 0), rfl, ?_⟩
   have : txS most (some R0) = ([], none) := by simp only [txS, rdText, hn]; rw [if_pos (by omega)]
   rw [this]
   refine genQ_of (s := .str) (strOf []) (convS_h uS8 u8 uStr rfl (L := []) (.inl rfl) rfl) ?_
   exact ⟨rfl, h3, hx1.trans hx3⟩
  ·refine ⟨y, rfl, ?_⟩
   have : txS most (some R0) = (R.take n, some (R.drop n)) := by simp only [txS, rdText, hn]; rw [if_neg (by omega)]
   rw [this]
   refine genQ_of (s := .str) (strOf (R.take n)) (convS_h uS8 u8 uStr rfl hC (by rw [hy]; simp; omega)) ?_
   exact ⟨rfl, h3, hx1.trans hx3⟩
theorem iend_c {w : World} {H : Heap} {b : Nat} {F : List Nat} {s : Rest} (hw : w.heap = H) (hI : InW H b F s) :
  CallF P F_wire_In_End #[.pointer (some ⟨b, 0, none⟩)] w fun e w' => e = .returned (.bool (decide (s = some []))) ∧ w' = w := by
 obtain ⟨x, e, h1, h2, h3, h4⟩ := id hI
 refine fn_wire_In_End ?_
 unfold T_wire_In_End
 refine iteP_t rfl ?_
 simp only [withAddr_some, add_none]
 refine ld_h (s := .int .i64) (t := e) hw h1 rfl ?_
 cases s with
 | none => exact iteP_eq (fun h => absurd h h4) (fun _ => ⟨by simp, trivial⟩)
 | some R =>
  refine iteP_t (by rw [h4.1]; rfl) ?_
  refine ld_h (s := .slc) (t := x) hw h1 rfl ?_
  refine ⟨?_, trivial⟩
  congr 2
  rw [h4.2.2.1, Bool.eq_iff_iff]
  simp
theorem bIn (x : Option Addr × Nat × Nat) (w : World) : (Instr.build y_wire_In #[(0, .slice x.1 x.2.1 x.2.2)]).run P w = .ok (.agg #[slcV x, .int .i64 0]) w := by kernel_rfl
theorem read_c {w : World} {H : Heap} {a : Option Addr} {n nc : Nat} {L : List UInt8} (hw : w.heap = H) (hL : Cells H a (byteCells L)) (hn : n = L.length) (hl : L.length ≤ 1099511627776) :
  CallF P F_wire_Read #[.slice a n nc] w fun e w' => ∃ b F, e = .returned (.pointer (some ⟨b, 0, none⟩)) ∧ InW w'.heap b F (some L) ∧ Ext [] H w'.heap ∧ H.size ≤ b ∧ (∀ c ∈ F, H.size ≤ c) ∧ b < w'.heap.size ∧ ∀ c ∈ F, c < w'.heap.size := by
 subst hn
 refine fn_wire_Read ?_
 unfold T_wire_Read
 refine append_g (x := (none, 0, 0)) (vs := []) (B := H.size) E8 (by omega) uS8 (slice_noint uS8) hw (.inl ⟨rfl, rfl⟩) (Nat.le_refl _) (Src.slc hw hL (by simp)) one_byteCells (by simp only; omega) ?_
 intro y w1 hm hl1 hx hs
 have hxn : Ext [] H w1.heap := hx.mono (by simp [ownM])
 refine genQ_of (s := .any) _ (bIn y _) ?_
 refine newB_h rfl fun w2 hw2 => ?_
 have hx2 : Ext [] w1.heap w2.heap := by rw [hw2]; exact .push _
 have hb2 : w2.heap[w1.heap.size]? = some (.cells #[slcV y, .int .i64 0] y_wire_In (0, 0)) := by rw [hw2]; exact push_new
 have hylt : ∀ c ∈ ownM y, c < w1.heap.size := by
  intro c hc
  rcases hm with ⟨hx1, _⟩ | ⟨b', c', hx1, _, hb', _⟩
  ·simp [ownM, hx1] at hc
  ·simp [ownM, hx1] at hc
   subst hc
   exact lt_of_get hb'
 have hyl : y.2.1 = L.length := by have := hm.len; simp at this; omega
 have hs1 := hxn.1
 have hs2 := hx2.1
 refine ⟨w1.heap.size, ownM y, rfl, ⟨y, 0, hb2, fun h => by have := hylt _ h; omega, fun c hc => hc, rfl, ?_, hyl, ?_, by omega⟩, hxn.trans hx2, by omega, fun c hc => ownM_ge hm c hc, lt_of_get hb2, fun c hc => by have := hylt c hc; omega⟩
 ·have := hm.cells
  rw [List.nil_append] at this
  exact this.ext hx2 (by simp)
 ·rcases hm with ⟨hx1, hv⟩ | ⟨_, _, _, _, _, _, _, h, _⟩
  ·rw [hx1]; exact Nat.le_refl _
  ·exact h
end Go.Proofs.YtbmegmbnlajbbaaGreatDoor
namespace Go.Proofs.YtbmegmbnlajbbaaGreatDoor
open Go Go.Fw Go.Proofs
theorem own_new {H H' : Heap} {B : Nat} {x : Option Addr × Nat × Nat} {vs : List Value} {T : TypeId} {sz : Nat} {H0 : Heap} (h : Ext [] H0 H) (hm : Mine H B T sz x vs) (hB : H0.size ≤ B) (hx : Ext (ownM x) H H') : Ext [] H0 H' :=
 h.own hx fun c hc hlt => by have := ownM_ge hm c hc; omega
end Go.Proofs.YtbmegmbnlajbbaaGreatDoor
namespace Go.Proofs.YtbmegmbnlajbbaaGreatDoor
open Go Go.Fw Go.Proofs
theorem own_cells' {H H' : Heap} {M F : List Nat} {x : Option Addr × Nat × Nat} {B : List UInt8} (h : Cells H x.1 (byteCells B)) (hx : Ext M H H') (hF : B ≠ [] → ∀ c ∈ ownM x, c ∈ F) (hM : ∀ c ∈ F, c ∉ M) : Cells H' x.1 (byteCells B) :=
 h.ext hx fun a ha hne => hM _ (hF (fun h0 => hne (by rw [h0]; rfl)) _ (by simp [ownM, ha]))
def RInW (H : Heap) (b : Nat) (F : List Nat) (s : Rest) : Prop := ∃ (x : Option Addr × Nat × Nat) (i : Nat) (e : Int) (B : List UInt8), H[b]? = some (.cells #[slcV x, .int .i64 (i : Int), .int .i64 e] y_r02_In (0, 0)) ∧ b ∉ F ∧ (B ≠ [] → ∀ c ∈ ownM x, c ∈ F) ∧
 Cells H x.1 (byteCells B) ∧ x.2.1 = B.length ∧ x.2.1 ≤ x.2.2 ∧ B.length ≤ 1099511627776 ∧ i ≤ B.length ∧ (match s with | some R => e = 0 ∧ R = B.drop i | none => e ≠ 0)
theorem RInW.ext {H H' : Heap} {b : Nat} {F M : List Nat} {s : Rest} (h : RInW H b F s) (hx : Ext M H H') (hb : b ∉ M) (hF : ∀ c ∈ F, c ∉ M) : RInW H' b F s := by
 obtain ⟨x, i, e, B, h1, h2, h3, h4, h5⟩ := h
 exact ⟨x, i, e, B, hx.get h1 hb, h2, h3, own_cells' h4 hx h3 hF, h5⟩
end Go.Proofs.YtbmegmbnlajbbaaGreatDoor
namespace Go.Fw.Sha
open Go.Fw
def rotr (x : BitVec 32) (n : Nat) : BitVec 32 := x >>> n ||| x <<< (32 - n)
def kc : List Nat := [1116352408, 1899447441, 3049323471, 3921009573, 961987163, 1508970993, 2453635748, 2870763221, 3624381080, 310598401, 607225278, 1426881987, 1925078388, 2162078206, 2614888103, 3248222580, 3835390401, 4022224774, 264347078, 604807628, 770255983, 1249150122, 1555081692, 1996064986, 2554220882, 2821834349, 2952996808, 3210313671, 3336571891, 3584528711, 113926993, 338241895, 666307205, 773529912, 1294757372, 1396182291, 1695183700, 1986661051, 2177026350, 2456956037, 2730485921, 2820302411, 3259730800, 3345764771, 3516065817, 3600352804, 4094571909, 275423344, 430227734, 506948616, 659060556, 883997877, 958139571, 1322822218, 1537002063, 1747873779, 1955562222, 2024104815, 2227730452, 2361852424, 2428436474, 2756734187, 3204031479, 3329325298]
def K (t : Nat) : BitVec 32 := BitVec.ofNat 32 (kc.getD t 0)
def ic : List Nat := [1779033703, 3144134277, 1013904242, 2773480762, 1359893119, 2600822924, 528734635, 1541459225]
def init (t : Nat) : BitVec 32 := BitVec.ofNat 32 (ic.getD t 0)
def W (m : Nat → BitVec 32) (t : Nat) : BitVec 32 :=
 if t < 16 then m t
 else (rotr (W m (t - 2)) 17 ^^^ rotr (W m (t - 2)) 19 ^^^ W m (t - 2) >>> 10) + W m (t - 7) + (rotr (W m (t - 15)) 7 ^^^ rotr (W m (t - 15)) 18 ^^^ W m (t - 15) >>> 3) + W m (t - 16)
termination_by t
def one (s : Nat → BitVec 32) (k w : BitVec 32) : BitVec 32 :=
 s 7 + (rotr (s 4) 6 ^^^ rotr (s 4) 11 ^^^ rotr (s 4) 25) + (s 4 &&& s 5 ^^^ ~~~ s 4 &&& s 6) + k + w
def two (s : Nat → BitVec 32) : BitVec 32 :=
 (rotr (s 0) 2 ^^^ rotr (s 0) 13 ^^^ rotr (s 0) 22) + (s 0 &&& s 1 ^^^ s 0 &&& s 2 ^^^ s 1 &&& s 2)
def step (s : Nat → BitVec 32) (k w : BitVec 32) : Nat → BitVec 32
 | 0 => one s k w + two s
 | 4 => s 3 + one s k w
 | i + 1 => s i
def rnd (w s : Nat → BitVec 32) : Nat → Nat → BitVec 32
 | 0 => s
 | t + 1 => step (rnd w s t) (K t) (w t)
def comp (s m : Nat → BitVec 32) : Nat → BitVec 32 := fun i => s i + rnd (W m) s 64 i
def word (f : Nat → UInt8) (t : Nat) : BitVec 32 := b32 (f (4 * t)) <<< 24 ||| b32 (f (4 * t + 1)) <<< 16 ||| b32 (f (4 * t + 2)) <<< 8 ||| b32 (f (4 * t + 3))
def nth (l : List UInt8) (i : Nat) : UInt8 := l.getD i 0
def blocks (l : List UInt8) : Nat → Nat → BitVec 32
 | 0 => init
 | n + 1 => comp (blocks l n) (word fun j => nth l (64 * n + j))
def be8 (n : Nat) : List UInt8 := (List.range 8).map fun i => UInt8.ofNat (n / 2 ^ (56 - 8 * i))
def pad (l : List UInt8) : List UInt8 := l ++ [128] ++ List.replicate ((119 - l.length % 64) % 64) 0 ++ be8 (l.length * 8)
def out (s : Nat → BitVec 32) (i : Nat) : UInt8 := lo8 (s (i / 4) >>> (24 - 8 * (i % 4)))
def sum (l : List UInt8) : List UInt8 := (List.range 32).map (out (blocks (pad l) ((pad l).length / 64)))
theorem W_lt {m : Nat → BitVec 32} {t : Nat} (h : t < 16) : W m t = m t := by rw [W, if_pos h]
theorem W_ge {m : Nat → BitVec 32} {t : Nat} (h : 16 ≤ t) : W m t = (rotr (W m (t - 2)) 17 ^^^ rotr (W m (t - 2)) 19 ^^^ W m (t - 2) >>> 10) + W m (t - 7) + (rotr (W m (t - 15)) 7 ^^^ rotr (W m (t - 15)) 18 ^^^ W m (t - 15) >>> 3) + W m (t - 16) := by
 rw [W, if_neg (by omega)]
theorem W_congr {m m' : Nat → BitVec 32} (h : ∀ t, t < 16 → m t = m' t) (t : Nat) : W m t = W m' t := by
 induction t using Nat.strongRecOn with
 | _ t ih =>
  by_cases ht : t < 16
  ·rw [W_lt ht, W_lt ht, h t ht]
  ·rw [W_ge (m := m) (t := t) (by omega), W_ge (m := m') (t := t) (by omega), ih (t - 2) (by omega), ih (t - 7) (by omega), ih (t - 15) (by omega), ih (t - 16) (by omega)]
end Go.Fw.Sha
namespace Go.Proofs.YtbmegmbnlajbbaaGreatDoor.Bl
open Go Go.Fw Go.Proofs
theorem turn_c (x : BitVec 32) (n : Nat) {i : Int} (hi : i = (n : Int)) (h0 : 0 < n) (hn : n < 32) (w : World) : CallF P F_r01_turn #[.int .u32 (x.toNat : Int), .int .u64 i] w fun e w' => e = .returned (.int .u32 ((Sha.rotr x n).toNat : Int)) ∧ w' = w := by
 subst hi
 refine fn_r01_turn ?_
 unfold T_r01_turn
 refine shrW _ n rfl (by omega) ?_
 refine ⟨((32 - n : Nat) : Int), ?_, ?_⟩
 ·rw [wrap_u64] <;> omega
 refine shlW _ (32 - n) rfl (by omega) ?_
 refine orW _ _ ?_
 exact ⟨rfl, rfl⟩
theorem rot_c (x : BitVec 32) (n : Nat) {i : Int} (hi : i = -(n : Int)) (h0 : 0 < n) (hn : n < 32) (w : World) : CallF P F_math_bits_RotateLeft32 #[.int .u32 (x.toNat : Int), .int .i64 i] w fun e w' => e = .returned (.int .u32 ((Sha.rotr x n).toNat : Int)) ∧ w' = w := by
 subst hi
 refine fn_math_bits_RotateLeft32 ?_
 unfold T_math_bits_RotateLeft32
 refine ⟨((18446744073709551616 - n : Nat) : Int), ?_, ?_⟩
 ·simp only [IntKind.wrap, IntKind.bits, IntKind.signed]
  have e : (2 : Int) ^ 64 = 18446744073709551616 := by decide
  simp only [e, Bool.false_and, Bool.false_eq_true, if_false]
  omega
 refine ⟨((32 - n : Nat) : Int), ?_, ?_⟩
 ·have this : (BitVec.ofInt IntKind.u64.bits ((18446744073709551616 - n : Nat) : Int) &&& BitVec.ofInt IntKind.u64.bits 31).toNat = 32 - n := by
   change (BitVec.ofNat 64 (18446744073709551616 - n) &&& BitVec.ofNat 64 31).toNat = 32 - n
   rw [BitVec.toNat_and, BitVec.toNat_ofNat, BitVec.toNat_ofNat]
   have e31 : 31 % 2 ^ 64 = 2 ^ 5 - 1 := by decide
   have e1 : (18446744073709551616 - n) % 2 ^ 64 = 18446744073709551616 - n := Nat.mod_eq_of_lt (by omega)
   rw [e31, Nat.and_two_pow_sub_one_eq_mod, e1]
   omega
  rw [this, wrap_u64] <;> omega
 refine shlW _ (32 - n) rfl (by omega) ?_
 refine ⟨((n : Nat) : Int), ?_, ?_⟩
 ·rw [wrap_u64] <;> omega
 refine shrW _ n rfl (by omega) ?_
 refine orW _ _ ?_
 refine ⟨?_, rfl⟩
 unfold Sha.rotr
 rw [BitVec.or_comm]
end Go.Proofs.YtbmegmbnlajbbaaGreatDoor.Bl
namespace Go.Proofs.YtbmegmbnlajbbaaGreatDoor.Bl
open Go Go.Fw Go.Proofs
theorem zc66 : zc P y_64_uint32 = (List.replicate 64 (Value.int .u32 0)).toArray := by kernel_rfl
theorem zc65 : zc P y_8_uint32 = (List.replicate 8 (Value.int .u32 0)).toArray := by kernel_rfl
theorem size65 : P.cellsOf y_8_uint32 = 8 := by kernel_rfl
theorem build65 (a b c d e f g h : Int) (w : World) : (Instr.build y_8_uint32 #[(0, .int .u32 a), (1, .int .u32 b), (2, .int .u32 c), (3, .int .u32 d), (4, .int .u32 e), (5, .int .u32 f), (6, .int .u32 g), (7, .int .u32 h)]).run P w =
  .ok (.agg #[.int .u32 a, .int .u32 b, .int .u32 c, .int .u32 d, .int .u32 e, .int .u32 f, .int .u32 g, .int .u32 h]) w := by kernel_rfl
set_option maxHeartbeats 4000000 in
theorem mix_c {w : World} {H : Heap} {hp bb off l lc : Nat} {c cb rc : Array Value} {Tb rT : TypeId} {frb rfr : Nat × Nat} {s : Nat → BitVec 32} {f : Nat → UInt8} (hw : w.heap = H)
  (hH : H[hp]? = some (.cells c y_sha_Hash (0, 0))) (hsz : c.size = 74) (hS : Words c 0 s 8) (hB : H[bb]? = some (.cells cb Tb frb)) (hb : Bytes cb off f 64) (hl : 64 ≤ l)
  (hR : H[0]? = some (.cells rc rT rfr)) (hr : Words rc 0 Sha.K 64) (h0 : hp ≠ 0) :
  CallF P F_sha_Hash_mix #[.pointer (some ⟨hp, 0, none⟩), .slice (some ⟨bb, off, none⟩) l lc] w fun e w' => e = .returned (.tuple #[]) ∧ Ext [hp] H w'.heap ∧
   ∃ c', w'.heap[hp]? = some (.cells c' y_sha_Hash (0, 0)) ∧ c'.size = 74 ∧ Words c' 0 (Sha.comp s (Sha.word f)) 8 ∧ ∀ i, 8 ≤ i → c'[i]? = c[i]? := by
 refine fn_sha_Hash_mix ?_
 unfold T_sha_Hash_mix
 refine newB_h hw fun w1 hw1 => ?_
 refine loopP_of (fun s w => ∃ (t : Nat) (H' : Heap) (c4 : Array Value), s = (t : Int) ∧ t ≤ 16 ∧ w.heap = H' ∧ Ext [] H H' ∧ H'[H.size]? = some (.cells c4 y_64_uint32 (0, 0)) ∧ c4.size = 64 ∧ Words c4 0 (Sha.W (Sha.word f)) t)
  (fun s _ => (16 - s).toNat) ⟨0, _, _, rfl, by omega, hw1, .push _, push_new, by rw [zc66]; rfl, fun i hi => by omega⟩ ?_
 rintro _ w2 ⟨t, H2, c4, rfl, ht, hw2, hx2, hc4, hs4, hW⟩
 refine iteP_dec (fun hlt => ?_) (fun hge => ?_)
 ·have hlt : t < 16 := by omega
  refine drewP_h hw2 fun w3 hw3 => ?_
  have hB2 := hx2.get hB (by simp)
  refine mulI_to ((4 * t : Nat) : Int) (by omega) (by omega) (by omega) ?_
  refine ixS_1 (4 * t) rfl (by omega) ?_
  refine mulI_to ((4 * t : Nat) : Int) (by omega) (by omega) (by omega) ?_
  refine addI_to ((4 * t + 1 : Nat) : Int) (by omega) (by omega) (by omega) ?_
  refine ixS_1 (4 * t + 1) rfl (by omega) ?_
  refine mulI_to ((4 * t : Nat) : Int) (by omega) (by omega) (by omega) ?_
  refine addI_to ((4 * t + 2 : Nat) : Int) (by omega) (by omega) (by omega) ?_
  refine ixS_1 (4 * t + 2) rfl (by omega) ?_
  refine mulI_to ((4 * t : Nat) : Int) (by omega) (by omega) (by omega) ?_
  refine addI_to ((4 * t + 3 : Nat) : Int) (by omega) (by omega) (by omega) ?_
  refine ixS_1 (4 * t + 3) rfl (by omega) ?_
  refine ld_h hw3 hB2 (hb (4 * t) (by omega)) ?_
  refine cvB ?_
  refine shlW _ 24 rfl (by omega) ?_
  refine ld_h hw3 hB2 (hb (4 * t + 1) (by omega)) ?_
  refine cvB ?_
  refine shlW _ 16 rfl (by omega) ?_
  refine orW _ _ ?_
  refine ld_h hw3 hB2 (hb (4 * t + 2) (by omega)) ?_
  refine cvB ?_
  refine shlW _ 8 rfl (by omega) ?_
  refine orW _ _ ?_
  refine ld_h hw3 hB2 (hb (4 * t + 3) (by omega)) ?_
  refine cvB ?_
  refine orW _ _ ?_
  refine ixR_0 t rfl (by omega) ?_
  refine stC_h hw3 hc4 (by omega) fun w4 hw4 => ?_
  refine addI_to ((t + 1 : Nat) : Int) (by omega) (by omega) (by omega) ?_
  refine ⟨⟨t + 1, _, _, rfl, by omega, hw4, hx2.set_own (.inl (Nat.le_refl _)), set_new hc4, by simpa using hs4, ?_⟩, by omega⟩
  exact hW.snoc (by omega) (by rw [Sha.W_lt hlt]; rfl)
 have ht16 : t = 16 := by omega
 subst ht16
 clear hge ht
 refine loopP_of (fun s w => ∃ (t : Nat) (H' : Heap) (c4 : Array Value), s = (t : Int) ∧ 16 ≤ t ∧ t ≤ 64 ∧ w.heap = H' ∧ Ext [] H H' ∧ H'[H.size]? = some (.cells c4 y_64_uint32 (0, 0)) ∧ c4.size = 64 ∧ Words c4 0 (Sha.W (Sha.word f)) t)
  (fun s _ => (64 - s).toNat) ⟨16, _, _, rfl, by omega, by omega, hw2, hx2, hc4, hs4, hW⟩ ?_
 clear hw2 hx2 hc4 hs4 hW
 rintro _ w2 ⟨t, H2, c4, rfl, ht, ht', hw2, hx2, hc4, hs4, hW⟩
 refine iteP_dec (fun hlt => ?_) (fun hge => ?_)
 ·have hlt : t < 64 := by omega
  refine drewP_h hw2 fun w3 hw3 => ?_
  refine subI_to ((t - 2 : Nat) : Int) (by omega) (by omega) (by omega) ?_
  refine ixR_0 (t - 2) rfl (by omega) ?_
  refine subI_to ((t - 15 : Nat) : Int) (by omega) (by omega) (by omega) ?_
  refine ixR_0 (t - 15) rfl (by omega) ?_
  refine ld_h hw3 hc4 (hW.at (t - 2) (by omega)) ?_
  refine ld_h hw3 hc4 (hW.at (t - 15) (by omega)) ?_
  refine callQ_of (l := [.int .u32]) _ (rot_c _ 17 rfl (by omega) (by omega) _) ?_
  refine callQ_of (l := [.int .u32]) _ (rot_c _ 19 rfl (by omega) (by omega) _) ?_
  refine xorW _ _ ?_
  refine shrW _ 10 rfl (by omega) ?_
  refine xorW _ _ ?_
  refine callQ_of (l := [.int .u32]) _ (rot_c _ 7 rfl (by omega) (by omega) _) ?_
  refine callQ_of (l := [.int .u32]) _ (rot_c _ 18 rfl (by omega) (by omega) _) ?_
  refine xorW _ _ ?_
  refine shrW _ 3 rfl (by omega) ?_
  refine xorW _ _ ?_
  refine drewP_h hw3 fun w4 hw4 => ?_
  refine subI_to ((t - 7 : Nat) : Int) (by omega) (by omega) (by omega) ?_
  refine ixR_0 (t - 7) rfl (by omega) ?_
  refine subI_to ((t - 16 : Nat) : Int) (by omega) (by omega) (by omega) ?_
  refine ixR_0 (t - 16) rfl (by omega) ?_
  refine ld_h hw4 hc4 (hW.at (t - 7) (by omega)) ?_
  refine addW _ _ ?_
  refine addW _ _ ?_
  refine ld_h hw4 hc4 (hW.at (t - 16) (by omega)) ?_
  refine addW _ _ ?_
  refine ixR_0 t rfl (by omega) ?_
  refine stC_h hw4 hc4 (by omega) fun w5 hw5 => ?_
  refine addI_to ((t + 1 : Nat) : Int) (by omega) (by omega) (by omega) ?_
  refine ⟨⟨t + 1, _, _, rfl, by omega, by omega, hw5, hx2.set_own (.inl (Nat.le_refl _)), set_new hc4, by simpa using hs4, ?_⟩, by omega⟩
  exact hW.snoc (by omega) (by rw [Sha.W_ge ht])
 have ht64 : t = 64 := by omega
 subst ht64
 clear hge ht ht'
 have hH2 := hx2.get hH (by simp)
 have hR2 := hx2.get hR (by simp)
 have hlt := lt_of_get hH2
 simp only [withAddr_some]
 refine ldA_h hw2 hH2 (by omega) ?_
 rw [hS.extract (by omega)]
 refine newB_h hw2 fun w3 hw3 => ?_
 refine storeVar_h (size65.trans (by simp [Value.cells])) (by simp [Value.cells]) one_W32 hw3 push_new (by rw [zc65]; simp [Value.cells]) fun w4 hw4 => ?_
 rw [show setCells (zc P y_8_uint32) 0 (Value.cells (.agg (W32 s 8))).toList = W32 s 8 from by rw [setCells_all (by rw [zc65]; simp [Value.cells])]; simp [Value.cells]] at hw4
 have hb4 : H.size < H2.size := lt_of_get hc4
 refine loopP_of (fun s' w => ∃ (t : Nat) (H' : Heap) (c8 : Array Value), s' = (t : Int) ∧ t ≤ 64 ∧ w.heap = H' ∧ Ext [] H2 H' ∧ H'[H2.size]? = some (.cells c8 y_8_uint32 (0, 0)) ∧ c8.size = 8 ∧ Words c8 0 (Sha.rnd (Sha.W (Sha.word f)) s t) 8)
  (fun s _ => (64 - s).toNat) ⟨0, _, _, rfl, by omega, hw4, (Ext.push _).set_own (.inl (Nat.le_refl _)), set_new push_new, by simp, words_W32⟩ ?_
 rintro _ w5 ⟨t, H5, c8, rfl, ht, hw5, hx5, hc8, hs8, hV⟩
 refine iteP_dec (fun hlt => ?_) (fun hge => ?_)
 ·have hlt : t < 64 := by omega
  have hc4' := hx5.get hc4 (by simp)
  have hR' := hx5.get hR2 (by simp)
  refine drewP_h hw5 fun w6 hw6 => ?_
  refine ld_h hw6 hc8 (hV.at 4 (by omega)) ?_
  refine callQ_of (l := [.int .u32]) _ (rot_c _ 6 rfl (by omega) (by omega) _) ?_
  refine ld_h hw6 hc8 (hV.at 4 (by omega)) ?_
  refine callQ_of (l := [.int .u32]) _ (rot_c _ 11 rfl (by omega) (by omega) _) ?_
  refine xorW _ _ ?_
  refine ld_h hw6 hc8 (hV.at 4 (by omega)) ?_
  refine callQ_of (l := [.int .u32]) _ (rot_c _ 25 rfl (by omega) (by omega) _) ?_
  refine xorW _ _ ?_
  refine drewP_h hw6 fun w7 hw7 => ?_
  refine ixR_0 t rfl (by omega) ?_
  refine ixR_0 t rfl (by omega) ?_
  refine ld_h hw7 hc8 (hV.at 7 (by omega)) ?_
  refine addW _ _ ?_
  refine ld_h hw7 hc8 (hV.at 4 (by omega)) ?_
  refine ld_h hw7 hc8 (hV.at 5 (by omega)) ?_
  refine andW _ _ ?_
  refine ld_h hw7 hc8 (hV.at 4 (by omega)) ?_
  refine xorW_max _ ?_
  refine ld_h hw7 hc8 (hV.at 6 (by omega)) ?_
  refine andW _ _ ?_
  refine xorW _ _ ?_
  refine addW _ _ ?_
  refine ld_h hw7 hR' (hr.at t (by omega)) ?_
  refine addW _ _ ?_
  refine ld_h hw7 hc4' (hW.at t (by omega)) ?_
  refine addW _ _ ?_
  refine drewP_h hw7 fun w8 hw8 => ?_
  refine ld_h hw8 hc8 (hV.at 0 (by omega)) ?_
  refine callQ_of (l := [.int .u32]) _ (rot_c _ 2 rfl (by omega) (by omega) _) ?_
  refine ld_h hw8 hc8 (hV.at 0 (by omega)) ?_
  refine callQ_of (l := [.int .u32]) _ (rot_c _ 13 rfl (by omega) (by omega) _) ?_
  refine xorW _ _ ?_
  refine ld_h hw8 hc8 (hV.at 0 (by omega)) ?_
  refine callQ_of (l := [.int .u32]) _ (rot_c _ 22 rfl (by omega) (by omega) _) ?_
  refine xorW _ _ ?_
  refine ld_h hw8 hc8 (hV.at 0 (by omega)) ?_
  refine ld_h hw8 hc8 (hV.at 1 (by omega)) ?_
  refine andW _ _ ?_
  refine ld_h hw8 hc8 (hV.at 0 (by omega)) ?_
  refine ld_h hw8 hc8 (hV.at 2 (by omega)) ?_
  refine andW _ _ ?_
  refine xorW _ _ ?_
  refine ld_h hw8 hc8 (hV.at 1 (by omega)) ?_
  refine ld_h hw8 hc8 (hV.at 2 (by omega)) ?_
  refine andW _ _ ?_
  refine xorW _ _ ?_
  refine addW _ _ ?_
  refine addW _ _ ?_
  refine ld_h hw8 hc8 (hV.at 0 (by omega)) ?_
  refine ld_h hw8 hc8 (hV.at 1 (by omega)) ?_
  refine ld_h hw8 hc8 (hV.at 2 (by omega)) ?_
  refine ld_h hw8 hc8 (hV.at 3 (by omega)) ?_
  refine addW _ _ ?_
  refine ld_h hw8 hc8 (hV.at 4 (by omega)) ?_
  refine ld_h hw8 hc8 (hV.at 5 (by omega)) ?_
  refine ld_h hw8 hc8 (hV.at 6 (by omega)) ?_
  refine genQ_of _ (build65 _ _ _ _ _ _ _ _ _) ?_
  refine storeVar_h (size65.trans rfl) (by simp [Value.cells]) (by intro v hv; simp [Value.cells] at hv; rcases hv with h | h | h | h | h | h | h | h <;> subst h <;> rfl) hw8 hc8 (by simp [Value.cells]; omega) fun w9 hw9 => ?_
  refine addI_to ((t + 1 : Nat) : Int) (by omega) (by omega) (by omega) ?_
  refine ⟨⟨t + 1, _, _, rfl, by omega, hw9, hx5.set_own (.inl (Nat.le_refl _)), set_new hc8, by simpa using hs8, ?_⟩, by omega⟩
  rw [setCells_all (by simp [Value.cells]; omega)]
  intro i hi
  match i, hi with
  | 0, _ => rfl
  | 1, _ => rfl
  | 2, _ => rfl
  | 3, _ => rfl
  | 4, _ => rfl
  | 5, _ => rfl
  | 6, _ => rfl
  | 7, _ => rfl
 have ht64 : t = 64 := by omega
 subst ht64
 clear hge ht
 have hx52 : Ext [] H H5 := hx2.trans hx5
 have hH5 := hx52.get hH (by simp)
 have hne : hp ≠ H2.size := by have := lt_of_get hH; omega
 refine loopP_of (fun s' w => ∃ (t : Nat) (H' : Heap) (c' : Array Value), s' = (t : Int) ∧ t ≤ 8 ∧ w.heap = H' ∧ Ext [hp] H H' ∧ H'[hp]? = some (.cells c' y_sha_Hash (0, 0)) ∧ c'.size = 74 ∧ H'[H2.size]? = some (.cells c8 y_8_uint32 (0, 0)) ∧
   Words c' 0 (Sha.comp s (Sha.word f)) t ∧ (∀ i, t ≤ i → c'[i]? = c[i]?))
  (fun s _ => (8 - s).toNat) ⟨0, _, _, rfl, by omega, hw5, hx52.mono (by simp), hH5, hsz, hc8, fun i hi => by omega, fun i _ => rfl⟩ ?_
 rintro _ w6 ⟨t, H6, c', rfl, ht, hw6, hx6, hH6, hsz6, hc86, hV6, hold⟩
 refine iteP_dec (fun hlt => ?_) (fun hge => ?_)
 ·have hlt : t < 8 := by omega
  refine drewP_h hw6 fun w7 hw7 => ?_
  refine ixR_0 t rfl (by omega) ?_
  refine ixR_0 t rfl (by omega) ?_
  refine ld_h hw7 hH6 ((hold t (Nat.le_refl _)).trans (hS.at t (by omega))) ?_
  refine ld_h hw7 hc86 (hV.at t (by omega)) ?_
  refine addW _ _ ?_
  refine ixR_0 t rfl (by omega) ?_
  refine stC_h hw7 hH6 (by omega) fun w8 hw8 => ?_
  refine addI_to ((t + 1 : Nat) : Int) (by omega) (by omega) (by omega) ?_
  refine ⟨⟨t + 1, _, _, rfl, by omega, hw8, hx6.set_own (.inr (by simp)), set_new hH6, by simpa using hsz6, set_old hc86 (Ne.symm hne), hV6.snoc (by omega) rfl, ?_⟩, by omega⟩
  intro i hi
  rw [Array.getElem?_setIfInBounds_ne (by omega)]
  exact hold i (by omega)
 have ht8 : t = 8 := by omega
 subst ht8
 exact ⟨trivial, by rw [hw6]; exact hx6, c', by rw [hw6]; exact hH6, hsz6, hV6, hold⟩
end Go.Proofs.YtbmegmbnlajbbaaGreatDoor.Bl
namespace Go.Proofs.YtbmegmbnlajbbaaGreatDoor.Bl
open Go Go.Fw Go.Proofs
theorem nth_append_lt {D E : List UInt8} {i : Nat} (h : i < D.length) : Sha.nth (D ++ E) i = Sha.nth D i := by
 simp [Sha.nth, List.getD_eq_getElem?_getD, List.getElem?_append_left h]
theorem nth_append_ge {D E : List UInt8} {i : Nat} (h : D.length ≤ i) : Sha.nth (D ++ E) i = Sha.nth E (i - D.length) := by
 simp [Sha.nth, List.getD_eq_getElem?_getD, List.getElem?_append_right h]
theorem blocks_append {D E : List UInt8} : ∀ n, 64 * n ≤ D.length → Sha.blocks (D ++ E) n = Sha.blocks D n
 | 0, _ => rfl
 | n + 1, h => by
  simp only [Sha.blocks]
  rw [blocks_append n (by omega)]
  have : ∀ t, t < 16 → Sha.word (fun j => Sha.nth (D ++ E) (64 * n + j)) t = Sha.word (fun j => Sha.nth D (64 * n + j)) t := by
   intro t ht
   simp only [Sha.word]
   rw [nth_append_lt (by omega), nth_append_lt (by omega), nth_append_lt (by omega), nth_append_lt (by omega)]
  unfold Sha.comp
  rw [funext (Sha.W_congr this)]
def HashI (H : Heap) (p : Nat) (D : List UInt8) (n : Nat) : Prop :=
 ∃ c, H[p]? = some (.cells c y_sha_Hash (0, 0)) ∧ c.size = 74 ∧ Words c 0 (Sha.blocks D (D.length / 64)) 8 ∧ Bytes c 8 (fun i => Sha.nth D (64 * (D.length / 64) + i)) (D.length % 64) ∧
  c[72]? = some (.int .i64 ((D.length % 64 : Nat) : Int)) ∧ c[73]? = some (.int .i64 (n : Int)) ∧ AllOne c
def Rounds (H : Heap) : Prop := ∃ rc rT rfr, H[0]? = some (.cells rc rT rfr) ∧ Words rc 0 Sha.K 64
theorem Rounds.ext {M : List Nat} {H H' : Heap} (h : Rounds H) (hx : Ext M H H') (h0 : 0 ∉ M) : Rounds H' := by
 obtain ⟨rc, rT, rfr, h1, h2⟩ := h
 exact ⟨rc, rT, rfr, hx.get h1 h0, h2⟩
theorem HashI.ext {M : List Nat} {H H' : Heap} {p : Nat} {D : List UInt8} {n : Nat} (h : HashI H p D n) (hx : Ext M H H') (h0 : p ∉ M) : HashI H' p D n := by
 obtain ⟨c, h1, h2⟩ := h
 exact ⟨c, hx.get h1 h0, h2⟩
theorem u89 : P.underlying y_64_uint8 = some (.array 64 y_uint8) := by kernel_rfl
theorem u22 : P.underlying y_S_uint8 = some (.slice y_uint8) := by kernel_rfl
theorem i5 : (P.info? y_uint8).map (·.size) = some 1 := by kernel_rfl
set_option maxHeartbeats 4000000 in
theorem write_c {w : World} {H : Heap} {p l lc : Nat} {a : Option Addr} {D L : List UInt8} (hw : w.heap = H) (hD : HashI H p D D.length) (hL : Cells H a (byteCells L)) (hl : l = L.length) (hc : l ≤ lc)
  (hne : L ≠ [] → ∀ x, a = some x → x.block ≠ p) (hR : Rounds H) (h0 : p ≠ 0) (hlen : D.length + L.length < 4611686018427387904) :
  CallF P F_sha_Hash_Write #[.pointer (some ⟨p, 0, none⟩), .slice a l lc] w fun e w' => e = .returned (.tuple #[]) ∧ Ext [p] H w'.heap ∧ HashI w'.heap p (D ++ L) (D ++ L).length := by
 subst hl
 refine fn_sha_Hash_Write ?_
 unfold T_sha_Hash_Write
 refine iteP_f rfl ?_
 simp only [withAddr_some, add_none, Nat.zero_add]
 obtain ⟨c, hp, hsz, hS, hB, h72, h73, ha1⟩ := hD
 refine ld_h hw hp h73 ?_
 refine addI_to ((D.length + L.length : Nat) : Int) (by omega) (by omega) (by omega) ?_
 refine stC_h hw hp (by omega) fun w1 hw1 => ?_
 refine loopP_of (fun s w => ∃ (k : Nat) (H' : Heap), k ≤ L.length ∧ s.2.1 = L.length - k ∧ s.2.1 ≤ s.2.2 ∧ Cells H' s.1 (byteCells (L.drop k)) ∧ (L ≠ [] → ∀ x, s.1 = some x → x.block ≠ p) ∧ w.heap = H' ∧ Ext [p] H H' ∧
   HashI H' p (D ++ L.take k) (D.length + L.length)) (fun s _ => s.2.1) ?_ ?_
 ·refine ⟨0, _, by omega, by simp, hc, ?_, hne, hw1, Ext.set _ (by simp), _, set_new hp, by simpa using hsz, ?_, ?_, ?_, ?_, ha1.set rfl⟩
  ·exact hL.ext (Ext.set (M := [p]) _ (by simp)) (fun x hx hv => by simpa using hne (by rintro rfl; exact hv rfl) x hx)
  ·simp only [List.take_zero, List.append_nil]
   intro i hi
   rw [Array.getElem?_setIfInBounds_ne (by omega)]
   exact hS i hi
  ·simp only [List.take_zero, List.append_nil]
   intro i hi
   rw [Array.getElem?_setIfInBounds_ne (by omega)]
   exact hB i hi
  ·simp only [List.take_zero, List.append_nil]
   rw [Array.getElem?_setIfInBounds_ne (by omega)]
   exact h72
  ·simp [hsz]
 clear hw1 hp hsz hS hB h72 h73 hL ha1
 rintro ⟨sa, sl, sc⟩ w2 ⟨k, H2, hk, hsl, hsc, hC, hnb, hw2, hx, c2, hp2, hsz2, hS2, hB2, h72, h73, ha2⟩
 simp only at hsl hsc hC hnb
 have hEl : (D ++ L.take k).length = D.length + k := by simp; omega
 refine iteP_dec (fun hgt => ?_) (fun hle => ?_)
 ·have hlt : k < L.length := by simp only at hgt; omega
  have hnb := hnb (by rintro rfl; simp at hlt)
  refine joinP_in ?_
  refine drewP_h hw2 fun w3 hw3 => ?_
  refine ld_h hw3 hp2 h72 ?_
  generalize hu : (D ++ L.take k).length % 64 = u at *
  generalize hq : (D ++ L.take k).length / 64 = q at *
  have hu64 : u < 64 := by omega
  have hEq : D.length + k = 64 * q + u := by omega
  refine genQ_of (s := .slc) (some ⟨p, 8 + u, none⟩, 64 - u, 64 - u) ?_ ?_
  ·rw [run_slice_arr u89 i5 (.yes rfl) .no (by omega) (by omega), if_neg (by omega), add_none]
   simp [Sh.val]
  generalize hn : min sl (64 - u) = n
  have hnl : n ≤ L.length - k := by omega
  have hX : ((L.drop k).take n).length = n := by simp; omega
  obtain ⟨w4, hrun, hcm4, hw4⟩ := copy_h (P := P) (w := w3) (st := y_S_uint8) (xt := y_S_uint8) (ty := y_int) (od := 8 + u) (dl := 64 - u) (dc := 64 - u) (sl := sl) (sc := sc) (vs := byteCells ((L.drop k).take n)) u22 i5 hw3
   (by rw [← byteCells_take]; exact hC.take n) (by simp only [length_byteCells, hX]; omega) one_byteCells hp2 (by simp only [length_byteCells, hX]; omega)
  rw [hn] at hrun
  refine genL_of ((n : Nat) : Int) w4 hrun ?_ hcm4
  generalize hXX : (L.drop k).take n = X at *
  have hE' : D ++ L.take (k + n) = (D ++ L.take k) ++ X := by rw [← hXX, List.append_assoc, ← List.take_add]
  have hp4 : (H2.setIfInBounds p (.cells (setCells c2 (8 + u) (byteCells X)) y_sha_Hash (0, 0)))[p]? = some (.cells (setCells c2 (8 + u) (byteCells X)) y_sha_Hash (0, 0)) := set_new hp2
  have hg : ∀ i, (setCells c2 (8 + u) (byteCells X))[i]? = if 8 + u ≤ i ∧ i < 8 + u + n then (byteCells X)[i - (8 + u)]? else c2[i]? := by
   intro i; rw [get_setCells (by simp only [length_byteCells]; omega)]; simp only [length_byteCells, hX]
  have hS4 : Words (setCells c2 (8 + u) (byteCells X)) 0 (Sha.blocks (D ++ L.take k) q) 8 := fun i hi => by rw [hg, if_neg (by omega)]; exact hS2 i hi
  have hB4 : Bytes (setCells c2 (8 + u) (byteCells X)) 8 (fun i => Sha.nth (D ++ L.take (k + n)) (64 * q + i)) (u + n) := by
   intro i hi
   rw [hg, hE']
   by_cases hiu : i < u
   ·rw [if_neg (by omega), hB2 i hiu]
    simp only
    rw [nth_append_lt (D := D ++ L.take k) (E := X) (by omega)]
   ·rw [if_pos (by omega), byteCells_get (by omega)]
    simp only
    rw [nth_append_ge (D := D ++ L.take k) (E := X) (by omega)]
    have : 8 + i - (8 + u) = 64 * q + i - (D ++ L.take k).length := by omega
    rw [this]
    rfl
  refine drewP_h hw4 fun w5 hw5 => ?_
  refine ld_h (t := ((u : Nat) : Int)) hw5 hp4 (by rw [hg, if_neg (by omega)]; exact h72) ?_
  refine addI_to ((u + n : Nat) : Int) (by omega) (by omega) (by omega) ?_
  have hsl5 : ∀ w, (Instr.sliceAt y_S_uint8 (.slice sa sl sc) (some (.int .i64 (n : Int))) none none).run P w = .ok (.slice (if sc = n then sa else sa.map (·.add (n * 1))) (sl - n) (sc - n)) w :=
   fun w => run_slice_slc u22 i5 (.yes rfl) .no (by omega) (by omega)
  refine genQ_of (s := .slc) (if sc = n then sa else sa.map (·.add (n * 1)), sl - n, sc - n) (hsl5 _) ?_
  refine stC_h hw5 hp4 (by simp; omega) fun w6 hw6 => ?_
  refine ⟨genQ_of (s := .slc) (if sc = n then sa else sa.map (·.add (n * 1)), sl - n, sc - n) (hsl5 _) rfl, ?_⟩
  rw [set_set] at hw6
  have hp6 : (H2.setIfInBounds p (.cells ((setCells c2 (8 + u) (byteCells X)).setIfInBounds 72 (.int .i64 ((u + n : Nat) : Int))) y_sha_Hash (0, 0)))[p]? = some (.cells ((setCells c2 (8 + u) (byteCells X)).setIfInBounds 72 (.int .i64 ((u + n : Nat) : Int))) y_sha_Hash (0, 0)) := set_new hp2
  have ha6 : AllOne ((setCells c2 (8 + u) (byteCells X)).setIfInBounds 72 (.int .i64 ((u + n : Nat) : Int))) := (ha2.setCells one_byteCells).set rfl
  generalize hc6 : (setCells c2 (8 + u) (byteCells X)).setIfInBounds 72 (.int .i64 ((u + n : Nat) : Int)) = c6 at *
  have hsz6 : c6.size = 74 := by rw [← hc6]; simp; omega
  have h726 : c6[72]? = some (.int .i64 ((u + n : Nat) : Int)) := by rw [← hc6]; simp [hsz2]
  have hg6 : ∀ i, i ≠ 72 → c6[i]? = (setCells c2 (8 + u) (byteCells X))[i]? := fun i hi => by rw [← hc6, Array.getElem?_setIfInBounds_ne (Ne.symm hi)]
  have hS6 : Words c6 0 (Sha.blocks (D ++ L.take k) q) 8 := fun i hi => by rw [hg6 _ (by omega)]; exact hS4 i hi
  have hB6 : Bytes c6 8 (fun i => Sha.nth (D ++ L.take (k + n)) (64 * q + i)) (u + n) := fun i hi => by rw [hg6 _ (by omega)]; exact hB4 i hi
  have h736 : c6[73]? = some (.int .i64 ((D.length + L.length : Nat) : Int)) := by rw [hg6 _ (by omega), hg, if_neg (by omega)]; exact h73
  have hx6 : Ext [p] H2 (H2.setIfInBounds p (.cells c6 y_sha_Hash (0, 0))) := Ext.set _ (by simp)
  have hE'l : (D ++ L.take (k + n)).length = D.length + k + n := by simp; omega
  have hC6 : Cells (H2.setIfInBounds p (.cells c6 y_sha_Hash (0, 0))) (if sc = n then sa else sa.map (·.add (n * 1))) (byteCells (L.drop (k + n))) := by
   have := (hC.ext hx6 (fun x hx _ => by simpa using hnb x hx)).drop n sc (by simp; omega)
   rw [byteCells_drop, List.drop_drop] at this
   rw [Nat.mul_one]
   exact this
  have hnb6 : ∀ x, (if sc = n then sa else sa.map (·.add (n * 1))) = some x → x.block ≠ p := by
   intro x hx'
   split at hx'
   ·exact hnb x hx'
   ·cases sa with
    | none => simp at hx'
    | some y =>
     simp only [Option.map_some, Option.some.injEq] at hx'
     subst hx'
     have := hnb y rfl
     unfold Addr.add
     split <;> exact this
  refine ld_h hw6 hp6 h726 ?_
  refine iteP_eq (fun h64 => ?_) (fun hn64 => ?_)
  ·have h64 : u + n = 64 := by omega
   refine genQ_of (s := .slc) (some ⟨p, 8, none⟩, 64, 64) ?_ ?_
   ·rw [run_slice_arr u89 i5 .no .no (by omega) (by omega), if_neg (by omega), add_none]
    rfl
   obtain ⟨rc, rT, rfr, hr1, hr2⟩ := (hR.ext hx (by simp; omega)).ext hx6 (by simp; omega)
   refine callF_of (mix_c (l := 64) (lc := 64) hw6 hp6 hsz6 hS6 hp6 (by rw [← h64]; exact hB6) (by omega) hr1 hr2 h0) ?_
   rintro e w7 ⟨rfl, hx7, c7, hp7, hsz7, hS7, hold7⟩
   refine ⟨(), rfl, ?_⟩
   refine stC_h rfl hp7 (by omega) fun w8 hw8 => ?_
   refine ⟨⟨k + n, _, by omega, by simp only; omega, by simp only; omega, hC6.ext (hx7.trans (Ext.set (M := [p]) _ (by simp))) (fun x hx _ => by simpa using hnb6 x hx), fun _ => hnb6, hw8, (hx.trans hx6).trans (hx7.trans (Ext.set _ (by simp))), _, set_new hp7, by simpa using hsz7, ?_, ?_, ?_, ?_, AllOne.set ?_ rfl⟩, ?_⟩
   ·have e1 : (D ++ L.take (k + n)).length / 64 = q + 1 := by omega
    rw [e1]
    simp only [Sha.blocks]
    rw [show Sha.blocks (D ++ L.take (k + n)) q = Sha.blocks (D ++ L.take k) q from by rw [hE']; exact blocks_append q (by omega)]
    intro i hi
    rw [Array.getElem?_setIfInBounds_ne (by omega)]
    exact hS7 i hi
   ·have e1 : (D ++ L.take (k + n)).length % 64 = 0 := by omega
    rw [e1]
    intro i hi; omega
   ·have e1 : (D ++ L.take (k + n)).length % 64 = 0 := by omega
    rw [e1]
    simp [hsz7]
   ·rw [Array.getElem?_setIfInBounds_ne (by omega), hold7 _ (by omega)]
    exact h736
   ·intro i v hv
    by_cases hi : i < 8
    ·rw [hS7.at i hi] at hv; cases hv; rfl
    ·rw [hold7 i (by omega)] at hv; exact ha6 i v hv
   ·simp only; omega
  ·have hlt64 : u + n < 64 := by omega
   have e1 : (D ++ L.take (k + n)).length / 64 = q := by omega
   have e2 : (D ++ L.take (k + n)).length % 64 = u + n := by omega
   refine ⟨⟨k + n, _, by omega, by simp only; omega, by simp only; omega, hC6, fun _ => hnb6, hw6, hx.trans hx6, _, hp6, hsz6, ?_, ?_, ?_, h736, ha6⟩, ?_⟩
   ·rw [e1, show Sha.blocks (D ++ L.take (k + n)) q = Sha.blocks (D ++ L.take k) q from by rw [hE']; exact blocks_append q (by omega)]
    exact hS6
   ·rw [e1, e2]; exact hB6
   ·rw [e2]; exact h726
   ·simp only; omega
 ·have hkl : k = L.length := by simp only at hle; omega
  subst hkl
  rw [List.take_length] at *
  refine ⟨trivial, by rw [hw2]; exact hx, ?_⟩
  rw [hw2]
  exact ⟨c2, hp2, hsz2, hS2, hB2, h72, by rw [List.length_append]; exact h73, ha2⟩
end Go.Proofs.YtbmegmbnlajbbaaGreatDoor.Bl
namespace Go.Proofs.YtbmegmbnlajbbaaGreatDoor.Bl
open Go Go.Fw Go.Proofs
def c91 : Array Value := ((W32 Sha.init 8).toList ++ List.replicate 64 (Value.int .u8 0) ++ [Value.int .i64 0, Value.int .i64 0]).toArray
theorem build65i (w : World) : (Instr.build y_8_uint32 #[(0, .int .u32 1779033703), (1, .int .u32 3144134277), (2, .int .u32 1013904242), (3, .int .u32 2773480762), (4, .int .u32 1359893119), (5, .int .u32 2600822924), (6, .int .u32 528734635), (7, .int .u32 1541459225)]).run P w = .ok (.agg (W32 Sha.init 8)) w := by
 kernel_rfl
theorem build91 (w : World) : (Instr.build y_sha_Hash #[(0, .agg (W32 Sha.init 8))]).run P w = .ok (.agg c91) w := by kernel_rfl
theorem u65 : P.underlying y_8_uint32 = some (.array 8 y_uint32) := by kernel_rfl
theorem u64 : P.underlying y_uint32 = some (.int .u32) := by kernel_rfl
theorem i64 : (P.info? y_uint32).map (·.size) = some 1 := by kernel_rfl
theorem u92 : P.underlying y_8_uint8 = some (.array 8 y_uint8) := by kernel_rfl
theorem zc27 : zc P y_api_Digest = (List.replicate 32 (Value.int .u8 0)).toArray := by kernel_rfl
theorem zc91s : (zc P y_sha_Hash).size = 74 := by kernel_rfl
theorem zc92 : zc P y_8_uint8 = (List.replicate 8 (Value.int .u8 0)).toArray := by kernel_rfl
theorem size91 : P.cellsOf y_sha_Hash = 74 := by kernel_rfl
theorem size27 : P.cellsOf y_api_Digest = 32 := by kernel_rfl
theorem bs22 (x : Int) (w : World) : (Instr.buildSlice y_S_uint8 1 #[(0, .int .u8 x)]).run P w = .ok (.slice (some ⟨w.heap.size, 0, none⟩) 1 1) { w with heap := w.heap.push (.cells #[.int .u8 x] y_uint8) } := by kernel_rfl
theorem new_c {w : World} {H : Heap} (hw : w.heap = H) : CallF P F_sha_New #[] w fun e w' => e = .returned (.pointer (some ⟨H.size, 0, none⟩)) ∧ w'.heap = H.push (.cells c91 y_sha_Hash) ∧ HashI w'.heap H.size [] 0 := by
 refine fn_sha_New ?_
 unfold T_sha_New
 refine genQ_of (s := .any) _ (build65i w) ?_
 refine genQ_of (s := .any) _ (build91 w) ?_
 refine newB_h hw fun w1 hw1 => ?_
 refine ⟨rfl, hw1, ?_⟩
 rw [hw1]
 refine ⟨c91, push_new, rfl, ?_, ?_, rfl, rfl, ?_⟩
 ·intro i hi
  match i, hi with
  | 0, _ => rfl
  | 1, _ => rfl
  | 2, _ => rfl
  | 3, _ => rfl
  | 4, _ => rfl
  | 5, _ => rfl
  | 6, _ => rfl
  | 7, _ => rfl
 ·intro i hi; simp at hi
 ·intro i v hv
  have : v ∈ c91.toList := by
   have := Array.mem_of_getElem? hv
   exact Array.mem_toList_iff.2 this
  simp only [c91, List.mem_append, List.mem_replicate, List.mem_cons] at this
  rcases this with (h | ⟨_, rfl⟩) | rfl | rfl | h
  ·exact one_W32 v h
  ·rfl
  ·rfl
  ·rfl
  ·cases h
theorem ix65 {c : Array Value} {i : Nat} {v : Value} (hc : c[i]? = some v) (hi : i < 8) (w : World) : (Instr.index y_8_uint32 (.agg c) (.int .i64 (i : Int))).run P w = .ok v w := by
 have hag : (isAgg 64).run P w = .ok false w := by simp [isAgg, run_underlying' u64]
 have h1 : (i : Int) < ((8 : Nat) : Int) := by omega
 simp only [Instr.index, asIntOf, Sem.run_bind, Sem.run_pure, Result.andThen_ok, run_underlying' u65]
 rw [if_pos ⟨by omega, h1⟩]
 simp [run_sizeOf_info i64, part, hag, hc]
set_option maxHeartbeats 4000000 in
theorem hsum_c {w : World} {H : Heap} {p : Nat} {D : List UInt8} (hw : w.heap = H) (hD : HashI H p D D.length) (hR : Rounds H) (hlen : D.length < 1152921504606846976) :
  CallF P F_sha_Hash_Sum #[.pointer (some ⟨p, 0, none⟩)] w fun e w' => e = .returned (arr (Sha.sum D)) ∧ Ext [] H w'.heap := by
 refine fn_sha_Hash_Sum ?_
 unfold T_sha_Hash_Sum
 refine newB_h hw fun w1 hw1 => ?_
 refine joinP_in ?_
 refine iteP_f rfl ?_
 simp only [withAddr_some]
 have hH0 : 0 < H.size := by obtain ⟨_, _, _, h, _⟩ := hR; exact lt_of_get h
 obtain ⟨c, hp, hsz, hS, hB, h72, h73, ha⟩ := hD
 have hpl := lt_of_get hp
 refine ldA_all hw1 (push_old hp) hsz ?_
 refine newB_h hw1 fun w2 hw2 => ?_
 refine storeVar_h (size91.trans (by simpa [Value.cells] using hsz.symm)) (by simp only [Value.cells]; omega) ha.one hw2 push_new (by rw [zc91s]; simp [Value.cells]; omega) fun w3 hw3 => ?_
 rw [show setCells (zc P y_sha_Hash) 0 (Value.cells (.agg c)).toList = c from by rw [setCells_all (by rw [zc91s]; simpa [Value.cells] using hsz)]; simp [Value.cells]] at hw3
 generalize hb3 : (H.push (Obj.cells (zc P y_api_Digest) y_api_Digest)).size = b3 at *
 have hb3' : b3 = H.size + 1 := by rw [← hb3]; simp
 generalize hH3 : ((H.push (Obj.cells (zc P y_api_Digest) y_api_Digest)).push (Obj.cells (zc P y_sha_Hash) y_sha_Hash)).setIfInBounds b3 (Obj.cells c y_sha_Hash (0, 0)) = H3 at *
 have hx3 : Ext [] H H3 := by rw [← hH3]; exact ((Ext.push _).push_own).set_own (.inl (by omega))
 have hp3 : H3[b3]? = some (.cells c y_sha_Hash (0, 0)) := by rw [← hH3]; exact set_new (by rw [← hb3]; exact push_new)
 have h23 : H3[H.size]? = some (.cells (zc P y_api_Digest) y_api_Digest (0, 0)) := by rw [← hH3]; exact set_old (push_old push_new) (by omega)
 have hD3 : HashI H3 b3 D D.length := ⟨c, hp3, hsz, hS, hB, h72, h73, ha⟩
 have hR3 := hR.ext hx3 (by simp)
 refine ld_h hw3 hp3 h73 ?_
 refine cvI_u64 (by omega) (by omega) ?_
 refine mul64u ((8 * D.length : Nat) : Int) (by omega) (by omega) (by omega) ?_
 refine genL_of (s := .slc) (some ⟨H3.size, 0, none⟩, 1, 1) _ (by rw [bs22 128 w3, hw3]; rfl) ?_
 have hx4 : Ext [] H3 (H3.push (Obj.cells #[Value.int .u8 128] y_uint8)) := .push _
 have hb3l := lt_of_get hp3
 refine callF_of (write_c (w := { w3 with heap := H3.push (Obj.cells #[Value.int .u8 128] y_uint8) }) (L := [128]) rfl (hD3.ext hx4 (by simp)) (cells_bytes (H := H3.push (Obj.cells #[Value.int .u8 128] y_uint8)) push_new (by simp) ?_) rfl (by simp) ?_ (hR3.ext hx4 (by simp)) (by omega) (by simp; omega)) ?_
 ·intro i hi
  obtain rfl : i = 0 := by simp at hi; omega
  rfl
 ·intro _ x hx; cases hx; simp only; omega
 rintro e w5 ⟨rfl, hx5, hD5⟩
 refine ⟨(), rfl, ?_⟩
 have hx35 : Ext [b3] H3 w5.heap := (hx4.mono (by simp)).trans hx5
 clear hx5 hx4
 refine loopP_ix (fun m _ w => ∃ (j : Nat) (H' : Heap), j + m = (119 - D.length % 64) % 64 ∧ w.heap = H' ∧ Ext [b3] H3 H' ∧ HashI H' b3 (D ++ [128] ++ List.replicate j 0) (D ++ [128] ++ List.replicate j 0).length)
  ((119 - D.length % 64) % 64) ⟨0, _, by omega, rfl, hx35, by simpa using hD5⟩ ?_
 clear hx35 hD5
 rintro m _ w6 ⟨j, H6, hj, hw6, hx6, c6, hp6, hsz6, hS6, hB6, h726, h736, ha6⟩ K hK
 have hl6 : (D ++ [128] ++ List.replicate j 0).length = D.length + 1 + j := by simp only [List.length_append, List.length_singleton, List.length_replicate]
 rw [hl6] at h726 h736
 refine ld_h hw6 hp6 h726 ?_
 refine iteP_ne (fun hne => ?_) (fun h56 => ?_)
 ·have hjlt : j < (119 - D.length % 64) % 64 := by omega
  have hx7 : Ext [b3] H6 (H6.push (Obj.cells #[Value.int .u8 0] y_uint8)) := .push _
  have hb3l6 := lt_of_get hp6
  refine genL_of (s := .slc) (some ⟨H6.size, 0, none⟩, 1, 1) _ (by rw [bs22 0 w6, hw6]; rfl) ?_
  refine callF_of (write_c (w := { w6 with heap := H6.push (Obj.cells #[Value.int .u8 0] y_uint8) }) (D := D ++ [128] ++ List.replicate j 0) (L := [0]) rfl ⟨c6, push_old hp6, hsz6, hS6, hB6, by rw [hl6]; exact h726, by rw [hl6]; exact h736, ha6⟩
   (cells_bytes (H := H6.push (Obj.cells #[Value.int .u8 0] y_uint8)) push_new (by simp) ?_) rfl (by simp) ?_ ((hR3.ext hx6 (by simp; omega)).ext hx7 (by simp; omega)) (by omega) (by rw [hl6]; simp; omega)) ?_
  ·intro i hi
   obtain rfl : i = 0 := by simp at hi; omega
   rfl
  ·intro _ x hx; cases hx; simp only; omega
  rintro e w8 ⟨rfl, hx8, hD8⟩
  refine ⟨(), rfl, ?_⟩
  have hrep : D ++ [128] ++ List.replicate j 0 ++ [0] = D ++ [128] ++ List.replicate (j + 1) 0 := by
   rw [List.append_assoc, ← List.replicate_succ']
  rw [hrep] at hD8
  exact hK (m - 1) _ _ (by omega) ⟨j + 1, _, by omega, rfl, hx6.trans (hx7.trans hx8), hD8⟩
 have hjz : j = (119 - D.length % 64) % 64 := by omega
 subst hjz
 refine newB_h hw6 fun w7 hw7 => ?_
 have hb3l6 := lt_of_get hp6
 refine loopP_of (fun s w => ∃ (i : Nat) (H' : Heap) (c5 : Array Value), s = (i : Int) ∧ i ≤ 8 ∧ w.heap = H' ∧ Ext [] H6 H' ∧ H'[H6.size]? = some (.cells c5 y_8_uint8 (0, 0)) ∧ c5.size = 8 ∧ Bytes c5 0 (fun i => UInt8.ofNat (8 * D.length / 2 ^ (56 - 8 * i))) i)
  (fun s _ => (8 - s).toNat) ⟨0, _, _, rfl, by omega, hw7, .push _, push_new, by rw [zc92]; simp, fun i hi => by omega⟩ ?_
 rintro _ w8 ⟨i, H8, c5, rfl, hi, hw8, hx8, hp8, hsz8, hB8⟩
 refine iteP_dec (fun hlt => ?_) (fun hge => ?_)
 ·have hlt : i < 8 := by omega
  refine mulI_to ((8 * i : Nat) : Int) (by omega) (by omega) (by omega) ?_
  refine subI_to ((56 - 8 * i : Nat) : Int) (by omega) (by omega) (by omega) ?_
  refine shr64 (56 - 8 * i) rfl (by omega) ?_
  refine cv8 ?_
  refine ixR_0 i rfl (by omega) ?_
  refine stC_h hw8 hp8 (by omega) fun w9 hw9 => ?_
  refine addI_to ((i + 1 : Nat) : Int) (by omega) (by omega) (by omega) ?_
  refine ⟨⟨i + 1, _, _, rfl, by omega, hw9, hx8.set_own (.inl (Nat.le_refl _)), set_new hp8, by simpa using hsz8, hB8.snoc (by omega) rfl⟩, by omega⟩
 have hi8 : i = 8 := by omega
 subst hi8
 refine genQ_of (s := .slc) (some ⟨H6.size, 0, none⟩, 8, 8) (by rw [run_slice_arr u92 i5 .no .no (by omega) (by omega), if_neg (by omega), add_none]; rfl) ?_
 have hl6' : (D ++ [128] ++ List.replicate ((119 - D.length % 64) % 64) (0 : UInt8)).length = D.length + 1 + (119 - D.length % 64) % 64 := by simp only [List.length_append, List.length_singleton, List.length_replicate]
 refine callF_of (write_c (D := D ++ [128] ++ List.replicate ((119 - D.length % 64) % 64) 0) (L := Sha.be8 (D.length * 8)) hw8 ⟨c6, hx8.get hp6 (by simp), hsz6, hS6, hB6, by rw [hl6]; exact h726, by rw [hl6]; exact h736, ha6⟩
  (cells_bytes hp8 (by simp [Sha.be8]; omega) ?_) (by simp [Sha.be8]) (by omega) ?_ ((hR3.ext hx6 (by simp; omega)).ext hx8 (by simp)) (by omega) (by rw [hl6]; simp [Sha.be8]; omega)) ?_
 ·intro i hi
  have hi : i < 8 := by simpa [Sha.be8] using hi
  rw [hB8 i hi]
  simp [Sha.be8, hi, Nat.mul_comm]
 ·intro _ x hx; cases hx; simp only; omega
 rintro e w9 ⟨rfl, hx9, hD9⟩
 refine ⟨(), rfl, ?_⟩
 have hpad : D ++ [128] ++ List.replicate ((119 - D.length % 64) % 64) 0 ++ Sha.be8 (D.length * 8) = Sha.pad D := rfl
 rw [hpad] at hD9
 obtain ⟨c9, hp9, hsz9, hS9, _⟩ := hD9
 refine newB_h rfl fun w10 hw10 => ?_
 refine ldA_h hw10 (push_old hp9) (by omega) ?_
 rw [hS9.extract (by omega)]
 generalize hs : Sha.blocks (Sha.pad D) ((Sha.pad D).length / 64) = s at *
 have hx39 : Ext [b3] H3 w9.heap := hx6.trans ((hx8.mono (by simp)).trans hx9)
 refine loopP_of (fun s' w => ∃ (i : Nat) (H' : Heap) (c7 : Array Value), s' = (i : Int) ∧ i ≤ 8 ∧ w.heap = H' ∧ Ext [] w9.heap H' ∧ H'[w9.heap.size]? = some (.cells c7 y_api_Digest (0, 0)) ∧ c7.size = 32 ∧ Bytes c7 0 (Sha.out s) (4 * i))
  (fun s _ => (8 - s).toNat) ⟨0, _, _, rfl, by omega, hw10, .push _, push_new, by rw [zc27]; simp, fun i hi => by omega⟩ ?_
 rintro _ w11 ⟨i, H11, c7, rfl, hi, hw11, hx11, hp11, hsz11, hB11⟩
 refine iteP_dec (fun hlt => ?_) (fun hge => ?_)
 ·have hlt : i < 8 := by omega
  refine genQ_of (s := .int .u32) _ (ix65 (words_W32.at i hlt) hlt _) ?_
  refine mulI_to ((4 * i : Nat) : Int) (by omega) (by omega) (by omega) ?_
  refine mulI_to ((4 * i : Nat) : Int) (by omega) (by omega) (by omega) ?_
  refine addI_to ((4 * i + 1 : Nat) : Int) (by omega) (by omega) (by omega) ?_
  refine mulI_to ((4 * i : Nat) : Int) (by omega) (by omega) (by omega) ?_
  refine addI_to ((4 * i + 2 : Nat) : Int) (by omega) (by omega) (by omega) ?_
  refine mulI_to ((4 * i : Nat) : Int) (by omega) (by omega) (by omega) ?_
  refine addI_to ((4 * i + 3 : Nat) : Int) (by omega) (by omega) (by omega) ?_
  refine shrW _ 24 rfl (by omega) ?_
  refine cvL _ ?_
  refine shrW _ 16 rfl (by omega) ?_
  refine cvL _ ?_
  refine shrW _ 8 rfl (by omega) ?_
  refine cvL _ ?_
  refine cvL _ ?_
  refine ixR_0 (4 * i) rfl (by omega) ?_
  refine stC_h hw11 hp11 (by omega) fun w12 hw12 => ?_
  refine ixR_0 (4 * i + 1) rfl (by omega) ?_
  refine stC_h hw12 (set_new hp11) (by simp; omega) fun w13 hw13 => ?_
  rw [set_set] at hw13
  refine ixR_0 (4 * i + 2) rfl (by omega) ?_
  refine stC_h hw13 (set_new hp11) (by simp; omega) fun w14 hw14 => ?_
  rw [set_set] at hw14
  refine ixR_0 (4 * i + 3) rfl (by omega) ?_
  refine stC_h hw14 (set_new hp11) (by simp; omega) fun w15 hw15 => ?_
  rw [set_set] at hw15
  refine addI_to ((i + 1 : Nat) : Int) (by omega) (by omega) (by omega) ?_
  refine ⟨⟨i + 1, _, _, rfl, by omega, hw15, hx11.set_own (.inl (Nat.le_refl _)), set_new hp11, by simp; omega, ?_⟩, by omega⟩
  have o0 : Sha.out s (4 * i) = lo8 (s i >>> 24) := by
   unfold Sha.out; rw [show 4 * i / 4 = i from by omega, show 4 * i % 4 = 0 from by omega]
  have o1 : Sha.out s (4 * i + 1) = lo8 (s i >>> 16) := by
   unfold Sha.out; rw [show (4 * i + 1) / 4 = i from by omega, show (4 * i + 1) % 4 = 1 from by omega]
  have o2 : Sha.out s (4 * i + 2) = lo8 (s i >>> 8) := by
   unfold Sha.out; rw [show (4 * i + 2) / 4 = i from by omega, show (4 * i + 2) % 4 = 2 from by omega]
  have o3 : Sha.out s (4 * i + 3) = lo8 (s i) := by
   unfold Sha.out; rw [show (4 * i + 3) / 4 = i from by omega, show (4 * i + 3) % 4 = 3 from by omega]; simp
  exact ((((hB11.snoc (by omega) o0.symm).snoc (by simp; omega) o1.symm).snoc (by simp; omega) o2.symm).snoc (by simp; omega) o3.symm)
 have hi8 : i = 8 := by omega
 subst hi8
 refine ldA_all hw11 hp11 hsz11 ?_
 have hc7 : c7 = B8 (Sha.out s) 32 := by
  have := hB11.extract (by omega)
  rw [← this]
  exact (Array.extract_eq_self_of_le (by omega)).symm
 subst hc7
 have h211 : H11[H.size]? = some (.cells (zc P y_api_Digest) y_api_Digest (0, 0)) := hx11.get (hx39.get h23 (by simp; omega)) (by simp)
 refine storeVar_h (size27.trans (by simp [Value.cells])) (by simp [Value.cells]) one_B8 hw11 h211 (by rw [zc27]; simp [Value.cells]) fun w12 hw12 => ?_
 rw [show setCells (zc P y_api_Digest) 0 (Value.cells (.agg (B8 (Sha.out s) 32))).toList = B8 (Sha.out s) 32 from by rw [setCells_all (by rw [zc27]; simp [Value.cells])]; simp [Value.cells]] at hw12
 refine ldA_all hw12 (set_new h211) (by simp) ?_
 refine ⟨?_, ?_⟩
 ·unfold arr Sha.sum B8 byteCells
  rw [hs]
  simp
 ·rw [hw12]
  refine Ext.set_own ?_ (.inl (Nat.le_refl _))
  exact hx3.own (hx39.trans (hx11.mono (by simp))) (by simp; omega)
theorem len_sum {L : List UInt8} : (Sha.sum L).length = 32 := by simp [Sha.sum]
theorem cells_arr {L : List UInt8} : (arr L).cells.size = L.length := by simp [arr, Value.cells, byteCells]
theorem sum_c {w : World} {H : Heap} {a : Option Addr} {l lc : Nat} {L : List UInt8} (hw : w.heap = H) (hL : Cells H a (byteCells L)) (hl : l = L.length) (hc : l ≤ lc) (hR : Rounds H) (hlen : L.length < 1152921504606846976) :
  CallF P F_sha_Sum #[.slice a l lc] w fun e w' => e = .returned (arr (Sha.sum L)) ∧ Ext [] H w'.heap := by
 refine fn_sha_Sum ?_
 unfold T_sha_Sum
 refine newB_h hw fun w1 hw1 => ?_
 have hps : (H.push (Obj.cells (zc P y_api_Digest) y_api_Digest (0, 0))).size = H.size + 1 := by simp
 have hx1 : Ext [] H (H.push (.cells (zc P y_api_Digest) y_api_Digest)) := .push _
 refine callF_of (new_c hw1) ?_
 rintro e w2 ⟨rfl, hw2, hD2⟩
 refine ⟨_, rfl, ?_⟩
 have hx2 : Ext [] H w2.heap := by rw [hw2]; exact hx1.push_own
 have h2 : w2.heap[H.size]? = some (.cells (zc P y_api_Digest) y_api_Digest (0, 0)) := by rw [hw2]; exact push_old push_new
 have hH0 : 0 < H.size := by obtain ⟨_, _, _, h, _⟩ := hR; exact lt_of_get h
 refine callF_of (write_c (D := []) (L := L) rfl hD2 (hL.ext hx2 (by simp)) hl hc (fun hne x hx => by obtain ⟨y, hy, hlt⟩ := hL.lt (by simpa [byteCells] using hne); rw [hx] at hy; cases hy; omega) (hR.ext hx2 (by simp)) (by simp) (by simp; omega)) ?_
 rintro e w3 ⟨rfl, hx3, hD3⟩
 refine ⟨(), rfl, ?_⟩
 rw [List.nil_append] at hD3
 have hx23 : Ext [] H w3.heap := hx2.own hx3 (by simp)
 have h3 : w3.heap[H.size]? = some (.cells (zc P y_api_Digest) y_api_Digest (0, 0)) := hx3.get h2 (by simp)
 refine callF_of (hsum_c rfl hD3 (hR.ext hx23 (by simp)) hlen) ?_
 rintro e w4 ⟨rfl, hx4⟩
 refine ⟨arr (Sha.sum L), rfl, ?_⟩
 refine storeVar_h (size27.trans (by rw [cells_arr, len_sum])) (by rw [cells_arr, len_sum]; omega) ?_ rfl (hx4.get h3 (by simp)) (by rw [zc27, cells_arr, len_sum]; simp) fun w5 hw5 => ?_
 ·intro v hv
  simp only [arr, Value.cells] at hv
  exact one_byteCells v hv
 rw [show setCells (zc P y_api_Digest) 0 (Value.cells (arr (Sha.sum L))).toList = (byteCells (Sha.sum L)).toArray from by rw [setCells_all (by rw [zc27, Array.length_toList, cells_arr, len_sum]; simp)]; simp [Value.cells, arr]] at hw5
 refine ldA_all hw5 (set_new (hx4.get h3 (by simp))) (by simp [byteCells, len_sum]) ?_
 exact ⟨rfl, by rw [hw5]; exact (hx23.own hx4 (by simp)).set_own (.inl (Nat.le_refl _))⟩
end Go.Proofs.YtbmegmbnlajbbaaGreatDoor.Bl
namespace Go.Proofs.YtbmegmbnlajbbaaGreatDoor.Bl
open Go Go.Fw Go.Proofs
theorem size66 : P.cellsOf y_64_uint32 = 64 := by kernel_rfl
theorem constant_c {w : World} {H : Heap} {t : Nat} (hw : w.heap = H) (ht : t < 64) : CallF P F_r01_constant #[.int .i64 (t : Int)] w fun e w' => e = .returned (.int .u32 ((Sha.K t).toNat : Int)) ∧ Ext [] H w'.heap := by
 refine fn_r01_constant ?_
 unfold T_r01_constant
 refine genQ_of (s := .any) (.agg (W32 Sha.K 64)) (by kernel_rfl) ?_
 refine newB_h hw fun w1 hw1 => ?_
 refine storeVar_h (size66.trans (by simp [Value.cells])) (by simp [Value.cells]) one_W32 hw1 push_new (by rw [zc66]; simp [Value.cells]) fun w2 hw2 => ?_
 rw [show setCells (zc P y_64_uint32) 0 (Value.cells (.agg (W32 Sha.K 64))).toList = W32 Sha.K 64 from by rw [setCells_all (by rw [zc66]; simp [Value.cells])]; simp [Value.cells]] at hw2
 refine ixR_0 t rfl ht ?_
 refine ld_h hw2 (set_new push_new) (words_W32.at t ht) ?_
 exact ⟨rfl, by rw [hw2]; exact (Ext.push _).set_own (.inl (Nat.le_refl _))⟩
theorem i5a : (P.info? y_uint8).map (fun i => (i.size, i.bytes, i.zero)) = some (1, 1, some (.int .u8 0)) := by kernel_rfl
theorem i5x : ∃ i, P.info? y_uint8 = some i ∧ i.size = 1 ∧ i.bytes = 1 ∧ i.zero = some (.int .u8 0) := by
 have h := i5a
 revert h
 cases P.info? y_uint8 with
 | none => intro h; cases h
 | some i => intro h; simp only [Option.map_some, Option.some.injEq, Prod.mk.injEq] at h; exact ⟨i, rfl, h.1, h.2.1, h.2.2⟩
theorem append22 {w : World} {H : Heap} {B : Nat} {x : Option Addr × Nat × Nat} {y : Value} {n : Nat} {vs us : List Value} (hw : w.heap = H) (hown : Mine H B y_uint8 1 x vs) (hB : B ≤ H.size) (hsrc : Src P w y 1 n us) (h1 : oneCells us)
  (hroom : (2 * (x.2.1 + n) + 192) ≤ 281474976710656) {K : (Option Addr × Nat × Nat) → World → Prop}
  (hK : ∀ x' w', Mine w'.heap B y_uint8 1 x' (vs ++ us) → x'.2.1 = x.2.1 + n → Ext (ownM x) H w'.heap → (∀ b, b ∈ ownM x' → b ∈ ownM x ∨ H.size ≤ b) → K x' w') :
  genL P (Builtin.append_ #[y_S_uint8, y_S_uint8] y_S_uint8 #[.slice x.1 x.2.1 x.2.2, y]) .slc w K := by
 obtain ⟨i, hi, hs, hb, hz⟩ := i5x
 obtain ⟨x', w', h1, hcm, h2, h3, h4, h5⟩ := append_h (ty := y_S_uint8) u22 ⟨_, u22, by intro k h; cases h⟩ hi hs hz rfl (by omega) hw hown hB hsrc h1 (by rw [hb]; omega)
 exact ⟨x', w', h1, hcm, hK x' w' h2 h3 h4 h5⟩
theorem push_byte {w : World} {H0 H : Heap} {B : Nat} {x : Option Addr × Nat × Nat} {D : List UInt8} (b : UInt8) {n : Int} (hn : n = (b.toNat : Int)) (hw : w.heap = H) (hx : Ext [] H0 H) (h0 : H0.size ≤ B) (hown : Mine H B y_uint8 1 x (byteCells D)) (hB : B ≤ H.size)
  (hl : x.2.1 = D.length) (hroom : D.length < 140737488355000) {K : (Option Addr × Nat × Nat) → World → Prop}
  (hK : ∀ x' w', Mine w'.heap B y_uint8 1 x' (byteCells (D ++ [b])) → x'.2.1 = (D ++ [b]).length → Ext [] H0 w'.heap → B ≤ w'.heap.size → K x' w') :
  genL P (Instr.buildSlice y_S_uint8 1 #[(0, .int .u8 n)]) .slc w fun t w_1 => genL P (Builtin.append_ #[y_S_uint8, y_S_uint8] y_S_uint8 #[.slice x.1 x.2.1 x.2.2, .slice t.1 t.2.1 t.2.2]) .slc w_1 K := by
 subst hn hw
 refine genL_of (s := .slc) (some ⟨w.heap.size, 0, none⟩, 1, 1) _ (bs22 _ w) ?_
 have hx1 : Ext [] w.heap (w.heap.push (Obj.cells #[Value.int .u8 (b.toNat : Int)] y_uint8)) := .push _
 refine append22 (w := { w with heap := w.heap.push (Obj.cells #[Value.int .u8 (b.toNat : Int)] y_uint8) }) (us := byteCells [b]) rfl (hown.ext hx1 (by simp)) (by simp; omega) (Src.slc rfl (cells_bytes (L := [b]) (H := w.heap.push (Obj.cells #[Value.int .u8 (b.toNat : Int)] y_uint8)) push_new (by simp) ?_) (by simp [byteCells])) one_byteCells (by simp only; omega) ?_
 ·intro i hi
  obtain rfl : i = 0 := by simp at hi; omega
  rfl
 intro x' w' h2 h3 h4 h5
 refine hK x' w' ?_ (by rw [h3, hl]; simp) ((hx.trans hx1).own h4 fun c hc hlt => ?_) ?_
 ·simpa [byteCells] using h2
 ·have := ownM_ge hown c hc; omega
 ·have := h4.1; simp at this; omega
def pw (f : Nat → UInt8) (t : Nat) : Nat → BitVec 32
 | 0 => 0#32
 | j + 1 => pw f t j <<< 8 ||| b32 (f (4 * t + j))
theorem pw_word (f : Nat → UInt8) (t : Nat) : pw f t 4 = Sha.word f t := by
 simp only [pw, Sha.word, BitVec.shiftLeft_or_distrib, ← BitVec.shiftLeft_add, BitVec.zero_shiftLeft, BitVec.zero_or, Nat.add_zero, Nat.reduceAdd]
def sh (V : Nat → BitVec 32) (j : Nat) : Nat → BitVec 32 := fun i => if i ≤ j then V i else V (i - 1)
set_option maxHeartbeats 8000000 in
theorem refsum_c {w : World} {H : Heap} {a : Option Addr} {l lc : Nat} {L : List UInt8} (hw : w.heap = H) (hL : Cells H a (byteCells L)) (hl : l = L.length) (hlen : L.length < 140737488351233) :
  CallF P F_r01_Sum #[.slice a l lc] w fun e w' => e = .returned (arr (Sha.sum L)) ∧ Ext [] H w'.heap := by
 subst hl
 refine fn_r01_Sum ?_
 unfold T_r01_Sum
 refine newB_h hw fun w1 hw1 => ?_
 generalize hH1 : H.push (Obj.cells (zc P y_api_Digest) y_api_Digest (0, 0)) = H1 at *
 have hs1 : H1.size = H.size + 1 := by rw [← hH1]; simp
 have hx1 : Ext [] H H1 := by rw [← hH1]; exact .push _
 have h2 : H1[H.size]? = some (.cells (zc P y_api_Digest) y_api_Digest (0, 0)) := by rw [← hH1]; exact push_new
 refine genL_of (s := .slc) (some ⟨H1.size, 0, none⟩, 0, 0) { w1 with heap := H1.push (.cells #[] y_uint8) } (by rw [← hw1]; kernel_rfl) ?_
 have hxp : Ext [] H1 (H1.push (.cells #[] y_uint8)) := .push _
 have hO : Mine (H1.push (.cells #[] y_uint8)) H1.size y_uint8 1 (some ⟨H1.size, 0, none⟩, 0, 0) [] := .inr ⟨H1.size, #[], rfl, Nat.le_refl _, push_new, rfl, rfl, Nat.le_refl _, rfl⟩
 refine append22 (w := { w1 with heap := H1.push (.cells #[] y_uint8) }) rfl hO (by simp) (Src.slc rfl ((hL.ext hx1 (by simp)).ext hxp (by simp)) (by simp [byteCells])) one_byteCells (by simp only; omega) ?_
 intro x2 w2 hO2 hl2 hx2 hm2
 simp only [Nat.zero_add] at hl2
 rw [List.nil_append] at hO2
 have hx12 : Ext [] H1 w2.heap := hxp.own hx2 (by intro b hb; simp [ownM] at hb; omega)
 refine push_byte 128 rfl rfl hx12 (Nat.le_refl _) hO2 hx12.1 hl2 (by omega) ?_
 intro x3 w3 hO3 hl3 hx3 hB3
 refine loopP_ix (fun m (x : Option Addr × Nat × Nat) w => ∃ (j : Nat), j + m = (119 - L.length % 64) % 64 ∧ Mine w.heap H1.size y_uint8 1 x (byteCells (L ++ [128] ++ List.replicate j 0)) ∧ x.2.1 = L.length + 1 + j ∧ Ext [] H1 w.heap ∧ H1.size ≤ w.heap.size)
  ((119 - L.length % 64) % 64) ⟨0, by omega, by simpa using hO3, by simpa using hl3, hx3, hB3⟩ ?_
 clear hO3 hl3 hx3 hB3 hx12 hx2 hm2 hO2 hl2
 rintro m x4 w4 ⟨j, hj, hO4, hl4, hx4, hB4⟩ K hK
 have hlj : (L ++ [128] ++ List.replicate j (0 : UInt8)).length = L.length + 1 + j := by simp only [List.length_append, List.length_singleton, List.length_replicate]
 refine remI_n (L.length + 1 + j) 64 (by rw [hl4]) rfl (by omega) ?_
 refine iteP_ne (fun hne => ?_) (fun h56 => ?_)
 ·have hjlt : j < (119 - L.length % 64) % 64 := by omega
  refine push_byte 0 rfl rfl hx4 (Nat.le_refl _) hO4 hB4 (by rw [hl4, hlj]) (by rw [hlj]; omega) ?_
  intro x5 w5 hO5 hl5 hx5 hB5
  have hrep : L ++ [128] ++ List.replicate j 0 ++ [0] = L ++ [128] ++ List.replicate (j + 1) 0 := by
   rw [List.append_assoc, ← List.replicate_succ']
  rw [hrep] at hO5
  refine hK (m - 1) _ _ (by omega) ⟨j + 1, by omega, hO5, ?_, hx5, hB5⟩
  rw [hl5, List.length_append, hlj]; simp; omega
 have hjz : j = (119 - L.length % 64) % 64 := by omega
 subst hjz
 clear hK K h56 hj
 refine cvI_u64 (by omega) (by omega) ?_
 refine mul64u ((8 * L.length : Nat) : Int) (by omega) (by omega) (by omega) ?_
 generalize hD : L ++ [128] ++ List.replicate ((119 - L.length % 64) % 64) (0 : UInt8) = D at *
 refine loopP_of (fun (s : (Option Addr × Nat × Nat) × Int) w => ∃ (i : Nat), s.2 = (i : Int) ∧ i ≤ 8 ∧ Mine w.heap H1.size y_uint8 1 s.1 (byteCells (D ++ (Sha.be8 (L.length * 8)).take i)) ∧ s.1.2.1 = D.length + i ∧ Ext [] H1 w.heap ∧ H1.size ≤ w.heap.size)
  (fun s _ => (8 - s.2).toNat) ⟨0, rfl, by omega, by simpa using hO4, by rw [hl4, hlj]; rfl, hx4, hB4⟩ ?_
 clear hO4 hl4 hx4 hB4
 rintro ⟨x5, _⟩ w5 ⟨i, rfl, hi, hO5, hl5, hx5, hB5⟩
 have hli : (D ++ (Sha.be8 (L.length * 8)).take i).length = D.length + i := by simp [Sha.be8]; omega
 refine iteP_dec (fun hlt => ?_) (fun hge => ?_)
 ·have hlt : i < 8 := by simp only at hlt; omega
  refine mulI_to ((8 * i : Nat) : Int) (by simp only; omega) (by omega) (by omega) ?_
  refine subI_to ((56 - 8 * i : Nat) : Int) (by omega) (by omega) (by omega) ?_
  refine cvI_u64 (by omega) (by omega) ?_
  refine shr64 (56 - 8 * i) rfl (by omega) ?_
  refine cv8 ?_
  refine push_byte (UInt8.ofNat (8 * L.length / 2 ^ (56 - 8 * i))) rfl rfl hx5 (Nat.le_refl _) hO5 hB5 (by rw [hli]; exact hl5) (by rw [hli]; omega) ?_
  intro x6 w6 hO6 hl6 hx6 hB6
  have ht : (Sha.be8 (L.length * 8)).take i ++ [UInt8.ofNat (8 * L.length / 2 ^ (56 - 8 * i))] = (Sha.be8 (L.length * 8)).take (i + 1) := by
   rw [List.take_add_one, show (Sha.be8 (L.length * 8))[i]? = some (UInt8.ofNat (8 * L.length / 2 ^ (56 - 8 * i))) from by simp [Sha.be8, hlt, Nat.mul_comm]]
   rfl
  rw [List.append_assoc, ht] at hO6
  refine addI_to ((i + 1 : Nat) : Int) (by simp only; omega) (by omega) (by omega) ?_
  refine ⟨⟨i + 1, rfl, by omega, hO6, ?_, hx6, hB6⟩, by simp only; omega⟩
  rw [hl6, List.length_append, hli]; simp; omega
 have hi8 : i = 8 := by simp only at hge; omega
 subst hi8
 clear hge hi
 have hpad : D ++ (Sha.be8 (L.length * 8)).take 8 = Sha.pad L := by
  rw [List.take_of_length_le (by simp [Sha.be8])]
  rw [← hD]; rfl
 rw [hpad] at hO5 hli
 simp only at hl5
 generalize hM : Sha.pad L = M at *
 have hM64 : M.length % 64 = 0 := by rw [hli]; omega
 have hlM : M.length < 140737488351233 + 200 := by rw [hli]; omega
 obtain ⟨xa, xl, xc⟩ := x5
 obtain ⟨bb, o, cm, Tm, frm, hxa, hbm, hcm, hbs⟩ := hO5.cells.bytes (by intro h; rw [h] at hli; simp at hli)
 simp only at hl5 hxa
 obtain rfl : xl = M.length := by omega
 subst hxa
 clear hO5
 generalize hHp : w5.heap = Hp at *
 have h2p := hx5.get h2 (by simp)
 have hxp0 : Ext [] H Hp := hx1.trans hx5
 have hs2 : H.size < Hp.size := lt_of_get h2p
 have hbmp := lt_of_get hbm
 clear hx5 hB5 hO hxp
 refine genQ_of (s := .any) _ (build65i w5) ?_
 refine newB_h hHp fun w6 hw6 => ?_
 refine storeVar_h (size65.trans (by simp [Value.cells])) (by simp [Value.cells]) one_W32 hw6 push_new (by rw [zc65]; simp [Value.cells]) fun w7 hw7 => ?_
 rw [show setCells (zc P y_8_uint32) 0 (Value.cells (.agg (W32 Sha.init 8))).toList = W32 Sha.init 8 from by rw [setCells_all (by rw [zc65]; simp [Value.cells])]; simp [Value.cells]] at hw7
 refine newB_h hw7 fun w8 hw8 => ?_
 generalize hb7 : ((Hp.push (Obj.cells (zc P y_8_uint32) y_8_uint32 (0, 0))).setIfInBounds Hp.size (.cells (W32 Sha.init 8) y_8_uint32 (0, 0))).size = b7 at *
 have hb7' : b7 = Hp.size + 1 := by rw [← hb7]; simp
 generalize hH8 : ((Hp.push (Obj.cells (zc P y_8_uint32) y_8_uint32 (0, 0))).setIfInBounds Hp.size (.cells (W32 Sha.init 8) y_8_uint32 (0, 0))).push (Obj.cells (zc P y_64_uint32) y_64_uint32 (0, 0)) = H8 at *
 have hx8 : Ext [] Hp H8 := by rw [← hH8]; exact ((Ext.push _).set_own (.inl (Nat.le_refl _))).push_own
 have h6 : H8[Hp.size]? = some (.cells (W32 Sha.init 8) y_8_uint32 (0, 0)) := by rw [← hH8]; exact push_old (set_new push_new)
 have h7 : H8[b7]? = some (.cells (zc P y_64_uint32) y_64_uint32 (0, 0)) := by rw [← hH8, ← hb7]; exact push_new
 refine loopP_of (fun s w => ∃ (k : Nat) (H' : Heap) (c6 c7 : Array Value), s = ((64 * k : Nat) : Int) ∧ k ≤ M.length / 64 ∧ w.heap = H' ∧ Ext [] Hp H' ∧ H'[Hp.size]? = some (.cells c6 y_8_uint32 (0, 0)) ∧ c6.size = 8 ∧ Words c6 0 (Sha.blocks M k) 8 ∧
   H'[b7]? = some (.cells c7 y_64_uint32 (0, 0)) ∧ c7.size = 64)
  (fun s _ => ((M.length : Int) - s).toNat) ⟨0, _, _, _, rfl, by omega, hw8, hx8, h6, by simp, words_W32, h7, by rw [zc66]; simp⟩ ?_
 clear hx8 h6 h7 hw8 hH8 hw7 hw6 hb7
 rintro _ w9 ⟨k, H9, c6, c7, rfl, hk, hw9, hx9, h6, hs6, hV6, h7, hs7⟩
 refine iteP_dec (fun hlt => ?_) (fun hge => ?_)
 ·have hk : 64 * k + 64 ≤ M.length := by simp only at hlt; omega
  clear hlt
  generalize hf : (fun j => Sha.nth M (64 * k + j)) = f
  have hfa : ∀ j, Sha.nth M (64 * k + j) = f j := fun j => by rw [← hf]
  refine loopP_of (fun s w => ∃ (t : Nat) (H' : Heap) (c7 : Array Value), s = (t : Int) ∧ t ≤ 64 ∧ w.heap = H' ∧ Ext [b7] H9 H' ∧ H'[b7]? = some (.cells c7 y_64_uint32 (0, 0)) ∧ c7.size = 64 ∧ Words c7 0 (Sha.W (Sha.word f)) t)
   (fun s _ => (64 - s).toNat) ⟨0, _, _, rfl, by omega, hw9, .refl _ _, h7, hs7, fun i hi => by omega⟩ ?_
  clear h7 hs7 hw9 c7
  rintro _ w10 ⟨t, H10, c7, rfl, ht, hw10, hx10, h7, hs7, hW⟩
  refine iteP_dec (fun hlt => ?_) (fun hge => ?_)
  ·have hlt : t < 64 := by omega
   refine joinP_in ?_
   refine joinP_in ?_
   refine iteP_dec (fun hlt16 => ?_) (fun hge16 => ?_)
   ·have hlt16 : t < 16 := by omega
    refine ixR_0 t rfl (by omega) ?_
    refine stC_h hw10 h7 (by omega) fun w11 hw11 => ?_
    refine loopP_of (fun s w => ∃ (j : Nat) (H' : Heap) (c7 : Array Value), s = (j : Int) ∧ j ≤ 4 ∧ w.heap = H' ∧ Ext [b7] H9 H' ∧ H'[b7]? = some (.cells c7 y_64_uint32 (0, 0)) ∧ c7.size = 64 ∧ Words c7 0 (Sha.W (Sha.word f)) t ∧ c7[t]? = some (.int .u32 ((pw f t j).toNat : Int)))
     (fun s _ => (4 - s).toNat) ⟨0, _, _, rfl, by omega, hw11, hx10.set_own (.inr (by simp)), set_new h7, by simpa using hs7, (hW.put t (by omega) 0).congr (fun i hi => by simp only [if_neg (show ¬ i = t by omega)]), by simp [pw, show t < c7.size by omega]⟩ ?_
    clear hw11 hw10 hx10 h7 hs7 hW c7
    rintro _ w12 ⟨j, H12, c7, rfl, hj, hw12, hx12, h7, hs7, hW, hpw⟩
    refine iteP_dec (fun hltj => ?_) (fun hgej => ?_)
    ·have hltj : j < 4 := by omega
     refine drewP_h hw12 fun w13 hw13 => ?_
     refine ixR_0 t rfl (by omega) ?_
     refine mulI_to ((4 * t : Nat) : Int) (by omega) (by omega) (by omega) ?_
     refine addI_to ((64 * k + 4 * t : Nat) : Int) (by omega) (by omega) (by omega) ?_
     refine addI_to ((64 * k + 4 * t + j : Nat) : Int) (by omega) (by omega) (by omega) ?_
     refine ixS_1 (64 * k + 4 * t + j) rfl (by simp only; omega) ?_
     refine ld_h hw13 h7 hpw ?_
     refine shlW _ 8 rfl (by omega) ?_
     refine ld_h hw13 ((hx12.get (hx9.get hbm (by simp)) (by simp; omega))) (hbs (64 * k + 4 * t + j) (by omega)) ?_
     refine cvB ?_
     refine orW _ _ ?_
     refine ixR_0 t rfl (by omega) ?_
     refine stC_h hw13 h7 (by omega) fun w14 hw14 => ?_
     refine addI_to ((j + 1 : Nat) : Int) (by omega) (by omega) (by omega) ?_
     refine ⟨⟨j + 1, _, _, rfl, by omega, hw14, hx12.set_own (.inr (by simp)), set_new h7, by simpa using hs7, (hW.put t (by omega) _).congr (fun i hi => by simp only [if_neg (show ¬ i = t by omega)]), ?_⟩, by omega⟩
     have hfj : f (4 * t + j) = M.getD (64 * k + 4 * t + j) 0 := by rw [← hfa, Nat.add_assoc]; rfl
     rw [Array.getElem?_setIfInBounds_self_of_lt (by omega)]
     simp only [pw, hfj]
    have hj4 : j = 4 := by omega
    subst hj4
    refine addI_to ((t + 1 : Nat) : Int) (by omega) (by omega) (by omega) ?_
    refine ⟨⟨t + 1, _, _, rfl, by omega, hw12, hx12, h7, hs7, ?_⟩, by omega⟩
    intro i hi
    by_cases hit : i < t
    ·exact hW i hit
    ·obtain rfl : i = t := by omega
     rw [Nat.zero_add, hpw, pw_word, Sha.W_lt hlt16]
   ·refine subI_to ((t - 2 : Nat) : Int) (by omega) (by omega) (by omega) ?_
    refine ixR_0 (t - 2) rfl (by omega) ?_
    refine ld_h hw10 h7 (hW.at (t - 2) (by omega)) ?_
    refine subI_to ((t - 15 : Nat) : Int) (by omega) (by omega) (by omega) ?_
    refine ixR_0 (t - 15) rfl (by omega) ?_
    refine ld_h hw10 h7 (hW.at (t - 15) (by omega)) ?_
    refine drewP_h hw10 fun w11 hw11 => ?_
    refine shrW _ 10 rfl (by omega) ?_
    refine subI_to ((t - 7 : Nat) : Int) (by omega) (by omega) (by omega) ?_
    refine ixR_0 (t - 7) rfl (by omega) ?_
    refine shrW _ 3 rfl (by omega) ?_
    refine subI_to ((t - 16 : Nat) : Int) (by omega) (by omega) (by omega) ?_
    refine ixR_0 (t - 16) rfl (by omega) ?_
    refine callQ_of (l := [.int .u32]) _ (turn_c _ 17 rfl (by omega) (by omega) _) ?_
    refine callQ_of (l := [.int .u32]) _ (turn_c _ 19 rfl (by omega) (by omega) _) ?_
    refine xorW _ _ ?_
    refine xorW _ _ ?_
    refine ld_h hw11 h7 (hW.at (t - 7) (by omega)) ?_
    refine addW _ _ ?_
    refine callQ_of (l := [.int .u32]) _ (turn_c _ 7 rfl (by omega) (by omega) _) ?_
    refine callQ_of (l := [.int .u32]) _ (turn_c _ 18 rfl (by omega) (by omega) _) ?_
    refine xorW _ _ ?_
    refine xorW _ _ ?_
    refine addW _ _ ?_
    refine ld_h hw11 h7 (hW.at (t - 16) (by omega)) ?_
    refine addW _ _ ?_
    refine ixR_0 t rfl (by omega) ?_
    refine stC_h hw11 h7 (by omega) fun w12 hw12 => ?_
    refine addI_to ((t + 1 : Nat) : Int) (by omega) (by omega) (by omega) ?_
    refine ⟨⟨t + 1, _, _, rfl, by omega, hw12, hx10.set_own (.inr (by simp)), set_new h7, by simpa using hs7, ?_⟩, by omega⟩
    exact hW.snoc (by omega) (by rw [Sha.W_ge (show 16 ≤ t by omega)])
  have ht64 : t = 64 := by omega
  subst ht64
  clear hge ht
  have h6' := hx10.get h6 (by simp; omega)
  refine ldA_h hw10 h6' (by omega) ?_
  rw [hV6.extract (by omega)]
  refine newB_h hw10 fun w11 hw11 => ?_
  refine storeVar_h (size65.trans (by simp [Value.cells])) (by simp [Value.cells]) one_W32 hw11 push_new (by rw [zc65]; simp [Value.cells]) fun w12 hw12 => ?_
  rw [show setCells (zc P y_8_uint32) 0 (Value.cells (.agg (W32 (Sha.blocks M k) 8))).toList = W32 (Sha.blocks M k) 8 from by rw [setCells_all (by rw [zc65]; simp [Value.cells])]; simp [Value.cells]] at hw12
  have hb7l := lt_of_get h7
  generalize hs : Sha.blocks M k = s at *
  refine loopP_of (fun s' w => ∃ (t : Nat) (H' : Heap) (c8 : Array Value), s' = (t : Int) ∧ t ≤ 64 ∧ w.heap = H' ∧ Ext [] H10 H' ∧ H'[H10.size]? = some (.cells c8 y_8_uint32 (0, 0)) ∧ c8.size = 8 ∧ Words c8 0 (Sha.rnd (Sha.W (Sha.word f)) s t) 8)
   (fun s _ => (64 - s).toNat) ⟨0, _, _, rfl, by omega, hw12, (Ext.push _).set_own (.inl (Nat.le_refl _)), set_new push_new, by simp, words_W32⟩ ?_
  clear hw12 hw11
  rintro _ w13 ⟨t, H13, c8, rfl, ht, hw13, hx13, hc8, hs8, hV⟩
  refine iteP_dec (fun hlt => ?_) (fun hge => ?_)
  ·have hlt : t < 64 := by omega
   have h7' := hx13.get h7 (by simp)
   generalize hVs : Sha.rnd (Sha.W (Sha.word f)) s t = V at *
   refine ld_h hw13 hc8 (hV.at 4 (by omega)) ?_
   refine ld_h hw13 hc8 (hV.at 0 (by omega)) ?_
   refine drewP_h hw13 fun w14 hw14 => ?_
   refine xorW_lit _ ?_
   refine ixR_0 t rfl (by omega) ?_
   refine ld_h hw14 hc8 (hV.at 7 (by omega)) ?_
   refine callQ_of (l := [.int .u32]) _ (turn_c _ 6 rfl (by omega) (by omega) _) ?_
   refine callQ_of (l := [.int .u32]) _ (turn_c _ 11 rfl (by omega) (by omega) _) ?_
   refine xorW _ _ ?_
   refine callQ_of (l := [.int .u32]) _ (turn_c _ 25 rfl (by omega) (by omega) _) ?_
   refine xorW _ _ ?_
   refine addW _ _ ?_
   refine ld_h hw14 hc8 (hV.at 5 (by omega)) ?_
   refine andW _ _ ?_
   refine ld_h hw14 hc8 (hV.at 6 (by omega)) ?_
   refine andW _ _ ?_
   refine xorW _ _ ?_
   refine addW _ _ ?_
   refine ld_h hw14 h7' (hW.at t (by omega)) ?_
   refine callF_of (l := [.int .u32]) (constant_c hw14 hlt) ?_
   rintro e w15 ⟨rfl, hx15⟩
   refine ⟨((Sha.K t).toNat : Int), rfl, ?_⟩
   generalize hH15 : w15.heap = H15 at *
   have hc15 := hx15.get hc8 (by simp)
   refine ⟨ld_h hH15 (hx15.get h7' (by simp)) (hW.at t (by omega)) rfl, ld_h hH15 hc15 (hV.at 6 (by omega)) rfl, ld_h hH15 hc15 (hV.at 5 (by omega)) rfl, ld_h hH15 hc15 (hV.at 7 (by omega)) rfl, ?_⟩
   refine addW _ _ ?_
   refine addW _ _ ?_
   refine drewP_h hH15 fun w16 hw16 => ?_
   refine callQ_of (l := [.int .u32]) _ (turn_c _ 2 rfl (by omega) (by omega) _) ?_
   refine callQ_of (l := [.int .u32]) _ (turn_c _ 13 rfl (by omega) (by omega) _) ?_
   refine xorW _ _ ?_
   refine callQ_of (l := [.int .u32]) _ (turn_c _ 22 rfl (by omega) (by omega) _) ?_
   refine xorW _ _ ?_
   refine ld_h hw16 hc15 (hV.at 1 (by omega)) ?_
   refine andW _ _ ?_
   refine ld_h hw16 hc15 (hV.at 2 (by omega)) ?_
   refine andW _ _ ?_
   refine xorW _ _ ?_
   refine ld_h hw16 hc15 (hV.at 1 (by omega)) ?_
   refine ld_h hw16 hc15 (hV.at 2 (by omega)) ?_
   refine andW _ _ ?_
   refine xorW _ _ ?_
   refine addW _ _ ?_
   refine loopP_of (fun s' w => ∃ (j : Nat) (H' : Heap) (c8 : Array Value), s' = (j : Int) ∧ j ≤ 7 ∧ w.heap = H' ∧ Ext [] H10 H' ∧ H'[H10.size]? = some (.cells c8 y_8_uint32 (0, 0)) ∧ c8.size = 8 ∧ Words c8 0 (sh V j) 8)
    (fun s _ => s.toNat) ⟨7, _, _, rfl, by omega, hw16, hx13.trans hx15, hc15, hs8, hV.congr fun i hi => by simp only [sh, if_pos (show i ≤ 7 by omega)]⟩ ?_
   clear hc15 hw16 hx15 hx13 hc8 hs8 hV hH15 hw14 hw13 h7' c8
   rintro _ w17 ⟨j, H17, c8, rfl, hj, hw17, hx17, hc8, hs8, hV⟩
   refine iteP_dec (fun hltj => ?_) (fun hgej => ?_)
   ·have hltj : 0 < j := by omega
    refine subI_to ((j - 1 : Nat) : Int) (by omega) (by omega) (by omega) ?_
    refine ixR_0 (j - 1) rfl (by omega) ?_
    refine ld_h hw17 hc8 (hV.at (j - 1) (by omega)) ?_
    refine ixR_0 j rfl (by omega) ?_
    refine stC_h hw17 hc8 (by omega) fun w18 hw18 => ?_
    refine subI_to ((j - 1 : Nat) : Int) (by omega) (by omega) (by omega) ?_
    refine ⟨⟨j - 1, _, _, rfl, by omega, hw18, hx17.set_own (.inl (Nat.le_refl _)), set_new hc8, by simpa using hs8, (hV.put j (by omega) _).congr fun i hi => ?_⟩, by omega⟩
    simp only [sh]
    by_cases e : i = j
    ·subst e; simp only [if_true, if_pos (show i - 1 ≤ i by omega), if_neg (show ¬ i ≤ i - 1 by omega)]
    ·simp only [if_neg e]
     by_cases e2 : i ≤ j
     ·rw [if_pos e2, if_pos (by omega)]
     ·rw [if_neg e2, if_neg (by omega)]
   have hj0 : j = 0 := by omega
   subst hj0
   refine ld_h hw17 hc8 (hV.at 4 (by omega)) ?_
   refine addW _ _ ?_
   refine stC_h hw17 hc8 (by omega) fun w18 hw18 => ?_
   refine addW _ _ ?_
   refine stC_h hw18 (set_new hc8) (by simp; omega) fun w19 hw19 => ?_
   rw [set_set] at hw19
   refine addI_to ((t + 1 : Nat) : Int) (by omega) (by omega) (by omega) ?_
   refine ⟨⟨t + 1, _, _, rfl, by omega, hw19, hx17.set_own (.inl (Nat.le_refl _)), set_new hc8, by simpa using hs8, ((hV.put 4 (by omega) _).put 0 (by simp; omega) _).congr fun i hi => ?_⟩, by omega⟩
   simp only [Sha.rnd, hVs]
   match i, hi with
   | 0, _ => rfl
   | 1, _ => rfl
   | 2, _ => rfl
   | 3, _ => rfl
   | 4, _ => rfl
   | 5, _ => rfl
   | 6, _ => rfl
   | 7, _ => rfl
  have ht64 : t = 64 := by omega
  subst ht64
  clear hge ht
  have h613 := hx13.get h6' (by simp)
  have hne : Hp.size ≠ H10.size := by have := lt_of_get h6'; omega
  have hx913 : Ext [] Hp H13 := hx9.own (hx10.trans (hx13.mono (by simp))) (by simp; omega)
  have h713 := hx13.get h7 (by simp)
  refine loopP_of (fun s' w => ∃ (t : Nat) (H' : Heap) (c' : Array Value), s' = (t : Int) ∧ t ≤ 8 ∧ w.heap = H' ∧ Ext [] Hp H' ∧ H'[Hp.size]? = some (.cells c' y_8_uint32 (0, 0)) ∧ c'.size = 8 ∧ H'[H10.size]? = some (.cells c8 y_8_uint32 (0, 0)) ∧
    Words c' 0 (Sha.comp s (Sha.word f)) t ∧ (∀ i, t ≤ i → c'[i]? = c6[i]?) ∧ H'[b7]? = some (.cells c7 y_64_uint32 (0, 0)))
   (fun s _ => (8 - s).toNat) ⟨0, _, _, rfl, by omega, hw13, hx913, h613, hs6, hc8, fun i hi => by omega, fun i _ => rfl, h713⟩ ?_
  rintro _ w14 ⟨t, H14, c', rfl, ht, hw14, hx14, hH14, hsz14, hc84, hV14, hold, h714⟩
  refine iteP_dec (fun hlt => ?_) (fun hge => ?_)
  ·have hlt : t < 8 := by omega
   refine drewP_h hw14 fun w15 hw15 => ?_
   refine ixR_0 t rfl (by omega) ?_
   refine ixR_0 t rfl (by omega) ?_
   refine ld_h hw15 hH14 ((hold t (Nat.le_refl _)).trans (hV6.at t (by omega))) ?_
   refine ld_h hw15 hc84 (hV.at t (by omega)) ?_
   refine addW _ _ ?_
   refine ixR_0 t rfl (by omega) ?_
   refine stC_h hw15 hH14 (by omega) fun w16 hw16 => ?_
   refine addI_to ((t + 1 : Nat) : Int) (by omega) (by omega) (by omega) ?_
   refine ⟨⟨t + 1, _, _, rfl, by omega, hw16, hx14.set_own (.inl (Nat.le_refl _)), set_new hH14, by simpa using hsz14, set_old hc84 (Ne.symm hne), hV14.snoc (by omega) rfl, ?_, set_old h714 (by omega)⟩, by omega⟩
   intro i hi
   rw [Array.getElem?_setIfInBounds_ne (by omega)]
   exact hold i (by omega)
  have ht8 : t = 8 := by omega
  subst ht8
  refine addI_to ((64 * (k + 1) : Nat) : Int) (by omega) (by omega) (by omega) ?_
  refine ⟨⟨k + 1, _, _, _, rfl, by omega, hw14, hx14, hH14, hsz14, ?_, h714, hs7⟩, by omega⟩
  simp only [Sha.blocks, hs, hf]
  exact hV14
 have hkM : k = M.length / 64 := by simp only at hge; omega
 subst hkM
 refine newB_h hw9 fun w10 hw10 => ?_
 generalize hs : Sha.blocks M (M.length / 64) = s at *
 refine loopP_of (fun s' w => ∃ (i : Nat) (H' : Heap) (c7 : Array Value), s' = (i : Int) ∧ i ≤ 32 ∧ w.heap = H' ∧ Ext [] H9 H' ∧ H'[H9.size]? = some (.cells c7 y_api_Digest (0, 0)) ∧ c7.size = 32 ∧ Bytes c7 0 (Sha.out s) i)
  (fun s _ => (32 - s).toNat) ⟨0, _, _, rfl, by omega, hw10, .push _, push_new, by rw [zc27]; simp, fun i hi => by omega⟩ ?_
 rintro _ w11 ⟨i, H11, c9, rfl, hi, hw11, hx11, hp11, hsz11, hB11⟩
 refine iteP_dec (fun hlt => ?_) (fun hge => ?_)
 ·have hlt : i < 32 := by omega
  refine quoI_n i 4 rfl rfl (by omega) (by omega) ?_
  refine ixR_0 (i / 4) rfl (by omega) ?_
  refine ld_h hw11 (hx11.get h6 (by simp)) (hV6.at (i / 4) (by omega)) ?_
  refine remI_n i 4 rfl rfl (by omega) ?_
  refine mulI_to ((8 * (i % 4) : Nat) : Int) (by omega) (by omega) (by omega) ?_
  refine subI_to ((24 - 8 * (i % 4) : Nat) : Int) (by omega) (by omega) (by omega) ?_
  refine cvI_u64 (by omega) (by omega) ?_
  refine shrW _ (24 - 8 * (i % 4)) rfl (by omega) ?_
  refine cvL _ ?_
  refine ixR_0 i rfl (by omega) ?_
  refine stC_h hw11 hp11 (by omega) fun w12 hw12 => ?_
  refine addI_to ((i + 1 : Nat) : Int) (by omega) (by omega) (by omega) ?_
  exact ⟨⟨i + 1, _, _, rfl, by omega, hw12, hx11.set_own (.inl (Nat.le_refl _)), set_new hp11, by simpa using hsz11, hB11.snoc (by omega) rfl⟩, by omega⟩
 have hi32 : i = 32 := by omega
 subst hi32
 refine ldA_all hw11 hp11 hsz11 ?_
 have hc7 : c9 = B8 (Sha.out s) 32 := by
  have := hB11.extract (by omega)
  rw [← this]
  exact (Array.extract_eq_self_of_le (by omega)).symm
 subst hc7
 have h211 : H11[H.size]? = some (.cells (zc P y_api_Digest) y_api_Digest (0, 0)) := hx11.get (hx9.get h2p (by simp)) (by simp)
 refine storeVar_h (size27.trans (by simp [Value.cells])) (by simp [Value.cells]) one_B8 hw11 h211 (by rw [zc27]; simp [Value.cells]) fun w12 hw12 => ?_
 rw [show setCells (zc P y_api_Digest) 0 (Value.cells (.agg (B8 (Sha.out s) 32))).toList = B8 (Sha.out s) 32 from by rw [setCells_all (by rw [zc27]; simp [Value.cells])]; simp [Value.cells]] at hw12
 refine ldA_all hw12 (set_new h211) (by simp) ?_
 refine ⟨?_, ?_⟩
 ·unfold arr Sha.sum B8 byteCells
  rw [hM, hs]
  simp
 ·rw [hw12]
  exact ((hxp0.trans hx9).trans hx11).set_own (.inl (Nat.le_refl _))
end Go.Proofs.YtbmegmbnlajbbaaGreatDoor.Bl
namespace Go.Proofs.YtbmegmbnlajbbaaGreatDoor.Bl
open Go Go.Fw Go.Proofs
theorem u27 : P.underlying y_api_Digest = some (.array 32 y_uint8) := by kernel_rfl
theorem u5 : P.underlying y_uint8 = some (.int .u8) := by kernel_rfl
theorem c5 : P.cellsOf y_uint8 = 1 := by kernel_rfl
theorem g27 : P.eqGuardType P.depth y_api_Digest = false := by kernel_rfl
theorem u57 : P.underlying y_M_api_Digest_S_uint8 = some (.map y_api_Digest y_S_uint8) := by kernel_rfl
theorem z22 (w : World) : (zeroValue y_S_uint8).run P w = .ok (.slice none 0 0) w := by kernel_rfl
theorem K27 : KeyOk P y_api_Digest (List UInt8) (fun L => L.length = 32) arr := .arr u27 u5 c5
theorem b27 (w : World) : (Instr.build y_api_Digest #[]).run P w = .ok (arr (List.replicate 32 0)) w := by kernel_rfl
theorem b59 (a : Int) (m : Option Nat) (w : World) : (Instr.build y_blob_Store #[(0, .int .i64 a), (2, .map m)]).run P w = .ok (.agg #[.int .i64 a, .int .i64 0, .map m]) w := by kernel_rfl
abbrev BV := (Option Addr × Nat × Nat) × List UInt8
abbrev SM := ML (List UInt8) BV
def bv (x : BV) : Value := slcV x.1
def total (r : SM) : Nat := (r.map fun x => x.2.1.2.length).sum
def vget (r : SM) (k : List UInt8) : Option (List UInt8) := (mget r k).map (·.2)
def Vals (H : Heap) (fp : List Nat) (r : SM) : Prop := ∀ x ∈ r, Mine H 0 y_uint8 1 x.2.1.1 (byteCells x.2.1.2) ∧ ∀ b ∈ ownM x.2.1.1, b ∈ fp
def Apart (r : SM) : Prop := ∀ x ∈ r, ∀ y ∈ r, x.1 ≠ y.1 → ∀ b ∈ ownM x.2.1.1, b ∉ ownM y.2.1.1
def Store (H : Heap) (fp : List Nat) (p : Nat) (q : Int) (r : SM) (c : Nat) : Prop :=
 ∃ m, H[p]? = some (.cells #[.int .i64 q, .int .i64 (total r : Int), .map (some m)] y_blob_Store (0, 0)) ∧ H[m]? = some (.map (ents arr (vl bv r)) c) ∧ MOk (fun L => L.length = 32) r c ∧ p ∈ fp ∧ m ∈ fp ∧ Vals H fp r ∧ Apart r
theorem Vals.ext {M fp : List Nat} {H H' : Heap} {r : SM} (h : Vals H fp r) (hx : Ext M H H') (hM : ∀ b ∈ fp, b ∉ M) : Vals H' fp r :=
 fun x hxr => ⟨(h x hxr).1.ext hx fun b hb => hM b ((h x hxr).2 b hb), (h x hxr).2⟩
theorem Store.ext {M fp : List Nat} {H H' : Heap} {p : Nat} {q : Int} {r : SM} {c : Nat} (h : Store H fp p q r c) (hx : Ext M H H') (hM : ∀ b ∈ fp, b ∉ M) : Store H' fp p q r c := by
 obtain ⟨m, h1, h2, h3, h4, h5, h6, h7⟩ := h
 exact ⟨m, hx.get h1 (hM p h4), hx.get h2 (hM m h5), h3, h4, h5, h6.ext hx hM, h7⟩
theorem Store.lt {fp : List Nat} {H : Heap} {p : Nat} {q : Int} {r : SM} {c : Nat} (h : Store H fp p q r c) : p < H.size := by
 obtain ⟨m, h1, _⟩ := h; exact lt_of_get h1
theorem new59_c {w : World} {H : Heap} (q : Int) (hw : w.heap = H) : CallF P F_blob_New #[.int .i64 q] w fun e w' => ∃ p fp, e = .returned (.pointer (some ⟨p, 0, none⟩)) ∧ Store w'.heap fp p (max q 0) [] 0 ∧ Ext [] H w'.heap ∧ ∀ b ∈ fp, H.size ≤ b ∧ b < w'.heap.size := by
 refine fn_blob_New ?_
 unfold T_blob_New
 refine genQ_of (s := .int .i64) (max q 0) ?_ ?_
 ·rw [run_max_int2]
  congr 2
  show (if (0 : Int) > q then 0 else q) = max q 0
  split <;> omega
 refine genL_of (s := .map) (some H.size) _ (makeMap_h hw) ?_
 refine genQ_of (s := .any) _ (b59 _ _ _) ?_
 refine newB_h (H := H.push (.map #[] 0)) rfl fun w2 hw2 => ?_
 refine ⟨(H.push (.map #[] 0)).size, [(H.push (.map #[] 0)).size, H.size], rfl, ⟨H.size, ?_, ?_, .nil, by simp, by simp, (by intro x hx; cases hx), (by intro x hx; cases hx)⟩, ?_, by rw [hw2]; simp; omega⟩
 ·rw [hw2]; exact push_new
 ·rw [hw2]; exact push_old push_new
 ·rw [hw2]; exact (Ext.push _).push_own
theorem clone_c {w : World} {H : Heap} {a : Option Addr} {l lc : Nat} {L : List UInt8} (hw : w.heap = H) (hL : Cells H a (byteCells L)) (hl : l = L.length) (hlen : L.length < 140000000000000) :
  CallF P F_slices_Clone_S_byte_byte #[.slice a l lc] w fun e w' => ∃ x, e = .returned (slcV x) ∧ Mine w'.heap H.size y_uint8 1 x (byteCells L) ∧ Ext [] H w'.heap := by
 subst hl
 refine fn_slices_Clone_S_byte_byte ?_
 unfold T_slices_Clone_S_byte_byte
 cases a with
 | none =>
  refine iteP_t rfl ?_
  have : byteCells L = [] := by rcases hL with h | ⟨b, o, c, T, fr, h, _⟩; exact h; cases h
  exact ⟨(none, 0, 0), rfl, .inl ⟨rfl, this⟩, by rw [hw]; exact .refl _ _⟩
 | some a =>
  refine iteP_f rfl ?_
  refine genL_of (s := .slc) (some ⟨H.size, 0, none⟩, 0, 0) { w with heap := H.push (.cells #[] y_uint8) } (by rw [← hw]; kernel_rfl) ?_
  have hxp : Ext [] H (H.push (.cells #[] y_uint8)) := .push _
  have hO : Mine (H.push (.cells #[] y_uint8)) H.size y_uint8 1 (some ⟨H.size, 0, none⟩, 0, 0) [] := .inr ⟨H.size, #[], rfl, Nat.le_refl _, push_new, rfl, rfl, Nat.le_refl _, rfl⟩
  refine append22 (w := { w with heap := H.push (.cells #[] y_uint8) }) rfl hO (by simp) (Src.slc rfl (hL.ext hxp (by simp)) (by simp [byteCells])) one_byteCells (by simp only; omega) ?_
  intro x2 w2 hO2 hl2 hx2 hm2
  rw [List.nil_append] at hO2
  exact ⟨x2, rfl, hO2, hxp.own hx2 (by intro b hb; simp [ownM] at hb; omega)⟩
theorem count_c {w : World} {H : Heap} {fp : List Nat} {p : Nat} {q : Int} {r : SM} {c : Nat} (hw : w.heap = H) (hS : Store H fp p q r c) : CallF P F_blob_Store_Count #[.pointer (some ⟨p, 0, none⟩)] w fun e w' => e = .returned (.int .i64 (r.length : Int)) ∧ w' = w := by
 obtain ⟨m, h1, h2, _⟩ := hS
 refine fn_blob_Store_Count ?_
 unfold T_blob_Store_Count
 refine iteP_f rfl ?_
 simp only [withAddr_some]
 refine ld_h (t := some m) hw h1 rfl ?_
 refine genQ_of (s := .int .i64) _ (len_map_v u57 hw h2) ?_
 exact ⟨rfl, trivial⟩
theorem bytes_c {w : World} {H : Heap} {fp : List Nat} {p : Nat} {q : Int} {r : SM} {c : Nat} (hw : w.heap = H) (hS : Store H fp p q r c) : CallF P F_blob_Store_Bytes #[.pointer (some ⟨p, 0, none⟩)] w fun e w' => e = .returned (.int .i64 (total r : Int)) ∧ w' = w := by
 obtain ⟨m, h1, h2, _⟩ := hS
 refine fn_blob_Store_Bytes ?_
 unfold T_blob_Store_Bytes
 refine iteP_f rfl ?_
 simp only [withAddr_some]
 exact ld_h (t := (total r : Int)) hw h1 rfl ⟨rfl, trivial⟩
theorem mget_ok {r : SM} {c : Nat} (h : MOk (fun L => L.length = 32) r c) {k : List UInt8} {v : BV} (hg : mget r k = some v) : ∃ b, (k, v, b) ∈ r ∧ k.length = 32 := by
 obtain ⟨b, hb⟩ := mget_some_mem hg
 exact ⟨b, hb, h.fine _ hb⟩
def got (o : Option (List UInt8)) (k : List UInt8) : Int := match o with | none => 50 | some L => if Sha.sum L = k then 0 else 51
theorem get_c {w : World} {H : Heap} {fp : List Nat} {p : Nat} {q : Int} {r : SM} {c : Nat} {k : List UInt8} (hw : w.heap = H) (hS : Store H fp p q r c) (hk : k.length = 32) (hR : Rounds H) (hlen : ∀ L, vget r k = some L → L.length < 1099511627776) :
  CallF P F_blob_Store_Get #[.pointer (some ⟨p, 0, none⟩), arr k] w fun e w' => ∃ x, e = .returned (.tuple #[slcV x, .int .i64 (got (vget r k) k)]) ∧ Ext [] H w'.heap ∧
   (got (vget r k) k = 0 → ∃ L, vget r k = some L ∧ Mine w'.heap H.size y_uint8 1 x (byteCells L)) ∧ (got (vget r k) k ≠ 0 → x = (none, 0, 0)) := by
 obtain ⟨m, h1, h2, h3, h4, h5, h6, h7⟩ := hS
 refine fn_blob_Store_Get ?_
 unfold T_blob_Store_Get
 refine newB_h hw fun w1 hw1 => ?_
 have hx1 : Ext [] H (H.push (.cells (Value.cells (arr k)) y_api_Digest (0, 0))) := .push _
 generalize hH1 : H.push (.cells (Value.cells (arr k)) y_api_Digest (0, 0)) = H1 at *
 have hk1 : H1[H.size]? = some (.cells (byteCells k).toArray y_api_Digest (0, 0)) := by rw [← hH1]; exact push_new
 refine iteP_f rfl ?_
 refine drewP_h hw1 fun w2 hw2 => ?_
 simp only [withAddr_some]
 refine ld_h (t := some m) hw2 (hx1.get h1 (by simp)) rfl ?_
 refine ldA_all hw2 hk1 (by simp [byteCells, hk]) ?_
 cases hg : mget r k with
 | none =>
  have hv : vget r k = none := by simp [vget, hg]
  rw [hv]
  refine genT_of (l := [.slc, .bool]) ((none, 0, 0), false) (by refine (lookup_v K27 u57 z22 hw2 (hx1.get h2 (by simp)) h3 hk).trans ?_; rw [hg]; rfl) ?_
  refine iteP_t rfl ?_
  exact ⟨(none, 0, 0), rfl, by rw [hw2]; exact hx1, (by intro h; simp [got] at h), fun _ => rfl⟩
 | some v =>
  have hv : vget r k = some v.2 := by simp [vget, hg]
  obtain ⟨b, hb, _⟩ := mget_ok h3 hg
  obtain ⟨hO, hOf⟩ := h6 _ hb
  have hO : Mine H 0 y_uint8 1 v.1 (byteCells v.2) := hO
  have hlv := hlen _ hv
  rw [hv]
  refine genT_of (l := [.slc, .bool]) (v.1, true) (by refine (lookup_v K27 u57 z22 hw2 (hx1.get h2 (by simp)) h3 hk).trans ?_; rw [hg]; rfl) ?_
  refine iteP_f rfl ?_
  refine drewP_h hw2 fun w3 hw3 => ?_
  refine ldA_all hw3 hk1 (by simp [byteCells, hk]) ?_
  have hO1 := hO.ext hx1 (by simp)
  have hlen1 := hO.len
  have hle : v.1.2.1 ≤ v.1.2.2 := by
   rcases hO with ⟨h, _⟩ | ⟨_, _, _, _, _, _, _, h, _⟩
   ·rw [h]; exact Nat.le_refl _
   ·exact h
  refine callF_of (sum_c hw3 hO1.cells (by rw [← length_byteCells, hlen1, Nat.mul_one]) hle (hR.ext hx1 (by simp)) (by omega)) ?_
  rintro e w4 ⟨rfl, hx4⟩
  refine ⟨arr (Sha.sum v.2), rfl, ?_⟩
  refine ⟨ldA_all rfl (hx4.get hk1 (by simp)) (by simp [byteCells, hk]) rfl, ?_⟩
  refine genQ_of (s := .bool) _ (neqM_arr u27 u5 c5 g27 len_sum hk) ?_
  by_cases hs : Sha.sum v.2 = k
  ·refine iteP_f (by simp [hs]) ?_
   refine callF_of (clone_c rfl (hO1.ext hx4 (by simp)).cells (by rw [← length_byteCells, hlen1, Nat.mul_one]) (by omega)) ?_
   rintro e w5 ⟨x, rfl, hxO, hx5⟩
   refine ⟨x, rfl, ?_⟩
   have hgot : got (some v.2) k = 0 := by simp [got, hs]
   refine ⟨x, by rw [hgot]; rfl, (hx1.trans hx4).trans hx5, fun _ => ⟨_, rfl, hxO.mono (hx1.trans hx4).1⟩, fun h => absurd hgot h⟩
  ·refine iteP_t (by simp [hs]) ?_
   have hgot : got (some v.2) k = 51 := by simp [got, hs]
   exact ⟨(none, 0, 0), by rw [hgot]; rfl, hx1.trans hx4, (fun h => by rw [hgot] at h; cases h), fun _ => rfl⟩
def spoilt (L : List UInt8) (at_ : Int) (t : UInt8) : List UInt8 := L.set at_.toNat (L.getD at_.toNat 0 ^^^ t)
end Go.Proofs.YtbmegmbnlajbbaaGreatDoor.Bl
namespace Go.Proofs.YtbmegmbnlajbbaaGreatDoor.Bl
open Go Go.Fw Go.Proofs
abbrev BL := List (List UInt8 × List UInt8)
def fget (F : BL) (k : List UInt8) : Option (List UInt8) := (F.find? fun x => x.1 == k).map (·.2)
def fstep (F : BL) (L : List UInt8) : BL := if (fget F (Sha.sum L)).isSome then F else F ++ [(Sha.sum L, L)]
def fresh (Ls : List (List UInt8)) : BL := Ls.foldl fstep []
def extra (r : SM) (F : BL) : Nat := ((F.filter fun x => (vget r x.1).isNone).map fun x => x.2.length).sum
def putv (V : Option (List UInt8)) (o : Option (List UInt8)) (k : List UInt8) : Option (List UInt8) := match o with
 | none => V
 | some L => match V with
  | none => some L
  | some old => if Sha.sum old = k then some old else some L
def long (Ls : List (List UInt8)) : Prop := ∃ L ∈ Ls, 4096 < L.length
def Rows (H : Heap) (a : Option Addr) (n : Nat) (Ls : List (List UInt8)) : Prop := n = Ls.length ∧ ∀ i (h : i < Ls.length), ∃ b o c T fr x, a = some ⟨b, o, none⟩ ∧ H[b]? = some (.cells c T fr) ∧ c[o + i]? = some (slcV x) ∧ Cells H x.1 (byteCells Ls[i]) ∧
 x.2.1 = Ls[i].length ∧ x.2.1 ≤ x.2.2
def view (fr : SM) : BL := fr.map fun x => (x.1, x.2.1.2)
theorem fget_view {fr : SM} {k : List UInt8} : fget (view fr) k = vget fr k := by
 induction fr with
 | nil => rfl
 | cons x l ih =>
  simp only [fget, view, List.map_cons, List.find?_cons] at ih ⊢
  unfold vget
  by_cases e : x.1 = k
  ·rw [mget_cons_eq e]; simp [e]
  ·rw [mget_cons_ne e]
   have : (x.1 == k) = false := by simp [e]
   simp only [this]
   exact ih
theorem fresh_snoc {Ls : List (List UInt8)} {i : Nat} (h : i < Ls.length) : fresh (Ls.take (i + 1)) = fstep (fresh (Ls.take i)) Ls[i] := by
 unfold fresh
 rw [List.take_add_one, List.getElem?_eq_getElem h, Option.toList_some, List.foldl_append]
 rfl
theorem Store.mono {H : Heap} {fp fp' : List Nat} {p : Nat} {q : Int} {r : SM} {c : Nat} (h : Store H fp p q r c) (hf : ∀ b ∈ fp, b ∈ fp') : Store H fp' p q r c := by
 obtain ⟨m, h1, h2, h3, h4, h5, h6, h7⟩ := h
 exact ⟨m, h1, h2, h3, hf p h4, hf m h5, fun x hx => ⟨(h6 x hx).1, fun b hb => hf b ((h6 x hx).2 b hb)⟩, h7⟩
def olen (r : SM) (k : List UInt8) : Nat := match vget r k with | none => 0 | some L => L.length
theorem total_upd {r : SM} {c c' : Nat} (h : MOk (fun L => L.length = 32) r c) {k : List UInt8} {v : BV} : total (mupd r k v c') + olen r k = total r + v.2.length := by
 unfold olen vget
 cases hg : mget r k with
 | none =>
  rw [mupd_none hg]
  simp [total]
 | some v' =>
  rw [mupd_some (by rw [hg]; rfl)]
  simp only [Option.map_some]
  have hk := h.keys
  clear h
  induction r with
  | nil => simp [mget] at hg
  | cons x r ih =>
   simp only [List.map_cons, List.nodup_cons] at hk
   by_cases e : x.1 = k
   ·rw [mget_cons_eq e, Option.some.injEq] at hg
    have : r.map (fun x => if x.1 = k then (x.1, v, x.2.2) else x) = r := by
     rw [List.map_congr_left (g := id), List.map_id]
     intro y hy
     rw [if_neg]; rfl
     intro h; exact hk.1 (by rw [e, ← h]; exact List.mem_map.2 ⟨y, hy, rfl⟩)
    rw [List.map_cons, if_pos e, this, ← hg]
    simp only [total, List.map_cons, List.sum_cons]
    omega
   ·rw [mget_cons_ne e] at hg
    have := ih hg hk.2
    rw [List.map_cons, if_neg e]
    simp only [total, List.map_cons, List.sum_cons] at this ⊢
    omega
theorem vget_upd {r : SM} {k k' : List UInt8} {v : BV} {c : Nat} : vget (mupd r k v c) k' = if k' = k then some v.2 else vget r k' := by
 unfold vget; rw [mget_upd]; split <;> rfl
def Ph1 (H : Heap) (r : SM) (Ls : List (List UInt8)) (i : Nat) (x : Int) (w : World) : Prop :=
 ∃ (fr : SM) (cf : Nat), i ≤ Ls.length ∧ x = (extra r (view fr) : Int) ∧ view fr = fresh (Ls.take i) ∧ Ext [] H w.heap ∧ w.heap[H.size]? = some (.map (ents arr (vl bv fr)) cf) ∧ MOk (fun L => L.length = 32) fr cf ∧ fr.length ≤ i ∧
  (∀ x ∈ fr, Mine w.heap H.size y_uint8 1 x.2.1.1 (byteCells x.2.1.2) ∧ x.2.1.2.length ≤ 4096) ∧ Apart fr ∧ (∀ L ∈ Ls.take i, L.length ≤ 4096)
theorem extra_le {r : SM} {fr : SM} (h : ∀ x ∈ fr, x.2.1.2.length ≤ 4096) : extra r (view fr) ≤ 4096 * fr.length := by
 induction fr with
 | nil => simp [extra, view]
 | cons x l ih =>
  have h1 := ih fun y hy => h y (by simp [hy])
  have h2 := h x (by simp)
  simp only [extra, view, List.map_cons, List.filter_cons] at h1 ⊢
  split
  ·simp only [List.map_cons, List.sum_cons, List.length_cons]; omega
  ·simp only [List.length_cons]; omega
def Ph3 (H : Heap) (fp : List Nat) (p : Nat) (q : Int) (r fr : SM) (cf it : Nat) (n : Nat) (w : World) : Prop :=
 ∃ (seen : Array Nat) (r' : SM) (c' : Nat), Store w.heap (fp ++ fr.flatMap fun x => ownM x.2.1.1) p q r' c' ∧ Ext fp H w.heap ∧ w.heap[H.size]? = some (.map (ents arr (vl bv fr)) cf) ∧ w.heap[it]? = some (.mapIter (some H.size) cf seen cf) ∧ H.size ≤ it ∧
  (∀ x ∈ fr, Mine w.heap H.size y_uint8 1 x.2.1.1 (byteCells x.2.1.2)) ∧ (∀ k, vget r' k = if ∃ x ∈ fr, x.1 = k ∧ x.2.2 ∈ seen then putv (vget r k) (vget fr k) k else vget r k) ∧
  n = (fr.filter fun y => !seen.contains y.2.2).length ∧ total r' + 4096 * n ≤ total r + 4096 * fr.length ∧ (∀ y ∈ r', (∀ b ∈ ownM y.2.1.1, b ∈ fp) ∨ ∃ z ∈ fr, z.1 = y.1 ∧ z.2.1 = y.2.1)
def PutRes (q : Int) (r : SM) (Ls : List (List UInt8)) (code : Int) (r' : SM) : Prop :=
 (long Ls → code = 2 ∧ r' = r) ∧ (¬ long Ls → q < total r + extra r (fresh Ls) → code = 3 ∧ r' = r) ∧
 (¬ long Ls → ¬ q < total r + extra r (fresh Ls) → code = 0 ∧ ∀ k, vget r' k = putv (vget r k) (fget (fresh Ls) k) k)
set_option maxHeartbeats 8000000 in
theorem putall_c {w : World} {H : Heap} {fp : List Nat} {p : Nat} {q : Int} {r : SM} {c : Nat} {a : Option Addr} {n nc : Nat} {Ls : List (List UInt8)} (hw : w.heap = H) (hS : Store H fp p q r c) (hfp : ∀ b ∈ fp, b < H.size) (hR : Rounds H) (h0 : 0 ∉ fp)
  (hL : Rows H a n Ls) (hb : total r + 4096 * Ls.length < 1125899906842624) (hq : 0 ≤ q) (hq2 : q ≤ 9223372036854775807) (hlen : ∀ k L, vget r k = some L → L.length < 1099511627776) :
  CallF P F_blob_Store_PutAll #[.pointer (some ⟨p, 0, none⟩), .slice a n nc] w fun e w' => ∃ code r' c' fp', e = .returned (.int .i64 code) ∧ Store w'.heap fp' p q r' c' ∧ Ext fp H w'.heap ∧ (∀ b ∈ fp', b < w'.heap.size) ∧ (∀ b ∈ fp', b ∈ fp ∨ H.size ≤ b) ∧ PutRes q r Ls code r' ∧
   total r' ≤ total r + 4096 * Ls.length := by
 obtain ⟨rfl, hL⟩ := hL
 have hH0 : 0 < H.size := by obtain ⟨_, _, _, h, _⟩ := hR; exact lt_of_get h
 refine fn_blob_Store_PutAll ?_
 unfold T_blob_Store_PutAll
 refine iteP_f rfl ?_
 refine genL_of (s := .map) (some H.size) _ (makeMap_h hw) ?_
 refine loopP_of (fun (s : Int × Int) w => ∃ i : Nat, s.2 = (i : Int) ∧ Ph1 H r Ls i s.1 w) (fun s _ => (Ls.length - s.2).toNat) ⟨0, rfl, [], 0, by omega, rfl, rfl, .push _, push_new, .nil, by simp, (by intro x hx; cases hx), (by intro x hx; cases hx), (by simp)⟩ ?_
 rintro ⟨x, _⟩ w2 ⟨i, rfl, fr, cf, hi, rfl, hF, hx2, hm2, hok, hfl, hown, hap, hsm⟩
 refine iteP_dec (fun hlt => ?_) (fun hge => ?_)
 ·have hlt : i < Ls.length := by simp only at hlt; omega
  refine joinP_of (fun s w => Ph1 H r Ls (i + 1) s w) ?_ ?_
  rotate_left
  ·intro s2 w3 h3
   refine addI_to ((i + 1 : Nat) : Int) (by simp only; omega) (by omega) (by omega) ?_
   exact ⟨⟨i + 1, rfl, h3⟩, by simp only; omega⟩
  obtain ⟨ba, oa, ca, Ta, fra, xs, rfl, hba, hca, hxc, hxl, hxc2⟩ := hL i hlt
  refine ixS_1 i rfl hlt ?_
  refine ld_h (s := .slc) (t := xs) rfl (hx2.get hba (by simp)) hca ?_
  refine iteP_dec (fun hbig => ?_) (fun hsmall => ?_)
  ·-- too long
   have hlo : long Ls := ⟨Ls[i], List.getElem_mem hlt, by omega⟩
   exact ⟨2, r, c, fp, rfl, hS.ext hx2 (by simp), hx2.mono (by simp), fun b hb => Nat.lt_of_lt_of_le (hfp b hb) hx2.1, fun b hb => .inl hb, ⟨fun _ => ⟨rfl, rfl⟩, fun h => absurd hlo h, fun h => absurd hlo h⟩, by omega⟩
  have hlen4 : Ls[i].length ≤ 4096 := by omega
  generalize hLi : Ls[i] = L at *
  generalize hH2 : w2.heap = H2 at *
  have hxc' := hxc.ext hx2 (by simp)
  refine callF_of (sum_c hH2 hxc' hxl hxc2 (hR.ext hx2 (by simp)) (by omega)) ?_
  rintro e w3 ⟨rfl, hx3⟩
  refine ⟨arr (Sha.sum L), rfl, ?_⟩
  generalize hH3 : w3.heap = H3 at *
  have hx23 : Ext [] H H3 := hx2.trans hx3
  refine newB_h hH3 fun w4 hw4 => ?_
  refine storeVar_h (size27.trans (by rw [cells_arr, len_sum])) (by rw [cells_arr, len_sum]; omega) one_byteCells hw4 push_new (by rw [zc27, cells_arr, len_sum]; simp) fun w5 hw5 => ?_
  rw [show setCells (zc P y_api_Digest) 0 (Value.cells (arr (Sha.sum L))).toList = (byteCells (Sha.sum L)).toArray from by rw [setCells_all (by rw [zc27, Array.length_toList, cells_arr, len_sum]; simp)]; simp [Value.cells, arr]] at hw5
  have hx5 : Ext [] H3 w5.heap := by rw [hw5]; exact (Ext.push _).set_own (.inl (Nat.le_refl _))
  have hk5 : w5.heap[H3.size]? = some (.cells (byteCells (Sha.sum L)).toArray y_api_Digest (0, 0)) := by rw [hw5]; exact set_new push_new
  generalize hH5 : w5.heap = H5 at *
  have hx25 : Ext [] H2 H5 := hx3.trans hx5
  have hm5 := hx25.get hm2 (by simp)
  refine ldA_all hH5 hk5 (by simp [byteCells, len_sum]) ?_
  have hown5 : ∀ x ∈ fr, Mine H5 H.size y_uint8 1 x.2.1.1 (byteCells x.2.1.2) ∧ x.2.1.2.length ≤ 4096 := fun x hx => ⟨(hown x hx).1.ext hx25 (by simp), (hown x hx).2⟩
  cases hg : mget fr (Sha.sum L) with
  | some v =>
   refine genT_of (l := [.slc, .bool]) (v.1, true) (by refine (lookup_v K27 u57 z22 hH5 hm5 hok len_sum).trans ?_; rw [hg]; rfl) ?_
   refine iteP_t rfl ?_
   refine ⟨fr, cf, hlt, rfl, ?_, ?_, ?_, hok, by omega, ?_, hap, ?_⟩
   ·rw [fresh_snoc hlt, ← hF, hLi]
    unfold fstep
    rw [fget_view, if_pos (by simp [vget, hg])]
   ·rw [hH5]; exact hx2.trans hx25
   ·rw [hH5]; exact hm5
   ·rw [hH5]; exact hown5
   ·intro M hM
    rw [List.take_add_one, List.mem_append] at hM
    rcases hM with hM | hM
    ·exact hsm M hM
    ·rw [List.getElem?_eq_getElem hlt] at hM; simp at hM; rw [hM, hLi]; exact hlen4
  | none =>
   refine genT_of (l := [.slc, .bool]) ((none, 0, 0), false) (by refine (lookup_v K27 u57 z22 hH5 hm5 hok len_sum).trans ?_; rw [hg]; rfl) ?_
   refine iteP_f rfl ?_
   refine drewP_h hH5 fun w6 hw6 => ?_
   refine ldA_all hw6 hk5 (by simp [byteCells, len_sum]) ?_
   refine callF_of (clone_c hw6 (hxc'.ext hx25 (by simp)) hxl (by omega)) ?_
   rintro e w7 ⟨y, rfl, hyO, hx7⟩
   refine ⟨y, rfl, ?_⟩
   generalize hH7 : w7.heap = H7 at *
   refine ⟨ldA_all hH7 (hx7.get hk5 (by simp)) (by simp [byteCells, len_sum]) rfl, ?_⟩
   have hm7 := hx7.get hm5 (by simp)
   refine genU_of _ (update_v K27 u57 hH7 hm7 hok len_sum (y, L) rfl) ?_
   refine drewP_h rfl fun w8 hw8 => ?_
   simp only [withAddr_some]
   obtain ⟨m, h1, h2, h3, h4, h5, h6, h7⟩ := hS
   have hx57 : Ext [] H H7 := (hx2.trans hx25).trans hx7
   have hx8 : Ext [] H (H7.setIfInBounds H.size (.map (ents arr (vl bv (mupd fr (Sha.sum L) (y, L) cf))) (mclk fr (Sha.sum L) cf))) := hx57.set_own (.inl (Nat.le_refl _))
   have hx78 : Ext [H.size] H7 (H7.setIfInBounds H.size (.map (ents arr (vl bv (mupd fr (Sha.sum L) (y, L) cf))) (mclk fr (Sha.sum L) cf))) := Ext.set _ (by simp)
   have hk8 : (H7.setIfInBounds H.size (.map (ents arr (vl bv (mupd fr (Sha.sum L) (y, L) cf))) (mclk fr (Sha.sum L) cf)))[H3.size]? = some (.cells (byteCells (Sha.sum L)).toArray y_api_Digest (0, 0)) :=
    set_old (hx7.get hk5 (by simp)) (by have := lt_of_get hm2; have := hx3.1; omega)
   have hm8 : (H7.setIfInBounds H.size (.map (ents arr (vl bv (mupd fr (Sha.sum L) (y, L) cf))) (mclk fr (Sha.sum L) cf)))[H.size]? = some (.map (ents arr (vl bv (mupd fr (Sha.sum L) (y, L) cf))) (mclk fr (Sha.sum L) cf)) := set_new hm7
   generalize (H7.setIfInBounds H.size (.map (ents arr (vl bv (mupd fr (Sha.sum L) (y, L) cf))) (mclk fr (Sha.sum L) cf))) = H8 at *
   refine ld_h (t := some m) hw8 (hx8.get h1 (by simp)) rfl ?_
   refine ldA_all hw8 hk8 (by simp [byteCells, len_sum]) ?_
   have hupd : mupd fr (Sha.sum L) (y, L) cf = fr ++ [(Sha.sum L, (y, L), cf)] := mupd_none hg
   have hvw : view (mupd fr (Sha.sum L) (y, L) cf) = view fr ++ [(Sha.sum L, L)] := by rw [hupd]; simp [view]
   have hVw : view fr ++ [(Sha.sum L, L)] = fresh (Ls.take (i + 1)) := by
    rw [fresh_snoc hlt, ← hF, hLi]
    unfold fstep
    rw [fget_view, if_neg (by simp [vget, hg])]
   have fin : ∀ (X : Int), X = (extra r (view fr ++ [(Sha.sum L, L)]) : Int) → Ph1 H r Ls (i + 1) X w8 := by
    intro X hX
    refine ⟨mupd fr (Sha.sum L) (y, L) cf, mclk fr (Sha.sum L) cf, hlt, by rw [hvw]; exact hX, by rw [hvw, hVw], by rw [hw8]; exact hx8, by rw [hw8]; exact hm8, hok.upd len_sum _, by rw [hupd]; simp; omega, ?_, ?_, ?_⟩
    ·intro z hz
     rw [hw8]
     rcases mem_upd hz with ⟨hz1, hz2⟩ | ⟨_, hz2⟩
     ·rw [hz2]
      refine ⟨(hyO.ext hx78 fun b hb => ?_).mono (hx2.trans hx25).1, hlen4⟩
      have := ownM_ge hyO b hb
      have := lt_of_get hm5
      simp; omega
     ·refine ⟨((hown5 z hz2).1.ext hx7 (by simp)).ext hx78 fun b hb => ?_, (hown5 z hz2).2⟩
      rcases (hown5 z hz2).1 with ⟨h, _⟩ | ⟨bb, cc, h, _, hbb, _⟩
      ·simp [ownM, h] at hb
      ·simp only [ownM, h, List.mem_singleton] at hb
       subst hb
       simp only [List.mem_singleton]
       intro e; rw [e, hm5] at hbb; cases hbb
    ·have far : ∀ z ∈ fr, ∀ b ∈ ownM z.2.1.1, b < H5.size := by
      intro z hz b hb
      rcases (hown5 z hz).1 with ⟨h, _⟩ | ⟨bb, cc, h, _, hbb, _⟩
      ·simp [ownM, h] at hb
      ·simp only [ownM, h, List.mem_singleton] at hb
       subst hb; exact lt_of_get hbb
     intro z hz z' hz' hne b hb hb'
     rcases mem_upd hz with ⟨hz1, hz2⟩ | ⟨hz1, hz2⟩ <;> rcases mem_upd hz' with ⟨hz1', hz2'⟩ | ⟨hz1', hz2'⟩
     ·exact hne (hz1.trans hz1'.symm)
     ·rw [hz2] at hb
      have := ownM_ge hyO b hb
      have := far z' hz2' b hb'
      omega
     ·rw [hz2'] at hb'
      have := ownM_ge hyO b hb'
      have := far z hz2 b hb
      omega
     ·exact hap z hz2 z' hz2' hne b hb hb'
    ·intro M hM
     rw [List.take_add_one, List.mem_append] at hM
     rcases hM with hM | hM
     ·exact hsm M hM
     ·rw [List.getElem?_eq_getElem hlt] at hM; simp at hM; rw [hM, hLi]; exact hlen4
   have hxl2 : (xs.2.1 : Int) = (L.length : Int) := by rw [hxl]
   cases hgr : mget r (Sha.sum L) with
   | none =>
    refine genT_of (l := [.slc, .bool]) ((none, 0, 0), false) (by refine (lookup_v K27 u57 z22 hw8 (hx8.get h2 (by simp)) h3 len_sum).trans ?_; rw [hgr]; rfl) ?_
    refine iteP_t rfl ?_
    have hel := extra_le (r := r) fun x hx => (hown x hx).2
    refine addI_to ((extra r (view fr) + L.length : Nat) : Int) (by omega) (by omega) (by omega) ?_
    refine fin _ ?_
    simp only [extra, List.filter_append, List.map_append, List.sum_append]
    have : (vget r (Sha.sum L)).isNone = true := by simp [vget, hgr]
    simp [this]
   | some v =>
    refine genT_of (l := [.slc, .bool]) (v.1, true) (by refine (lookup_v K27 u57 z22 hw8 (hx8.get h2 (by simp)) h3 len_sum).trans ?_; rw [hgr]; rfl) ?_
    refine iteP_f rfl ?_
    refine fin _ ?_
    simp only [extra, List.filter_append, List.map_append, List.sum_append]
    have : (vget r (Sha.sum L)).isNone = false := by simp [vget, hgr]
    simp [this]
 have hiL : i = Ls.length := by simp only at hge; omega
 subst hiL
 rw [List.take_length] at hF hsm
 have hnl : ¬ long Ls := fun ⟨L, hL', h⟩ => by have := hsm L hL'; omega
 have hex := extra_le (r := r) (fr := fr) fun x hx => (hown x hx).2
 have hS0 := hS
 obtain ⟨m, h1, h2, h3, h4, h5, h6, h7⟩ := hS
 refine drewP_h rfl fun w3 hw3 => ?_
 generalize hH2 : w2.heap = H2 at *
 simp only [withAddr_some]
 refine ld_h (t := q) hw3 (hx2.get h1 (by simp)) rfl ?_
 refine ld_h (t := (total r : Int)) hw3 (hx2.get h1 (by simp)) rfl ?_
 refine subI_to (q - total r) rfl (by omega) (by omega) ?_
 refine iteP_dec (fun hbig => ?_) (fun hfit => ?_)
 ·have hbig : q < total r + extra r (fresh Ls) := by rw [← hF]; omega
  exact ⟨3, r, c, fp, rfl, by rw [hw3]; exact hS0.ext hx2 (by simp), by rw [hw3]; exact hx2.mono (by simp), fun b hb => by rw [hw3]; exact Nat.lt_of_lt_of_le (hfp b hb) hx2.1, fun b hb => .inl hb, ⟨fun h => absurd h hnl, fun _ _ => ⟨rfl, rfl⟩, fun _ h => absurd hbig h⟩, by omega⟩
 have hfit : ¬ q < total r + extra r (fresh Ls) := by rw [← hF]; omega
 have hHH : H.size < H2.size := lt_of_get hm2
 refine genL_of (s := .ptr) (some ⟨H2.size, 0, none⟩) _ (range_h u57 hw3 hm2) ?_
 have hxr : Ext [] H2 (H2.push (.mapIter (some H.size) cf #[] cf)) := .push _
 refine loopP_ix (fun n _ w => Ph3 H fp p q r fr cf H2.size n w) fr.length
  ⟨#[], r, c, ((hS0.ext hx2 (by simp)).ext hxr (by simp)).mono fun b hb => List.mem_append.2 (.inl hb), (hx2.trans hxr).mono (by simp), hxr.get hm2 (by simp), push_new, Nat.le_of_lt hHH, fun x hx => (hown x hx).1.ext hxr (by simp), ?_, ?_, by omega, fun y hy => .inl (h6 y hy).2⟩ ?_
 ·intro k
  rw [if_neg]
  rintro ⟨x, _, _, h⟩
  simp at h
 ·rw [List.filter_eq_self.2]
  intro y _; simp
 rintro n _ w4 ⟨seen, r', c', hS4, hx4, hm4, hit4, hitl, hown4, hview, hn, htot, hsrc⟩ K hK
 have hFB : ∀ b ∈ fp ++ fr.flatMap (fun x => ownM x.2.1.1), b < w4.heap.size ∧ b ≠ H.size ∧ b ≠ H2.size ∧ (b ∈ fp ∨ H.size ≤ b) := by
  intro b hb
  rcases List.mem_append.1 hb with hb | hb
  ·have := hfp b hb
   have := hx4.1
   exact ⟨by omega, by omega, by omega, .inl hb⟩
  ·obtain ⟨x, hx, hb⟩ := List.mem_flatMap.1 hb
   rcases hown4 x hx with ⟨h, _⟩ | ⟨bb, cc, h, hge', hbb, _⟩
   ·simp [ownM, h] at hb
   ·simp only [ownM, h, List.mem_singleton] at hb
    subst hb
    exact ⟨lt_of_get hbb, fun e => (by rw [e, hm4] at hbb; cases hbb), fun e => (by rw [e, hit4] at hbb; cases hbb), .inr hge'⟩
 have hfrlen : fr.length ≤ Ls.length := hfl
 rcases next_v (P := P) (ty := 0) rfl hm4 hit4 hok.old (Nat.le_refl _) with ⟨hall, w5, hr5, hcm5, hw5⟩ | ⟨x, hx, hns, w5, hr5, hcm5, hw5⟩
 ·refine genL_of (s := .any) _ w5 hr5 ?_ hcm5
  refine exV_of (s := .bool) false rfl rfl ?_
  refine iteP_f rfl ?_
  refine ⟨0, r', c', _, rfl, by rw [hw5]; exact hS4, by rw [hw5]; exact hx4, fun b hb => by rw [hw5]; exact (hFB b hb).1, fun b hb => (hFB b hb).2.2.2, ⟨fun h => absurd h hnl, fun _ h => absurd h hfit, fun _ _ => ⟨rfl, fun k => ?_⟩⟩, by omega⟩
  rw [hview, ← hF, fget_view]
  by_cases hk : ∃ x ∈ fr, x.1 = k ∧ x.2.2 ∈ seen
  ·rw [if_pos hk]
  ·rw [if_neg hk]
   have : vget fr k = none := by
    unfold vget
    rw [mget_none_of]; rfl
    intro x hx e
    exact hk ⟨x, hx, e, hall x hx⟩
   rw [this]; rfl
 ·refine genL_of (s := .any) _ w5 hr5 ?_ hcm5
  refine exV_of (s := .bool) true rfl rfl ?_
  refine iteP_t rfl ?_
  refine joinP_of (fun _ w => ∃ n', n' < n ∧ Ph3 H fp p q r fr cf H2.size n' w) ?_ (fun _ w h => by obtain ⟨n', hn', hp⟩ := h; exact hK n' _ _ hn' hp)
  have hx1 : x.1.length = 32 := hok.fine x hx
  generalize hH4 : w4.heap = H4 at *
  have hit5 : w5.heap[H2.size]? = some (.mapIter (some H.size) cf (seen.push x.2.2) cf) := by rw [hw5]; exact set_new hit4
  have hx45 : Ext [H2.size] H4 w5.heap := by rw [hw5]; exact Ext.set _ (by simp)
  generalize hH5 : w5.heap = H5 at *
  clear hw5
  have hm5 := hx45.get hm4 (by simp; omega)
  refine genQ_of (s := .any) _ (entry_v (last := cf) hH5 hm5 hit5 hx hok) ?_
  refine exV_of (s := .any) (arr x.1) rfl rfl ?_
  refine exV_of (s := .slc) x.2.1.1 rfl rfl ?_
  refine newB_h hH5 fun w6 hw6 => ?_
  refine storeVar_h (size27.trans (by rw [cells_arr, hx1])) (by rw [cells_arr, hx1]; omega) one_byteCells hw6 push_new (by rw [zc27, cells_arr, hx1]; simp) fun w7 hw7 => ?_
  rw [show setCells (zc P y_api_Digest) 0 (Value.cells (arr x.1)).toList = (byteCells x.1).toArray from by rw [setCells_all (by rw [zc27, Array.length_toList, cells_arr, hx1]; simp)]; simp [Value.cells, arr]] at hw7
  have hx57 : Ext [] H5 w7.heap := by rw [hw7]; exact (Ext.push _).set_own (.inl (Nat.le_refl _))
  have hk7 : w7.heap[H5.size]? = some (.cells (byteCells x.1).toArray y_api_Digest (0, 0)) := by rw [hw7]; exact set_new push_new
  generalize hH7 : w7.heap = H7 at *
  clear hw7
  have hx47 : Ext [H2.size] H4 H7 := hx45.trans (hx57.mono (by simp))
  have hS7 := hS4.ext hx47 fun b hb => by simpa using (hFB b hb).2.2.1
  have hx7 : Ext fp H H7 := hx4.own hx47 (by intro b hb hlt; simp at hb; omega)
  have hm7 := hx57.get hm5 (by simp)
  have hit7 := hx57.get hit5 (by simp)
  have hown7 : ∀ x ∈ fr, Mine H7 H.size y_uint8 1 x.2.1.1 (byteCells x.2.1.2) := fun y hy => (hown4 y hy).ext hx47 fun b hb => by
   simpa using (hFB b (List.mem_append.2 (.inr (List.mem_flatMap.2 ⟨y, hy, hb⟩)))).2.2.1
  have hR7 := hR.ext hx7 h0
  obtain ⟨m', g1, g2, g3, g4, g5, g6, g7⟩ := hS7
  have hvx : vget r' x.1 = vget r x.1 := by
   rw [hview, if_neg]
   rintro ⟨y, hy, e, hs⟩
   rw [key_inj hok hy hx e] at hs
   exact hns hs
  have hfx : vget fr x.1 = some x.2.1.2 := by
   unfold vget
   rw [mget_of_mem hok.keys (k := x.1) (v := x.2.1) (c := x.2.2) hx]; rfl
  have hdone : ∀ k, (∃ y ∈ fr, y.1 = k ∧ y.2.2 ∈ seen.push x.2.2) ↔ (k = x.1 ∨ ∃ y ∈ fr, y.1 = k ∧ y.2.2 ∈ seen) := by
   intro k
   constructor
   ·rintro ⟨y, hy, e, hs⟩
    rcases Array.mem_push.1 hs with hs | hs
    ·exact .inr ⟨y, hy, e, hs⟩
    ·rw [← e, Go.Fw.born_inj hok hy hx hs]; exact .inl rfl
   ·rintro (rfl | ⟨y, hy, e, hs⟩)
    ·exact ⟨x, hx, rfl, Array.mem_push.2 (.inr rfl)⟩
    ·exact ⟨y, hy, e, Array.mem_push.2 (.inl hs)⟩
  have hlt := left_lt (l := fr) hx hns
  have fin : ∀ (w : World) (r2 : SM) (c2 : Nat), Store w.heap (fp ++ fr.flatMap fun x => ownM x.2.1.1) p q r2 c2 → Ext fp H7 w.heap → Ext [p, m'] H7 w.heap → (∀ k, vget r2 k = if k = x.1 then putv (vget r k) (some x.2.1.2) k else vget r' k) →
    total r2 ≤ total r' + 4096 → (∀ y ∈ r2, (∀ b ∈ ownM y.2.1.1, b ∈ fp) ∨ ∃ z ∈ fr, z.1 = y.1 ∧ z.2.1 = y.2.1) → ∃ n', n' < n ∧ Ph3 H fp p q r fr cf H2.size n' w := by
   intro w r2 c2 hS2 hxe hxe2 hv2 ht2 hs2
   have np : ∀ b, (b = H.size ∨ b = H2.size) → b ∉ [p, m'] := by
    intro b hb hb'
    simp only [List.mem_cons, List.not_mem_nil, or_false] at hb'
    rcases hb' with rfl | rfl
    ·have := hFB b g4; omega
    ·have := hFB b g5; omega
   refine ⟨(fr.filter fun y => !(seen.push x.2.2).contains y.2.2).length, by omega, seen.push x.2.2, r2, c2, hS2, hx7.trans hxe, hxe2.get hm7 (np _ (.inl rfl)), hxe2.get hit7 (np _ (.inr rfl)), hitl, ?_, ?_, rfl, by omega, hs2⟩
   ·intro y hy
    refine (hown7 y hy).ext hxe2 fun b hb hb' => ?_
    rcases hown7 y hy with ⟨h, _⟩ | ⟨bb, cc, h, _, hbb, _⟩
    ·simp [ownM, h] at hb
    ·simp only [ownM, h, List.mem_singleton] at hb
     subst hb
     simp only [List.mem_cons, List.not_mem_nil, or_false] at hb'
     rcases hb' with e | e
     ·rw [e, g1] at hbb; cases hbb
     ·rw [e, g2] at hbb; cases hbb
   ·intro k
    rw [hv2]
    by_cases hk : k = x.1
    ·rw [if_pos hk, if_pos ((hdone k).2 (.inl hk)), hk, hfx]
    ·rw [if_neg hk, hview]
     by_cases hd : ∃ y ∈ fr, y.1 = k ∧ y.2.2 ∈ seen
     ·rw [if_pos hd, if_pos ((hdone k).2 (.inr hd))]
     ·rw [if_neg hd, if_neg fun h => by rcases (hdone k).1 h with h | h; exact hk h; exact hd h]
  refine drewP_h hH7 fun w8 hw8 => ?_
  refine ld_h (t := some m') hw8 g1 rfl ?_
  refine ldA_all hw8 hk7 (by simp [byteCells, hx1]) ?_
  refine genT_of (l := [.slc, .bool]) (((mget r' x.1).map (·.1)).getD (none, 0, 0), (mget r' x.1).isSome) ?_ ?_
  ·refine (lookup_v K27 u57 z22 hw8 g2 g3 hx1).trans ?_
   cases mget r' x.1 <;> rfl
  refine joinP_of (fun _ w => Ext [] H7 w.heap ∧ ∀ old, vget r x.1 = some old → Sha.sum old ≠ x.1) ?_ ?_
  ·refine drewP_h hw8 fun w9 hw9 => ?_
   cases hg : mget r' x.1 with
   | none =>
    refine iteP_f rfl ?_
    refine ⟨trivial, by rw [hw9]; exact .refl _ _, fun old ho => ?_⟩
    rw [← hvx] at ho
    simp [vget, hg] at ho
   | some v =>
    have hv : vget r x.1 = some v.2 := by rw [← hvx]; simp [vget, hg]
    obtain ⟨bv', hbv, _⟩ := mget_ok g3 hg
    have hO : Mine H7 0 y_uint8 1 v.1 (byteCells v.2) := (g6 _ hbv).1
    have hvl := hlen _ _ hv
    have hle : v.1.2.1 ≤ v.1.2.2 := by
     rcases hO with ⟨h, _⟩ | ⟨_, _, _, _, _, _, _, h, _⟩
     ·rw [h]; exact Nat.le_refl _
     ·exact h
    have hll := hO.len
    rw [length_byteCells, Nat.mul_one] at hll
    refine iteP_t rfl ?_
    refine ldA_all hw9 hk7 (by simp [byteCells, hx1]) ?_
    refine callF_of (sum_c hw9 hO.cells (by simp only [Option.map_some, Option.getD_some]; exact hll.symm) (by simpa using hle) hR7 (by omega)) ?_
    rintro e w10 ⟨rfl, hx10⟩
    refine ⟨arr (Sha.sum v.2), rfl, ?_⟩
    refine ⟨ldA_all rfl (hx10.get hk7 (by simp)) (by simp [byteCells, hx1]) rfl, ?_⟩
    refine genQ_of (s := .bool) _ (eqM_arr u27 u5 c5 g27 len_sum hx1) ?_
    refine iteP_dec (fun hs => ?_) (fun hs => ?_)
    ·-- whole already
     refine fin _ r' c' ?_ (hx10.mono (by simp)) (hx10.mono (by simp)) (fun k => ?_) (by omega) hsrc
     ·have := (show Store H7 (fp ++ fr.flatMap fun x => ownM x.2.1.1) p q r' c' from ⟨m', g1, g2, g3, g4, g5, g6, g7⟩)
      exact this.ext hx10 (by simp)
     ·by_cases hk : k = x.1
      ·subst hk
       rw [if_pos rfl, hvx, hv]
       simp [putv, hs]
      ·rw [if_neg hk]
    ·refine ⟨hx10, fun old ho => ?_⟩
     rw [hv] at ho
     cases ho
     exact hs
  ·rintro _ w9 ⟨hx79, hold⟩
   generalize hH9 : w9.heap = H9 at *
   have g1' := hx79.get g1 (by simp)
   have hol : (((((mget r' x.1).map fun v : BV => v.1).getD ((none, 0, 0) : Option Addr × Nat × Nat)).2.1 : Nat) : Int) = (olen r x.1 : Int) := by
    unfold olen
    rw [← hvx]
    unfold vget
    cases hg : mget r' x.1 with
    | none => rfl
    | some v =>
     obtain ⟨bv', hbv, _⟩ := mget_ok g3 hg
     have hO : Mine H7 0 y_uint8 1 v.1 (byteCells v.2) := (g6 _ hbv).1
     have hll := hO.len
     rw [length_byteCells, Nat.mul_one] at hll
     simp [hll]
   have hxlen : x.2.1.1.2.1 = x.2.1.2.length := by
    have := (hown7 x hx).len
    rw [length_byteCells] at this; omega
   have hx4k := (hown x hx).2
   have htu := total_upd g3 (k := x.1) (v := x.2.1) (c' := c')
   have hol2 : olen r' x.1 = olen r x.1 := by unfold olen; rw [hvx]
   rw [hol2] at htu
   have htb : total r' ≤ total r + 4096 * fr.length := by omega
   refine ld_h (t := (total r' : Int)) hH9 g1' rfl ?_
   refine subI_to ((x.2.1.2.length : Int) - (olen r x.1 : Int)) (by rw [hol, hxlen]) (by omega) (by omega) ?_
   refine addI_to ((total (mupd r' x.1 x.2.1 c') : Nat) : Int) (by omega) (by omega) (by omega) ?_
   refine stC_h hH9 g1' (by simp) fun w10 hw10 => ?_
   refine drewP_h hw10 fun w11 hw11 => ?_
   have hpm : p ≠ m' := by intro e; rw [e] at g1; rw [g1] at g2; cases g2
   have g2' := hx79.get g2 (by simp)
   have hk9 := hx79.get hk7 (by simp)
   have hp10 : w10.heap[p]? = some (.cells #[Value.int .i64 q, .int .i64 (total (mupd r' x.1 x.2.1 c') : Int), .map (some m')] y_blob_Store (0, 0)) := by rw [hw10]; exact set_new g1'
   have hm10 : w10.heap[m']? = some (.map (ents arr (vl bv r')) c') := by rw [hw10]; exact set_old g2' (Ne.symm hpm)
   have hk10 : w10.heap[H5.size]? = some (.cells (byteCells x.1).toArray y_api_Digest (0, 0)) := by
    rw [hw10]; exact set_old hk9 (show H5.size ≠ p from fun e => by rw [← e, hk7] at g1; injection g1 with g1; injection g1 with _ g1; exact absurd g1 (by decide))
   have hx10 : Ext [p] H7 w10.heap := by rw [hw10]; exact (hx79.mono (by simp)).trans (Ext.set _ (by simp))
   rw [← hw10] at hw11
   generalize w10.heap = H10 at *
   refine ld_h (t := some m') hw11 hp10 rfl ?_
   refine ldA_all hw11 hk10 (by simp [byteCells, hx1]) ?_
   refine genU_of _ (update_v K27 u57 hw11 hm10 g3 hx1 x.2.1 rfl) ?_
   have hx11 : Ext [p, m'] H7 (H10.setIfInBounds m' (.map (ents arr (vl bv (mupd r' x.1 x.2.1 c'))) (mclk r' x.1 c'))) := (hx10.mono (by simp)).trans (Ext.set _ (by simp))
   have hpf : p ∈ fp := h4
   have hpm' : m' ∈ fp := by
    rcases List.mem_append.1 g5 with h | h
    ·exact h
    ·obtain ⟨z, hz, hb⟩ := List.mem_flatMap.1 h
     rcases hown7 z hz with ⟨h, _⟩ | ⟨bb, cc, h, _, hbb, _⟩
     ·simp [ownM, h] at hb
     ·simp only [ownM, h, List.mem_singleton] at hb
      subst hb
      rw [g2] at hbb; cases hbb
   refine fin _ (mupd r' x.1 x.2.1 c') (mclk r' x.1 c') ⟨m', set_old hp10 hpm, set_new hm10, g3.upd hx1 _, g4, g5, ?_, ?_⟩ (hx11.mono (by simp [hpf, hpm'])) hx11 (fun k => ?_) (by omega) ?_
   ·intro y hy
    have ex : ∀ (s : BV), (∀ b ∈ ownM s.1, b ∈ fp ++ fr.flatMap fun x => ownM x.2.1.1) → ∀ B, Mine H7 B y_uint8 1 s.1 (byteCells s.2) → Mine (H10.setIfInBounds m' (.map (ents arr (vl bv (mupd r' x.1 x.2.1 c'))) (mclk r' x.1 c'))) 0 5 1 s.1 (byteCells s.2) := by
     intro s _ B hO
     refine (hO.mono (Nat.zero_le _)).ext hx11 fun b hb hb' => ?_
     rcases hO with ⟨h, _⟩ | ⟨bb, cc, h, _, hbb, _⟩
     ·simp [ownM, h] at hb
     ·simp only [ownM, h, List.mem_singleton] at hb
      subst hb
      simp only [List.mem_cons, List.not_mem_nil, or_false] at hb'
      rcases hb' with e | e
      ·rw [e, g1] at hbb; cases hbb
      ·rw [e, g2] at hbb; cases hbb
    rcases mem_upd hy with ⟨hy1, hy2⟩ | ⟨hy1, hy2⟩
    ·rw [hy2]
     have hsub : ∀ b ∈ ownM x.2.1.1, b ∈ fp ++ fr.flatMap fun x => ownM x.2.1.1 := fun b hb => List.mem_append.2 (.inr (List.mem_flatMap.2 ⟨x, hx, hb⟩))
     exact ⟨ex _ hsub _ (hown7 x hx), hsub⟩
    ·exact ⟨ex _ (g6 y hy2).2 _ (g6 y hy2).1, (g6 y hy2).2⟩
   ·-- apart
    have sep : ∀ y ∈ r', y.1 ≠ x.1 → ∀ b ∈ ownM y.2.1.1, b ∉ ownM x.2.1.1 := by
     intro y hy hne b hb hb'
     rcases hsrc y hy with h | ⟨z, hz, hz1, hz2⟩
     ·have := hfp b (h b hb)
      have := ownM_ge (hown7 x hx) b hb'
      omega
     ·rw [← hz2] at hb
      exact hap z hz x hx (by rw [hz1]; exact hne) b hb hb'
    intro y hy y' hy' hne b hb hb'
    rcases mem_upd hy with ⟨a1, a2⟩ | ⟨a1, a2⟩ <;> rcases mem_upd hy' with ⟨b1, b2⟩ | ⟨b1, b2⟩
    ·exact hne (a1.trans b1.symm)
    ·rw [a2] at hb
     exact sep y' b2 b1 b hb' hb
    ·rw [b2] at hb'
     exact sep y a2 a1 b hb hb'
    ·exact g7 y a2 y' b2 hne b hb hb'
   ·rw [vget_upd]
    by_cases hk : k = x.1
    ·rw [if_pos hk, if_pos hk]
     subst hk
     cases hv : vget r x.1 with
     | none => rfl
     | some old => simp only [putv, if_neg (hold old hv)]
    ·rw [if_neg hk, if_neg hk]
   ·intro y hy
    rcases mem_upd hy with ⟨a1, a2⟩ | ⟨a1, a2⟩
    ·exact .inr ⟨x, hx, a1.symm, a2.symm⟩
    ·exact hsrc y a2
end Go.Proofs.YtbmegmbnlajbbaaGreatDoor.Bl
namespace Go.Proofs.YtbmegmbnlajbbaaGreatDoor.Bl
open Go Go.Fw Go.Proofs
theorem bs37 (a : Option Addr) (l c : Nat) (w : World) : (Instr.buildSlice y_S_S_uint8 1 #[(0, .slice a l c)]).run P w = .ok (.slice (some ⟨w.heap.size, 0, none⟩) 1 1) { w with heap := w.heap.push (.cells #[.slice a l c] y_S_uint8) } := by kernel_rfl
theorem fresh_one (L : List UInt8) : fresh [L] = [(Sha.sum L, L)] := rfl
theorem long_one (L : List UInt8) : long [L] ↔ 4096 < L.length := by simp [long]
def nought : List UInt8 := List.replicate 32 0
theorem len_nought : nought.length = 32 := by simp [nought]
def Small (r : SM) : Prop := ∀ k L, vget r k = some L → L.length < 1099511627776
theorem put_c {w : World} {H : Heap} {fp : List Nat} {p : Nat} {q : Int} {r : SM} {c : Nat} {a : Option Addr} {l lc : Nat} {L : List UInt8} (hw : w.heap = H) (hS : Store H fp p q r c) (hfp : ∀ b ∈ fp, b < H.size) (hR : Rounds H) (h0 : 0 ∉ fp)
  (hL : Cells H a (byteCells L)) (hl : l = L.length) (hc : l ≤ lc) (ha : L ≠ [] → ∀ y, a = some y → y.block ∉ fp)
  (hb : total r + 4096 < 1125899906842624) (hq : 0 ≤ q) (hq2 : q ≤ 9223372036854775807) (hlen : Small r) :
  CallF P F_blob_Store_Put #[.pointer (some ⟨p, 0, none⟩), .slice a l lc] w fun e w' => ∃ code r' c' fp', e = .returned (.tuple #[arr (if code = 0 then Sha.sum L else nought), .int .i64 code]) ∧ Store w'.heap fp' p q r' c' ∧ Ext fp H w'.heap ∧ (∀ b ∈ fp', b < w'.heap.size) ∧ (∀ b ∈ fp', b ∈ fp ∨ H.size ≤ b) ∧ PutRes q r [L] code r' ∧
   total r' ≤ total r + 4096 := by
 refine fn_blob_Store_Put ?_
 unfold T_blob_Store_Put
 refine newB_h hw fun w1 hw1 => ?_
 have hx1 : Ext [] H (H.push (.cells (zc P y_api_Digest) y_api_Digest)) := .push _
 have hz1 : (H.push (.cells (zc P y_api_Digest) y_api_Digest (0, 0)))[H.size]? = some (.cells (zc P y_api_Digest) y_api_Digest (0, 0)) := push_new
 generalize hH1 : H.push (.cells (zc P y_api_Digest) y_api_Digest (0, 0)) = H1 at *
 refine genL_of (s := .slc) (some ⟨H1.size, 0, none⟩, 1, 1) _ (by rw [bs37, hw1]; rfl) ?_
 have hx2 : Ext [] H1 (H1.push (.cells #[.slice a l lc] y_S_uint8 (0, 0))) := .push _
 have hl2 : (H1.push (.cells #[.slice a l lc] y_S_uint8 (0, 0)))[H1.size]? = some (.cells #[.slice a l lc] y_S_uint8 (0, 0)) := push_new
 generalize hH2 : H1.push (.cells #[.slice a l lc] y_S_uint8 (0, 0)) = H2 at *
 have hx02 := hx1.trans hx2
 have hs1 : H1.size = H.size + 1 := by rw [← hH1]; simp
 have hs2 : H2.size = H.size + 2 := by rw [← hH2]; simp [hs1]
 refine callF_of (putall_c (w := { w1 with heap := H2 }) (H := H2) (Ls := [L]) rfl (hS.ext hx02 (by simp)) (fun b hb => by have := hfp b hb; omega) (hR.ext hx02 (by simp)) h0 ⟨by simp, fun i hi => ?_⟩ (by simpa using hb) hq hq2 hlen) ?_
 ·obtain rfl : i = 0 := by simp at hi; omega
  exact ⟨H1.size, 0, _, _, _, (a, l, lc), rfl, hl2, rfl, hL.ext hx02 (by simp), hl, hc⟩
 rintro e w3 ⟨code, r', c', fp', rfl, hS3, hx3, hfp3, hsub, hres, htot⟩
 refine ⟨code, rfl, ?_⟩
 have hx03 : Ext fp H w3.heap := (hx02.mono (by simp)).trans hx3
 have hz3 := (hx3.get (hx2.get hz1 (by simp)) (fun h => absurd (hfp _ h) (by omega)))
 generalize hH3 : w3.heap = H3 at *
 have hsub' : ∀ b ∈ fp', b ∈ fp ∨ H.size ≤ b := fun b hb => by rcases hsub b hb with h | h; exact .inl h; exact .inr (by omega)
 have hn3 : H.size ∉ fp' := fun h => by rcases hsub _ h with h | h; exact absurd (hfp _ h) (by omega); omega
 refine iteP_ne (fun hne => ?_) (fun heq => ?_)
 ·refine genQ_of (s := .any) (arr nought) (b27 _) ?_
  refine storeVar_h (size27.trans (by rw [cells_arr, len_nought])) (by rw [cells_arr, len_nought]; omega) one_byteCells hH3 hz3 (by rw [zc27, cells_arr, len_nought]; simp) fun w5 hw5 => ?_
  rw [show setCells (zc P y_api_Digest) 0 (Value.cells (arr nought)).toList = (byteCells nought).toArray from by rw [setCells_all (by rw [zc27, Array.length_toList, cells_arr, len_nought]; simp)]; simp [Value.cells, arr]] at hw5
  refine ldA_all hw5 (set_new hz3) (by simp [byteCells, nought]) ?_
  have hx5 : Ext [H.size] H3 w5.heap := by rw [hw5]; exact Ext.set _ (by simp)
  refine ⟨code, r', c', fp', by rw [if_neg hne]; rfl, hS3.ext hx5 (fun b hb => ?_), hx03.own hx5 (by intro b hb hlt; simp at hb; omega), fun b hb => Nat.lt_of_lt_of_le (hfp3 b hb) hx5.1, hsub', hres, by simpa using htot⟩
  simp only [List.mem_singleton]
  rintro rfl
  exact hn3 hb
 ·subst heq
  have hlens : L.length ≤ 4096 := by
   by_cases h : 4096 < L.length
   ·exact absurd (hres.1 ((long_one L).2 h)).1 (by decide)
   ·omega
  refine callF_of (sum_c hH3 (hL.ext hx03 fun y hy hv => ha (by rintro rfl; exact hv rfl) y hy) hl hc (hR.ext hx03 h0) (by omega)) ?_
  rintro e w4 ⟨rfl, hx4⟩
  refine ⟨arr (Sha.sum L), rfl, ?_⟩
  have hz4 := hx4.get hz3 (by simp)
  refine storeVar_h (size27.trans (by rw [cells_arr, len_sum])) (by rw [cells_arr, len_sum]; omega) one_byteCells rfl hz4 (by rw [zc27, cells_arr, len_sum]; simp) fun w5 hw5 => ?_
  rw [show setCells (zc P y_api_Digest) 0 (Value.cells (arr (Sha.sum L))).toList = (byteCells (Sha.sum L)).toArray from by rw [setCells_all (by rw [zc27, Array.length_toList, cells_arr, len_sum]; simp)]; simp [Value.cells, arr]] at hw5
  refine ldA_all hw5 (set_new hz4) (by simp [byteCells, len_sum]) ?_
  have hx5 : Ext [H.size] H3 w5.heap := by rw [hw5]; exact (hx4.mono (by simp)).trans (Ext.set _ (by simp))
  refine ⟨0, r', c', fp', by rw [if_pos rfl]; rfl, hS3.ext hx5 (fun b hb => ?_), hx03.own hx5 (by intro b hb hlt; simp at hb; omega), fun b hb => Nat.lt_of_lt_of_le (hfp3 b hb) hx5.1, hsub', hres, by simpa using htot⟩
  simp only [List.mem_singleton]
  rintro rfl
  exact hn3 hb
theorem put_full {q : Int} {r r' : SM} {L : List UInt8} {code : Int} (h : PutRes q r [L] code r') (hl : L.length ≤ 4096) (hv : vget r (Sha.sum L) = none) (hq : q < (total r : Int) + L.length) : code = 3 ∧ r' = r := by
 refine h.2.1 (by rw [long_one]; omega) ?_
 simp [extra, fresh_one, hv]; omega
theorem put_new {q : Int} {r r' : SM} {L : List UInt8} {code : Int} (h : PutRes q r [L] code r') (hl : L.length ≤ 4096) (hv : vget r (Sha.sum L) = none) (hq : (total r : Int) + L.length ≤ q) :
  code = 0 ∧ ∀ k, vget r' k = if k = Sha.sum L then some L else vget r k := by
 obtain ⟨h1, h2⟩ := h.2.2 (by rw [long_one]; omega) (by simp [extra, fresh_one, hv]; omega)
 refine ⟨h1, fun k => ?_⟩
 rw [h2]
 by_cases e : k = Sha.sum L
 ·subst e; simp [fget, fresh_one, putv, hv]
 ·have e' : ¬ Sha.sum L = k := fun h => e h.symm
  simp [fget, fresh_one, putv, e, e']
end Go.Proofs.YtbmegmbnlajbbaaGreatDoor.Bl
namespace Go.Fw.Sha
open Go.Fw
def M32 : Nat := 4294967296
def rN (x n : Nat) : Nat := x >>> n ||| (x <<< (32 - n)) % M32
def force (n : Nat) (k : Nat → List Nat) : List Nat := Nat.rec (k 0) (fun m _ => k (Nat.succ m)) n
theorem force_eq (n : Nat) (k : Nat → List Nat) : force n k = k n := by cases n <;> rfl
def nextW (ws : List Nat) : Nat :=
 let x := ws.getD 1 0
 let y := ws.getD 14 0
 ((((rN x 17 ^^^ rN x 19 ^^^ x >>> 10) + ws.getD 6 0) % M32 + (rN y 7 ^^^ rN y 18 ^^^ y >>> 3)) % M32 + ws.getD 15 0) % M32
def schedN : Nat → List Nat → List Nat
 | 0, ws => ws
 | n + 1, ws => force (nextW ws) fun v => schedN n (v :: ws)
def notN (x : Nat) : Nat := 4294967295 - x
def oneN (e f g h k w : Nat) : Nat := ((((h + (rN e 6 ^^^ rN e 11 ^^^ rN e 25)) % M32 + (e &&& f ^^^ notN e &&& g)) % M32 + k) % M32 + w) % M32
def twoN (a b c : Nat) : Nat := ((rN a 2 ^^^ rN a 13 ^^^ rN a 22) + (a &&& b ^^^ a &&& c ^^^ b &&& c)) % M32
def roundsN : List Nat → List Nat → (a b c d e f g h : Nat) → List Nat
 | k :: ks, w :: ws, a, b, c, d, e, f, g, h =>
  force (oneN e f g h k w) fun t1 => force ((t1 + twoN a b c) % M32) fun a' => force ((d + t1) % M32) fun e' => roundsN ks ws a' a b c e' e f g
 | _, _, a, b, c, d, e, f, g, h => [a, b, c, d, e, f, g, h]
def nums (f : Nat → BitVec 32) (n : Nat) : List Nat := (List.range n).map fun i => (f i).toNat
def numsR (f : Nat → BitVec 32) : Nat → List Nat
 | 0 => []
 | n + 1 => (f n).toNat :: numsR f n
theorem numsR_get (f : Nat → BitVec 32) : ∀ (n i : Nat), i < n → (numsR f n).getD i 0 = (f (n - 1 - i)).toNat
 | 0, _, h => by omega
 | n + 1, 0, _ => by simp [numsR]
 | n + 1, i + 1, h => by
  have := numsR_get f n i (by omega)
  simp only [numsR, List.getD_cons_succ, this]
  congr 2
  omega
theorem rotr_nat (x : BitVec 32) (n : Nat) : (rotr x n).toNat = rN x.toNat n := by
 simp [rotr, rN, M32]
theorem nextW_eq (m : Nat → BitVec 32) {t : Nat} (h : 16 ≤ t) : nextW (numsR (W m) t) = (W m t).toNat := by
 rw [W_ge h]
 simp only [nextW, numsR_get _ _ _ (show 1 < t by omega), numsR_get _ _ _ (show 14 < t by omega), numsR_get _ _ _ (show 6 < t by omega), numsR_get _ _ _ (show 15 < t by omega), BitVec.toNat_add, BitVec.toNat_xor, rotr_nat, BitVec.toNat_ushiftRight]
 rw [show t - 1 - 1 = t - 2 from by omega, show t - 1 - 14 = t - 15 from by omega, show t - 1 - 6 = t - 7 from by omega, show t - 1 - 15 = t - 16 from by omega]
 rfl
theorem sched_eq (m : Nat → BitVec 32) : ∀ (n t : Nat), 16 ≤ t → schedN n (numsR (W m) t) = numsR (W m) (t + n)
 | 0, t, _ => rfl
 | n + 1, t, h => by
  rw [schedN, force_eq, nextW_eq m h]
  show schedN n (numsR (W m) (t + 1)) = _
  rw [sched_eq m n (t + 1) (by omega), show t + 1 + n = t + (n + 1) from by omega]
theorem one_eq (s : Nat → BitVec 32) (k w : BitVec 32) : (one s k w).toNat = oneN (s 4).toNat (s 5).toNat (s 6).toNat (s 7).toNat k.toNat w.toNat := by
 simp only [one, oneN, BitVec.toNat_add, BitVec.toNat_xor, rotr_nat, BitVec.toNat_and, BitVec.toNat_not, notN]
 rfl
theorem two_eq (s : Nat → BitVec 32) : (two s).toNat = twoN (s 0).toNat (s 1).toNat (s 2).toNat := by
 simp only [two, twoN, BitVec.toNat_add, BitVec.toNat_xor, rotr_nat, BitVec.toNat_and]
 rfl
def numsF (f : Nat → BitVec 32) (t : Nat) : Nat → List Nat
 | 0 => []
 | n + 1 => (f t).toNat :: numsF f (t + 1) n
theorem rounds_eq (w s : Nat → BitVec 32) : ∀ (n t : Nat), roundsN (numsF K t n) (numsF w t n) (rnd w s t 0).toNat (rnd w s t 1).toNat (rnd w s t 2).toNat (rnd w s t 3).toNat (rnd w s t 4).toNat (rnd w s t 5).toNat (rnd w s t 6).toNat (rnd w s t 7).toNat =
  nums (rnd w s (t + n)) 8
 | 0, t => rfl
 | n + 1, t => by
  simp only [numsF, roundsN, force_eq]
  rw [← one_eq, ← two_eq]
  have h := rounds_eq w s n (t + 1)
  rw [show t + 1 + n = t + (n + 1) from by omega] at h
  rw [← h]
  congr 1
theorem numsR_rev (f : Nat → BitVec 32) : ∀ (n : Nat) (l : List Nat), (numsR f n).reverse ++ l = numsF f 0 n ++ l := by
 have key : ∀ (n t : Nat), numsF f t (n + 1) = numsF f t n ++ [(f (t + n)).toNat] := by
  intro n
  induction n with
  | zero => intro t; rfl
  | succ n ih =>
   intro t
   rw [numsF, ih (t + 1), show t + 1 + n = t + (n + 1) from by omega]
   rfl
 intro n
 induction n with
 | zero => intro l; rfl
 | succ n ih =>
  intro l
  rw [numsR, List.reverse_cons, List.append_assoc, ih, key, Nat.zero_add]
  simp
def compN (ms : List Nat) (s : List Nat) : List Nat :=
 let ws := (schedN 48 ms.reverse).reverse
 (roundsN kc ws (s.getD 0 0) (s.getD 1 0) (s.getD 2 0) (s.getD 3 0) (s.getD 4 0) (s.getD 5 0) (s.getD 6 0) (s.getD 7 0)).zipWith (fun x y => (y + x) % M32) s
theorem kc_eq : numsF K 0 64 = kc := by kernel_rfl
theorem comp_eq (s m : Nat → BitVec 32) : compN (numsF m 0 16) (nums s 8) = nums (comp s m) 8 := by
 have h1 : (numsF m 0 16).reverse = numsR (W m) 16 := by
  have h2 : numsR (W m) 16 = numsR m 16 := by
   have : ∀ n, n ≤ 16 → numsR (W m) n = numsR m n := by
    intro n
    induction n with
    | zero => intro _; rfl
    | succ n ih =>
     intro hn
     rw [numsR, numsR, ih (by omega), W_lt (by omega)]
   exact this 16 (Nat.le_refl _)
  rw [h2]
  have := numsR_rev m 16 []
  simp only [List.append_nil] at this
  rw [← this, List.reverse_reverse]
 have h3 : ((numsR (W m) 64).reverse) = numsF (W m) 0 64 := by
  have := numsR_rev (W m) 64 []
  simpa using this
 unfold compN
 simp only [h1]
 rw [sched_eq m 48 16 (Nat.le_refl _), h3, ← kc_eq]
 have h4 := rounds_eq (W m) s 64 0
 have h5 : ∀ i, i < 8 → (nums s 8).getD i 0 = (rnd (W m) s 0 i).toNat := by
  intro i hi
  simp [nums, List.getD_eq_getElem?_getD, hi, rnd]
 rw [h5 0 (by omega), h5 1 (by omega), h5 2 (by omega), h5 3 (by omega), h5 4 (by omega), h5 5 (by omega), h5 6 (by omega), h5 7 (by omega), h4]
 simp only [nums, Nat.zero_add]
 rw [List.zipWith_map, List.zipWith_self]
 apply List.map_congr_left
 intro i _
 simp only [comp, BitVec.toNat_add]
 rfl
def wordN (l : List UInt8) (n t : Nat) : Nat := ((nth l (64 * n + 4 * t)).toNat <<< 24) % M32 ||| ((nth l (64 * n + (4 * t + 1))).toNat <<< 16) % M32 ||| ((nth l (64 * n + (4 * t + 2))).toNat <<< 8) % M32 ||| (nth l (64 * n + (4 * t + 3))).toNat
def wordsN (l : List UInt8) (n : Nat) : Nat → Nat → List Nat
 | _, 0 => []
 | t, k + 1 => wordN l n t :: wordsN l n (t + 1) k
def blocksN (l : List UInt8) : Nat → List Nat
 | 0 => ic
 | n + 1 => compN (wordsN l n 0 16) (blocksN l n)
theorem b32_nat (b : UInt8) : (b32 b).toNat = b.toNat := by
 have := b.toNat_lt
 simp [b32]
theorem wordN_eq (l : List UInt8) (n t : Nat) : wordN l n t = (word (fun j => nth l (64 * n + j)) t).toNat := by
 simp only [wordN, word, BitVec.toNat_or, BitVec.toNat_shiftLeft, b32_nat]
 rfl
theorem wordsN_eq (l : List UInt8) (n : Nat) : ∀ (k t : Nat), wordsN l n t k = numsF (word (fun j => nth l (64 * n + j))) t k
 | 0, _ => rfl
 | k + 1, t => by rw [wordsN, numsF, wordN_eq, wordsN_eq l n k (t + 1)]
theorem ic_eq : nums init 8 = ic := by kernel_rfl
theorem blocksN_eq (l : List UInt8) : ∀ n, blocksN l n = nums (blocks l n) 8
 | 0 => ic_eq.symm
 | n + 1 => by rw [blocksN, blocks, ← comp_eq, blocksN_eq l n, wordsN_eq]
def sumN (l : List UInt8) : List UInt8 :=
 let s := blocksN (pad l) ((pad l).length / 64)
 (List.range 32).map fun i => UInt8.ofNat (s.getD (i / 4) 0 >>> (24 - 8 * (i % 4)))
theorem sum_eq (l : List UInt8) : sum l = sumN l := by
 unfold sum sumN
 apply List.map_congr_left
 intro i hi
 have hi : i < 32 := by simpa using hi
 simp only [blocksN_eq, out]
 have : (nums (blocks (pad l) ((pad l).length / 64)) 8).getD (i / 4) 0 = (blocks (pad l) ((pad l).length / 64) (i / 4)).toNat := by
  have : i / 4 < 8 := by omega
  simp [nums, List.getD_eq_getElem?_getD, this]
 rw [this]
 simp [lo8]
end Go.Fw.Sha
namespace Go.Proofs.YtbmegmbnlajbbaaGreatDoor.Bl
open Go Go.Fw Go.Proofs
theorem Store.ok {H : Heap} {fp : List Nat} {p : Nat} {q : Int} {r : SM} {c : Nat} (h : Store H fp p q r c) : MOk (fun L => L.length = 32) r c := by
 obtain ⟨m, _, _, h3, _⟩ := h; exact h3
end Go.Proofs.YtbmegmbnlajbbaaGreatDoor.Bl
namespace Go.Proofs
open Go.Shelf
def Tryz.sortD_ren : Go.Shelf.Ren := ⟨fun | 6 => 149 | 15 => 161 | 14 => 183 | 28 => 198 | 29 => 199 | 20 => 208 | 21 => 209 | 22 => 210 | 23 => 211 | 24 => 212 | 25 => 213 | 26 => 214 | 27 => 215 | 46 => 225 | 47 => 218 | 48 => 219 | 49 => 226 | 50 => 227 | 57 => 230 | n => n, fun | 22 => 59 | 24 => 30 | 25 => 177 | 3 => 3 | 39 => 64 | 0 => 0 | 53 => 163 | 55 => 162 | 4 => 4 | 46 => 279 | 45 => 278 | 50 => 149 | 5 => 5 | 9 => 9 | 66 => 298 | 70 => 301 | 76 => 307 | 77 => 308 | n => n, fun | n => n⟩
def Tryz.sortE_ren : Go.Shelf.Ren := ⟨fun | 6 => 109 | 15 => 161 | 14 => 160 | 28 => 198 | 29 => 199 | 20 => 190 | 21 => 191 | 22 => 192 | 23 => 193 | 24 => 194 | 25 => 195 | 26 => 196 | 27 => 197 | 46 => 217 | 47 => 218 | 48 => 219 | 49 => 220 | 50 => 221 | 57 => 229 | n => n, fun | 22 => 105 | 24 => 117 | 25 => 191 | 3 => 3 | 39 => 64 | 0 => 0 | 53 => 163 | 55 => 162 | 4 => 4 | 46 => 279 | 45 => 278 | 50 => 149 | 5 => 5 | 9 => 9 | 66 => 298 | 70 => 301 | 76 => 307 | 77 => 308 | n => n, fun | n => n⟩
theorem Tryz.sortE : Go.Proofs.SlLaysF0.n6 Tryz.prog Tryz.sortE_ren := {
 mixed := by kernel_rfl
 f6 := ⟨Tryz.f109.name, by decide, Tryz.func109.trans (congrArg some (by kernel_rfl))⟩
 f14 := ⟨Tryz.f160.name, by decide, Tryz.func160.trans (congrArg some (by kernel_rfl))⟩
 f15 := Tryz.func161.trans (congrArg some (by kernel_rfl))
 f20 := ⟨Tryz.f190.name, by decide, Tryz.func190.trans (congrArg some (by kernel_rfl))⟩
 f21 := ⟨Tryz.f191.name, by decide, Tryz.func191.trans (congrArg some (by kernel_rfl))⟩
 f22 := ⟨Tryz.f192.name, by decide, Tryz.func192.trans (congrArg some (by kernel_rfl))⟩
 f23 := ⟨Tryz.f193.name, by decide, Tryz.func193.trans (congrArg some (by kernel_rfl))⟩
 f24 := ⟨Tryz.f194.name, by decide, Tryz.func194.trans (congrArg some (by kernel_rfl))⟩
 f25 := ⟨Tryz.f195.name, by decide, Tryz.func195.trans (congrArg some (by kernel_rfl))⟩
 f26 := ⟨Tryz.f196.name, by decide, Tryz.func196.trans (congrArg some (by kernel_rfl))⟩
 f27 := ⟨Tryz.f197.name, by decide, Tryz.func197.trans (congrArg some (by kernel_rfl))⟩
 f28 := Tryz.func198.trans (congrArg some (by kernel_rfl))
 f29 := Tryz.func199.trans (congrArg some (by kernel_rfl))
 f46 := ⟨Tryz.f217.name, by decide, Tryz.func217.trans (congrArg some (by kernel_rfl))⟩
 f47 := Tryz.func218.trans (congrArg some (by kernel_rfl))
 f48 := Tryz.func219.trans (congrArg some (by kernel_rfl))
 f49 := ⟨Tryz.f220.name, by decide, Tryz.func220.trans (congrArg some (by kernel_rfl))⟩
 f50 := ⟨Tryz.f221.name, by decide, Tryz.func221.trans (congrArg some (by kernel_rfl))⟩
 f57 := ⟨Tryz.f229.name, by decide, Tryz.func229.trans (congrArg some (by kernel_rfl))⟩
 t0 := Tryz.underlying0
 a0 := Tryz.isAgg0
 z0 := Tryz.sizeOf0
 v0 := Tryz.zeroValue0
 t3 := Tryz.underlying3
 a3 := Tryz.isAgg3
 z3 := Tryz.sizeOf3
 v3 := Tryz.zeroValue3
 t4 := Tryz.underlying4
 a4 := Tryz.isAgg4
 z4 := Tryz.sizeOf4
 v4 := Tryz.zeroValue4
 t5 := Tryz.underlying5
 a5 := Tryz.isAgg5
 z5 := Tryz.sizeOf5
 v5 := Tryz.zeroValue5
 t9 := Tryz.underlying9
 a9 := Tryz.isAgg9
 z9 := Tryz.sizeOf9
 v9 := Tryz.zeroValue9
 t22 := Tryz.underlying105
 a22 := Tryz.isAgg105
 z22 := Tryz.sizeOf105
 v22 := Tryz.zeroValue105
 t25 := Tryz.underlying191
 a25 := Tryz.isAgg191
 z25 := Tryz.sizeOf191
 v25 := Tryz.zeroValue191
 t39 := Tryz.underlying64
 a39 := Tryz.isAgg64
 z39 := Tryz.sizeOf64
 v39 := Tryz.zeroValue64
 t45 := Tryz.underlying278
 a45 := Tryz.isAgg278
 z45 := Tryz.sizeOf278
 v45 := Tryz.zeroValue278
 t46 := Tryz.underlying279
 a46 := Tryz.isAgg279
 z46 := Tryz.sizeOf279
 v46 := Tryz.zeroValue279
 t50 := Tryz.underlying149
 a50 := Tryz.isAgg149
 z50 := Tryz.sizeOf149
 v50 := Tryz.zeroValue149
 t53 := Tryz.underlying163
 a53 := Tryz.isAgg163
 z53 := Tryz.sizeOf163
 v53 := Tryz.zeroValue163
 t55 := Tryz.underlying162
 a55 := Tryz.isAgg162
 z55 := Tryz.sizeOf162
 v55 := Tryz.zeroValue162
 t66 := Tryz.underlying298
 a66 := Tryz.isAgg298
 z66 := Tryz.sizeOf298
 v66 := Tryz.zeroValue298
 t70 := Tryz.underlying301
 a70 := Tryz.isAgg301
 z70 := Tryz.sizeOf301
 v70 := Tryz.zeroValue301
 t76 := Tryz.underlying307
 a76 := Tryz.isAgg307
 z76 := Tryz.sizeOf307
 v76 := Tryz.zeroValue307
 t77 := Tryz.underlying308
 a77 := Tryz.isAgg308
 z77 := Tryz.sizeOf308
 v77 := Tryz.zeroValue308 }
end Go.Proofs
namespace Go.Proofs.YtbmegmbnlajbbaaGreatDoor.Bl
open Go Go.Fw Go.Proofs
theorem uS27 : P.underlying y_S_api_Digest = some (.slice y_api_Digest) := by kernel_rfl
theorem E27 : Elem P y_api_Digest 32 32 := elem_of (z := arr (List.replicate 32 0)) (by kernel_rfl) rfl
theorem sz5 : (P.info? y_uint8).map (·.size) = some 1 := by kernel_rfl
theorem bcompare_c {w : World} {H : Heap} {a a' : Option Addr} {l c l' c' : Nat} {L L' : List UInt8} (hw : w.heap = H) (hL : Cells H a (byteCells L)) (hl : l = L.length) (hL' : Cells H a' (byteCells L')) (hl' : l' = L'.length) :
  CallF P F_bytes_Compare #[.slice a l c, .slice a' l' c'] w fun e w' => e = .returned (.int .i64 (Lib.compareBytes L L')) ∧ w' = w := by
 refine fn_bytes_Compare ?_
 unfold T_bytes_Compare
 refine callF_ext (l := [.int .i64]) (t := Lib.compareBytes L L') ?_ ⟨rfl, rfl⟩
 rw [x_internal_bytealg_Compare (e := Extern.BytealgCompare.compare) (by kernel_rfl), run_compare_sl hw hL hl hL' hl']
 rfl
theorem compare_c {w : World} {k k' : List UInt8} (hk : k.length = 32) (hk' : k'.length = 32) :
  CallF P F_sha_Compare #[arr k, arr k'] w fun e w' => e = .returned (.int .i64 (Lib.compareBytes k k')) ∧ Ext [] w.heap w'.heap := by
 refine fn_sha_Compare ?_
 unfold T_sha_Compare
 refine newB_h rfl fun w1 hw1 => ?_
 refine newB_h hw1 fun w2 hw2 => ?_
 refine drewP_h hw2 fun w3 hw3 => ?_
 refine genQ_of (s := .slc) (some ⟨w.heap.size, 0, none⟩, 32, 32) (run_slice_arr u27 sz5 .no .no (Nat.zero_le _) (Nat.le_refl _)) ?_
 refine genQ_of (s := .slc) (some ⟨(w.heap.push (.cells (Value.cells (arr k)) y_api_Digest)).size, 0, none⟩, 32, 32) (run_slice_arr u27 sz5 .no .no (Nat.zero_le _) (Nat.le_refl _)) ?_
 refine callF_of (bcompare_c (L := k) (L' := k') hw3 ?_ hk.symm ?_ hk'.symm) ?_
 ·exact .inr ⟨_, 0, _, _, _, rfl, push_old push_new, by simp [arr, Value.cells, byteCells], by rw [Nat.zero_add]; simp [arr, Value.cells, byteCells, List.take_of_length_le]⟩
 ·exact .inr ⟨_, 0, _, _, _, rfl, push_new, by simp [arr, Value.cells, byteCells], by rw [Nat.zero_add]; simp [arr, Value.cells, byteCells, List.take_of_length_le]⟩
 rintro e w4 ⟨rfl, rfl⟩
 exact ⟨_, rfl, rfl, by rw [hw3]; exact (Ext.push _).trans (Ext.push _)⟩
def pad (L : List UInt8) : List UInt8 := (L ++ List.replicate 32 0).take 32
theorem len_pad (L : List UInt8) : (pad L).length = 32 := by simp [pad]
theorem pad_eq {L : List UInt8} (h : L.length = 32) : pad L = L := by unfold pad; rw [← h]; simp
def enc32 (L : List UInt8) : List Value := byteCells (pad L)
theorem len_enc32 (L : List UInt8) : (enc32 L).length = 32 := by rw [enc32, length_byteCells, len_pad]
theorem enc32_eq {L : List UInt8} (h : L.length = 32) : enc32 L = byteCells L := by rw [enc32, pad_eq h]
theorem agg32 {L : List UInt8} (h : L.length = 32) : Value.agg (enc32 L).toArray = arr L := by rw [enc32_eq h]; rfl
theorem one_enc32 {L : List UInt8} : oneCells (enc32 L) := one_byteCells
end Go.Proofs.YtbmegmbnlajbbaaGreatDoor.Bl
namespace Go.Proofs.YtbmegmbnlajbbaaGreatDoor.Bl
open Go Go.Fw Go.Proofs
end Go.Proofs.YtbmegmbnlajbbaaGreatDoor.Bl
namespace Go.Proofs.YtbmegmbnlajbbaaGreatDoor.Bl
open Go Go.Fw Go.Proofs
def encB (x : List UInt8 × BV × Nat) : List Value := byteCells (pad x.1) ++ [slcV x.2.1.1]
def Rising (rl : SM) : Prop := rl.Pairwise fun a b => Lib.compareBytes a.1 b.1 < 0
structure ROk (rl : SM) : Prop where
 len : ∀ x ∈ rl, x.1.length = 32
 rise : Rising rl
def RStore (H : Heap) (fp : List Nat) (p : Nat) (q : Int) (rl : SM) : Prop :=
 ∃ x, H[p]? = some (.cells #[.int .i64 q, slcV x] y_r05_Store (0, 0)) ∧ Mine H 0 y_r05_Blob 33 x (rl.flatMap encB) ∧ p ∈ fp ∧ (∀ b ∈ ownM x, b ∈ fp) ∧ Vals H fp rl ∧ Apart rl ∧ ROk rl
theorem RStore.ext {M fp : List Nat} {H H' : Heap} {p : Nat} {q : Int} {rl : SM} (h : RStore H fp p q rl) (hx : Ext M H H') (hM : ∀ b ∈ fp, b ∉ M) : RStore H' fp p q rl := by
 obtain ⟨x, h1, h2, h3, h4, h5, h6⟩ := h
 exact ⟨x, hx.get h1 (hM p h3), h2.ext hx (fun b hb => hM b (h4 b hb)), h3, h4, h5.ext hx hM, h6⟩
theorem Rising.nodup {rl : SM} (h : Rising rl) : (rl.map (·.1)).Nodup := by
 unfold Rising at h
 rw [List.nodup_iff_pairwise_ne, List.pairwise_map]
 exact h.imp fun {a b} hab e => by rw [e, (cmpB_eq).2 rfl] at hab; omega
theorem elem_ix {α : Type} {enc : α → List Value} {sz : Nat} {H : Heap} {a : Option Addr} {len : Nat} (hk : ∀ x, (enc x).length = sz) (h0 : 0 < sz) {xs : List α} {v : α} {i : Nat} {n : Int} (hL : Cells H a (xs.flatMap enc))
  (hlen : len = xs.length) (hi : xs[i]? = some v) (hn : n = (i : Int)) {K : Addr → Prop} (hK : ∀ b o c T fr, a.map (·.block) = some b → H[b]? = some (.cells c T fr) → o + sz ≤ c.size → (∀ j, j < sz → c[o + j]? = (enc v)[j]?) → (a = some ⟨b, 0, none⟩ → o = i * sz) → K ⟨b, o, none⟩) : ixS a len sz n K := by
 have hlt := (List.getElem?_eq_some_iff.1 hi).1
 rcases hL with h | ⟨b, o, c, T, fr, rfl, hb, hsz, hc⟩
 ·have := congrArg List.length h
  rw [length_flatMap_k enc hk] at this
  have := Nat.mul_pos (show 0 < xs.length by omega) h0
  simp_all
 ·refine ixS_h i hn (by omega) ?_
  have hm : i * sz + sz ≤ xs.length * sz := by
   have := Nat.mul_le_mul_right sz (show i + 1 ≤ xs.length by omega)
   rw [Nat.add_mul] at this; omega
  rw [length_flatMap_k enc hk] at hsz
  refine hK b (o + i * sz) c T fr rfl hb (by omega) (fun j hj => ?_) (fun h => by cases h; omega)
  have h2 : (xs.flatMap enc)[i * sz + j]? = (enc v)[j]? := by
   rw [getElem_flatMap enc hk h0]
   have h3 : (i * sz + j) / sz = i := by
    rw [Nat.mul_comm, Nat.mul_add_div h0, Nat.div_eq_of_lt hj]; rfl
   have h4 : (i * sz + j) % sz = j := by
    rw [Nat.mul_comm, Nat.mul_add_mod, Nat.mod_eq_of_lt hj]
   rw [h3, h4, hi]; rfl
  rw [← hc, Array.getElem?_toList, Array.getElem?_extract, length_flatMap_k enc hk, if_pos (by omega)] at h2
  rw [← h2]
  congr 1; omega
end Go.Proofs.YtbmegmbnlajbbaaGreatDoor.Bl
namespace Go.Proofs.YtbmegmbnlajbbaaGreatDoor.Bl
open Go Go.Fw Go.Proofs
structure Split (rl : SM) (k : List UInt8) (pre rest : SM) : Prop where
 eq : rl = pre ++ rest
 lo : ∀ x ∈ pre, Lib.compareBytes x.1 k < 0
 hi : ∀ x ∈ rest, ¬ Lib.compareBytes x.1 k < 0
def hit (rest : SM) (k : List UInt8) : Bool := match rest with | [] => false | x :: _ => decide (x.1 = k)
end Go.Proofs.YtbmegmbnlajbbaaGreatDoor.Bl
namespace Go.Proofs.YtbmegmbnlajbbaaGreatDoor.Bl
open Go Go.Fw Go.Proofs
theorem RStore.rise {H : Heap} {fp : List Nat} {p : Nat} {q : Int} {rl : SM} (hS : RStore H fp p q rl) : Rising rl := by obtain ⟨_, _, _, _, _, _, _, h7⟩ := hS; exact h7.rise
theorem RStore.keys {H : Heap} {fp : List Nat} {p : Nat} {q : Int} {rl : SM} (hS : RStore H fp p q rl) : (rl.map (·.1)).Nodup := hS.rise.nodup
end Go.Proofs.YtbmegmbnlajbbaaGreatDoor.Bl
namespace Go.Proofs.YtbmegmbnlajbbaaGreatDoor.Bl
open Go Go.Fw Go.Proofs
abbrev BE := List UInt8 × BV × Nat
theorem rise_mid {pre t : SM} {y : BE} : Rising (pre ++ y :: t) ↔ Rising (pre ++ t) ∧ (∀ x ∈ pre, Lib.compareBytes x.1 y.1 < 0) ∧ ∀ x ∈ t, Lib.compareBytes y.1 x.1 < 0 := by
 unfold Rising
 rw [List.pairwise_append, List.pairwise_append, List.pairwise_cons]
 constructor
 ·rintro ⟨h1, ⟨h2, h3⟩, h4⟩
  exact ⟨⟨h1, h3, fun a ha b hb => h4 a ha b (by simp [hb])⟩, fun a ha => h4 a ha y (by simp), h2⟩
 ·rintro ⟨⟨h1, h3, h4⟩, h5, h2⟩
  refine ⟨h1, ⟨h2, h3⟩, fun a ha b hb => ?_⟩
  rcases List.mem_cons.1 hb with rfl | hb
  ·exact h5 a ha
  ·exact h4 a ha b hb
theorem mem_mid {pre t : SM} {y x : BE} : x ∈ pre ++ y :: t ↔ x = y ∨ x ∈ pre ++ t := by
 simp only [List.mem_append, List.mem_cons]
 constructor
 ·rintro (h | h | h)
  ·exact .inr (.inl h)
  ·exact .inl h
  ·exact .inr (.inr h)
 ·rintro (h | h | h)
  ·exact .inr (.inl h)
  ·exact .inl h
  ·exact .inr (.inr h)
theorem Apart.sub {r r' : SM} (h : Apart r) (hs : ∀ x ∈ r', x ∈ r) : Apart r' := fun x hx y hy => h x (hs x hx) y (hs y hy)
theorem ROk.sub {pre t : SM} {y : BE} (h : ROk (pre ++ y :: t)) : ROk (pre ++ t) := ⟨fun x hx => h.len x (mem_mid.2 (.inr hx)), (rise_mid.1 h.rise).1⟩
end Go.Proofs.YtbmegmbnlajbbaaGreatDoor.Bl
namespace Go.Proofs.YtbmegmbnlajbbaaGreatDoor.Bl
open Go Go.Fw Go.Proofs
theorem mine_lt {H : Heap} {B : Nat} {T : TypeId} {sz : Nat} {x : Option Addr × Nat × Nat} {vs : List Value} (h : Mine H B T sz x vs) : ∀ b ∈ ownM x, b < H.size ∧ ∃ c, H[b]? = some (.cells c T (0, 0)) := by
 intro b hb
 rcases h with ⟨rfl, _⟩ | ⟨b2, c, hx, _, hb2, _⟩
 ·simp [ownM] at hb
 ·simp only [ownM, hx, List.mem_singleton] at hb
  subst hb; exact ⟨lt_of_get hb2, c, hb2⟩
theorem Vals.sub {H : Heap} {fp : List Nat} {r r' : SM} (h : Vals H fp r) (hs : ∀ x ∈ r', x ∈ r) : Vals H fp r' := fun x hx => h x (hs x hx)
theorem Vals.mono {H : Heap} {fp fp' : List Nat} {r : SM} (h : Vals H fp r) (hs : ∀ x ∈ fp, x ∈ fp') : Vals H fp' r := fun x hx => ⟨(h x hx).1, fun b hb => hs b ((h x hx).2 b hb)⟩
theorem Vals.off {H H' : Heap} {fp : List Nat} {r : SM} {b : Nat} {c : Array Value} {T : TypeId} {o : Obj} (h : Vals H fp r) (hb : H[b]? = some (.cells c T (0, 0))) (hT : T ≠ y_uint8) (hx : Ext [b] H H') : Vals H' fp r := by
 intro x hxr
 refine ⟨(h x hxr).1.ext hx fun b' hb' => ?_, (h x hxr).2⟩
 simp only [List.mem_singleton]; rintro rfl
 obtain ⟨_, c', h'⟩ := mine_lt (h x hxr).1 _ hb'
 rw [hb] at h'
 injection h' with h'
 injection h' with _ h2
 exact hT h2
end Go.Proofs.YtbmegmbnlajbbaaGreatDoor.Bl
namespace Go.Proofs.YtbmegmbnlajbbaaGreatDoor.Bl
open Go Go.Fw Go.Proofs
def bare (r : SM) : List (List UInt8 × List UInt8) := r.map fun x => (x.1, x.2.1.2)
end Go.Proofs.YtbmegmbnlajbbaaGreatDoor.Bl
namespace Go.Proofs.YtbmegmbnlajbbaaGreatDoor.Bl
open Go Go.Fw Go.Proofs
end Go.Proofs.YtbmegmbnlajbbaaGreatDoor.Bl
namespace Go.Proofs.YtbmegmbnlajbbaaGreatDoor.Bl
open Go Go.Fw Go.Proofs
def Whole (r : SM) : Prop := ∀ k L, vget r k = some L → Sha.sum L = k ∧ L.length ≤ 4096
theorem Whole.small {r : SM} (h : Whole r) : Small r := fun k L hv => by have := (h k L hv).2; omega
theorem Rows.ext {M : List Nat} {H H' : Heap} {a : Option Addr} {n : Nat} {Ls : List (List UInt8)} (h : Rows H a n Ls) (hx : Ext M H H') (hM : ∀ b, b < H.size → b ∉ M) : Rows H' a n Ls := by
 refine ⟨h.1, fun i hi => ?_⟩
 obtain ⟨b, o, c, T, fr, x, h1, h2, h3, h4, h5, h6⟩ := h.2 i hi
 refine ⟨b, o, c, T, fr, x, h1, hx.get h2 (hM b (lt_of_get h2)), h3, h4.ext hx fun y hy hv => ?_, h5, h6⟩
 obtain ⟨z, hz, hlt⟩ := h4.lt hv
 rw [hy] at hz; cases hz
 exact hM _ hlt
end Go.Proofs.YtbmegmbnlajbbaaGreatDoor.Bl
namespace Go.Proofs.YtbmegmbnlajbbaaGreatDoor.Bl
open Go Go.Fw Go.Proofs
end Go.Proofs.YtbmegmbnlajbbaaGreatDoor.Bl
namespace Go.Proofs.YtbmegmbnlajbbaaGreatDoor.Bl
open Go Go.Fw Go.Proofs
theorem fget_snoc {F : BL} {d L k : List UInt8} : fget (F ++ [(d, L)]) k = match fget F k with | some v => some v | none => if k = d then some L else none := by
 induction F with
 | nil =>
  simp only [fget, List.nil_append, List.find?_cons, List.find?_nil, Option.map_none]
  by_cases e : d = k
  ·subst e; simp
  ·have : (d == k) = false := by simp [e]
   simp [this, Ne.symm e]
 | cons x F ih =>
  simp only [fget, List.cons_append, List.find?_cons] at ih ⊢
  by_cases e : x.1 = k
  ·simp [e]
  ·have : (x.1 == k) = false := by simp [e]
   simp only [this]
   exact ih
theorem fresh_key : ∀ (Ls : List (List UInt8)) (F : BL), (∀ k L, fget F k = some L → Sha.sum L = k) → ∀ k L, fget (Ls.foldl fstep F) k = some L → Sha.sum L = k
 | [], F, h => h
 | M :: Ls, F, h => by
  rw [List.foldl_cons]
  refine fresh_key Ls (fstep F M) fun k L hg => ?_
  unfold fstep at hg
  split at hg
  ·exact h k L hg
  ·rw [fget_snoc] at hg
   cases hf : fget F k with
   | some v => rw [hf] at hg; simp only at hg; exact h k L (by rw [hf]; exact hg)
   | none =>
    rw [hf] at hg
    simp only at hg
    split at hg
    ·rename_i e; cases hg; exact e.symm
    ·cases hg
theorem put_step {V U : List UInt8 → Option (List UInt8)} {F : BL} {L : List UInt8} (hF : ∀ k L, fget F k = some L → Sha.sum L = k) (hU : ∀ k, U k = putv (V k) (fget F k) k) (k : List UInt8) :
  (if k = Sha.sum L then putv (U (Sha.sum L)) (some L) (Sha.sum L) else U k) = putv (V k) (fget (fstep F L) k) k := by
 unfold fstep
 cases hf : fget F (Sha.sum L) with
 | some M =>
  simp only [Option.isSome_some, if_true]
  by_cases e : k = Sha.sum L
  ·subst e
   rw [if_pos rfl, hU, hf]
   have hM := hF _ _ hf
   cases hv : V (Sha.sum L) with
   | none => simp [putv, hM]
   | some old =>
    by_cases e2 : Sha.sum old = Sha.sum L
    ·simp [putv, e2]
    ·simp [putv, e2, hM]
  ·rw [if_neg e, hU]
 | none =>
  simp only [Option.isSome_none, Bool.false_eq_true, if_false]
  rw [fget_snoc]
  by_cases e : k = Sha.sum L
  ·subst e
   rw [if_pos rfl, hU, hf]
   simp [putv]
  ·rw [if_neg e, hU]
   cases fget F k with
   | some M => rfl
   | none => simp [e]
end Go.Proofs.YtbmegmbnlajbbaaGreatDoor.Bl
namespace Go.Proofs.YtbmegmbnlajbbaaGreatDoor.Bl
open Go Go.Fw Go.Proofs
theorem Pt.next {H : Heap} {pc : Nat} {q : Int} {rl tl : SM} {Ls : List (List UInt8)} {i : Nat} (hi : i < Ls.length) {U : List UInt8 → Option (List UInt8)} (hU : ∀ k, U k = putv (vget rl k) (fget (fresh (Ls.take i)) k) k)
  (ht : ∀ k, vget tl k = if k = Sha.sum Ls[i] then putv (U (Sha.sum Ls[i])) (some Ls[i]) (Sha.sum Ls[i]) else U k) : ∀ k, vget tl k = putv (vget rl k) (fget (fresh (Ls.take (i + 1))) k) k := by
 intro k
 rw [ht, fresh_snoc hi]
 exact put_step (fresh_key _ [] (by intro k L h; simp [fget] at h)) hU k
end Go.Proofs.YtbmegmbnlajbbaaGreatDoor.Bl
namespace Go.Proofs.YtbmegmbnlajbbaaGreatDoor.Bl
open Go Go.Fw Go.Proofs
theorem Small.view {r s : SM} (h : Small r) (hv : ∀ k, vget r k = vget s k) : Small s := fun k L hk => h k L (by rw [hv]; exact hk)
end Go.Proofs.YtbmegmbnlajbbaaGreatDoor.Bl
namespace Go.Proofs.YtbmegmbnlajbbaaGreatDoor
open Go Go.Fw Go.Proofs
structure Itm where
 name : List UInt8
 kind : Int
 sum : List UInt8
deriving DecidableEq, Inhabited
structure Nod where
 kind : Int
 data : List UInt8
 size : Int
 parts : List (List UInt8)
 items : List Itm
deriving DecidableEq, Inhabited
def encT (i : Itm) : List Value := .string (strOf i.name) :: .int .i64 i.kind :: Bl.enc32 i.sum
theorem len_encT (i : Itm) : (encT i).length = 34 := by simp [encT, Bl.len_enc32]
theorem one_encT {i : Itm} : oneCells (encT i) := by
 intro v hv
 simp only [encT, List.mem_cons] at hv
 rcases hv with rfl | rfl | hv
 ·rfl
 ·rfl
 ·exact Bl.one_enc32 v hv
def nodC (n : Nod) (xp xi : Option Addr × Nat × Nat) : List Value := [.int .i64 n.kind, .string (strOf n.data), .int .i64 n.size, slcV xp, slcV xi]
structure NodW (H : Heap) (n : Nod) (xp xi : Option Addr × Nat × Nat) : Prop where
 parts : Cells H xp.1 (n.parts.flatMap Bl.enc32)
 plen : xp.2.1 = n.parts.length
 items : Cells H xi.1 (n.items.flatMap encT)
 ilen : xi.2.1 = n.items.length
 p32 : ∀ p ∈ n.parts, p.length = 32
 i32 : ∀ i ∈ n.items, i.sum.length = 32
theorem NodW.ext {H H' : Heap} {n : Nod} {xp xi : Option Addr × Nat × Nat} (h : NodW H n xp xi) (hx : Ext [] H H') : NodW H' n xp xi :=
 ⟨h.parts.ext hx (by simp), h.plen, h.items.ext hx (by simp), h.ilen, h.p32, h.i32⟩
def itmB (i : Itm) : List UInt8 := textB i.name ++ uintB i.kind ++ i.sum
def partsB (l : List (List UInt8)) : List UInt8 := l.flatten
def itmsB (l : List Itm) : List UInt8 := (l.map itmB).flatten
def encN (n : Nod) : List UInt8 := uintB n.kind ++ (if n.kind = 1 then textB n.data else if n.kind = 2 then uintB n.size ++ partsB n.parts else uintB n.items.length ++ itmsB n.items)
structure SmallN (n : Nod) : Prop where
 data : n.data.length ≤ 65536
 parts : n.parts.length ≤ 65536
 items : n.items.length ≤ 65536
 names : ∀ i ∈ n.items, i.name.length ≤ 65536
theorem partsB_len : ∀ {l : List (List UInt8)}, (∀ p ∈ l, p.length = 32) → (partsB l).length = 32 * l.length
 | [], _ => by simp [partsB]
 | p :: l, h => by
  have h1 := h p (by simp)
  have h2 := partsB_len (l := l) fun q hq => h q (by simp [hq])
  simp only [partsB, List.flatten_cons, List.length_append, List.length_cons] at *
  omega
theorem itmB_len {i : Itm} (h : i.name.length ≤ 65536) (h32 : i.sum.length = 32) : (itmB i).length ≤ 65600 := by
 have h1 := numB_len64 (n := i.name.length) (by omega)
 have h2 := uintB_len (k := i.kind)
 simp only [itmB, textB, List.length_append]
 omega
theorem itmsB_len : ∀ {l : List Itm}, (∀ i ∈ l, i.name.length ≤ 65536) → (∀ i ∈ l, i.sum.length = 32) → (itmsB l).length ≤ 65600 * l.length
 | [], _, _ => by simp [itmsB]
 | i :: l, h, h' => by
  have h1 := itmB_len (h i (by simp)) (h' i (by simp))
  have h2 := itmsB_len (l := l) (fun q hq => h q (by simp [hq])) (fun q hq => h' q (by simp [hq]))
  simp only [itmsB, List.map_cons, List.flatten_cons, List.length_append, List.length_cons] at *
  omega
theorem itmsB_snoc {l : List Itm} {i : Itm} : itmsB (l ++ [i]) = itmsB l ++ itmB i := by simp [itmsB]
theorem partsB_snoc {l : List (List UInt8)} {p : List UInt8} : partsB (l ++ [p]) = partsB l ++ p := by simp [partsB]
theorem dig_c {w : World} {H1 : Heap} {F : List Nat} {b : Nat} {L k : List UInt8} (hO : OutW H1 F b L w) (hk : k.length = 32) (hL : L.length ≤ 274877906944) :
  CallF P F_wire_Out_Digest #[.pointer (some ⟨b, 0, none⟩), arr k] w fun e w' => e = .returned (.tuple #[]) ∧ OutW H1 F b (L ++ k) w' := by
 refine fn_wire_Out_Digest ?_
 unfold T_wire_Out_Digest
 refine newB_h rfl fun w0 hw0 => ?_
 have hx0 : Ext [] w.heap w0.heap := by rw [hw0]; exact .push _
 have hd0 : w0.heap[w.heap.size]? = some (.cells (byteCells k).toArray y_api_Digest (0, 0)) := by rw [hw0]; exact push_new
 refine iteP_t rfl ?_
 refine drewP_h rfl fun w1 hw1 => ?_
 have hx1 : Ext [] w.heap w1.heap := by rw [hw1]; exact hx0
 have hd1 : w1.heap[w.heap.size]? = some (.cells (byteCells k).toArray y_api_Digest (0, 0)) := by rw [hw1]; exact hd0
 have hO1 := hO.ext hx1
 obtain ⟨x, h1, h2, h3, h4, h5, h6⟩ := hO1
 have hxl : x.2.1 = L.length := by have := h3.len; simp at this; omega
 simp only [withAddr_some]
 refine ld_h (s := .slc) (t := x) rfl h2 rfl ?_
 refine genQ_of (s := .slc) (some (if 32 = 0 then (⟨w.heap.size, 0, none⟩ : Addr) else (⟨w.heap.size, 0, none⟩ : Addr).add (0 * 1)), 32 - 0, 32 - 0) (run_slice_arr Bl.u27 sz8 .no .no (by omega) (by omega)) ?_
 have hadd : (some (if 32 = 0 then (⟨w.heap.size, 0, none⟩ : Addr) else (⟨w.heap.size, 0, none⟩ : Addr).add (0 * 1))) = some (⟨w.heap.size, 0, none⟩ : Addr) := by simp [Addr.add]
 have hcd : Cells w1.heap (some (if 32 = 0 then (⟨w.heap.size, 0, none⟩ : Addr) else (⟨w.heap.size, 0, none⟩ : Addr).add (0 * 1))) (byteCells k) := by
  rw [hadd]
  exact .inr ⟨_, 0, _, _, _, rfl, hd1, by simp, by simp [List.take_of_length_le]⟩
 refine append_g E8 (by omega) uS8 (slice_noint uS8) rfl h3 (Nat.zero_le _) (Src.slc rfl hcd (by simp [hk])) one_byteCells (by simp only; omega) ?_
 intro x' w4 hm4 hl4 hx4 hs4
 have hb4 : w4.heap[b]? = some (.cells #[slcV x] y_wire_Out (0, 0)) := hx4.get h2 h4
 refine stC_h rfl hb4 (by simp) fun w5 hw5 => ?_
 have hx5 : Ext [b] w4.heap w5.heap := by rw [hw5]; exact Ext.set _ (by simp)
 have hs1 := h1.1
 have hbl := lt_of_get h2
 have hbx : b ∉ ownM x' := fun h => by
  rcases hs4 b h with h | h
  ·exact h4 h
  ·omega
 refine ⟨trivial, x', ?_, by rw [hw5]; exact set_new hb4, ?_, hbx, fun c hc => ?_, h6⟩
 ·have h14 : Ext (b :: F) H1 w4.heap := h1.own hx4 (fun c hc hlt => by
   rcases h5 c hc with h | h
   ·exact List.mem_cons_of_mem _ h
   ·omega)
  exact h14.trans (hx5.mono (by simp))
 ·rw [← byteCells_append]
  exact hm4.ext hx5 (fun c hc => by simp only [List.mem_singleton]; rintro rfl; exact hbx hc)
 ·rcases hs4 c hc with h | h
  ·exact h5 c h
  ·exact .inr (by omega)
theorem zcT : (zc P y_api_Item).size = 34 := by kernel_rfl
theorem szT : P.cellsOf y_api_Item = 34 := by kernel_rfl
theorem zcN : (zc P y_api_Node).size = 5 := by kernel_rfl
theorem szN : P.cellsOf y_api_Node = 5 := by kernel_rfl
theorem szD : P.cellsOf y_api_Digest = 32 := by kernel_rfl
theorem zcD : (zc P y_api_Digest).size = 32 := by kernel_rfl
theorem varN {w : World} {H : Heap} (n : Nod) (xp xi : Option Addr × Nat × Nat) (hw : w.heap = H) {K : Nat → World → Prop} (hK : ∀ w', w'.heap = H.push (.cells (nodC n xp xi).toArray y_api_Node (0, 0)) → K H.size w') :
  newB (zc P y_api_Node) y_api_Node w fun b w1 => genU P (storeVar y_api_Node (⟨b, 0, none⟩ : Addr) (.agg (nodC n xp xi).toArray)) w1 fun w2 => K b w2 :=
 var_g (v := .agg (nodC n xp xi).toArray) szN zcN (by simp [Value.cells, nodC]) (by
  intro v hv
  simp only [Value.cells, nodC, List.mem_cons, List.not_mem_nil, or_false] at hv
  rcases hv with rfl | rfl | rfl | rfl | rfl <;> rfl) hw hK
theorem varT {w : World} {H : Heap} (i : Itm) (hw : w.heap = H) {K : Nat → World → Prop} (hK : ∀ w', w'.heap = H.push (.cells (encT i).toArray y_api_Item (0, 0)) → K H.size w') :
  newB (zc P y_api_Item) y_api_Item w fun b w1 => genU P (storeVar y_api_Item (⟨b, 0, none⟩ : Addr) (.agg (encT i).toArray)) w1 fun w2 => K b w2 :=
 var_g (v := .agg (encT i).toArray) (by rw [szT]; simp [Value.cells, len_encT]) (by rw [zcT]; simp [Value.cells, len_encT]) (by simp [Value.cells, len_encT]) (by simpa [Value.cells] using one_encT) hw hK
theorem varD {w : World} {H : Heap} {k : List UInt8} (hk : k.length = 32) (hw : w.heap = H) {K : Nat → World → Prop} (hK : ∀ w', w'.heap = H.push (.cells (byteCells k).toArray y_api_Digest (0, 0)) → K H.size w') :
  newB (zc P y_api_Digest) y_api_Digest w fun b w1 => genU P (storeVar y_api_Digest (⟨b, 0, none⟩ : Addr) (arr k)) w1 fun w2 => K b w2 :=
 var_g (v := arr k) (by rw [szD, Bl.cells_arr, hk]) (by rw [zcD, Bl.cells_arr, hk]) (by rw [Bl.cells_arr]; omega) (by simpa [Value.cells, arr] using one_byteCells) hw hK
theorem agg_cells {vs : List Value} : (Value.cells (.agg vs.toArray) : Array Value) = vs.toArray := rfl
end Go.Proofs.YtbmegmbnlajbbaaGreatDoor
