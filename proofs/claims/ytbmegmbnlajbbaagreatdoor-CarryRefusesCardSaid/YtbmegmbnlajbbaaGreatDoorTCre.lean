/- Part 5 of the texts below the card, joined. -/
import Derived.Test.YtbmegmbnlajbbaaGreatDoorTCrd
import Derived.Laws.IdiomStrings
import Derived.Laws.AppendOwn
import Derived.Test.YtbmegmbnlajbbaaGreatDoorTCrc
import Derived.Laws.StructEq
namespace Go.Proofs.YtbmegmbnlajbbaaGreatDoor
open Go Go.Fw Go.Proofs
def riseB : List UInt8 → List Itm → Bool
 | _, [] => true
 | last, i :: r => decide (Lib.compareBytes last i.name < 0) && nameOk i.name && (decide (i.kind = 2) || decide (i.kind = 3)) && riseB i.name r
def risingB (l : List Itm) : Bool := riseB [] l && decide (l.length ≤ 64)
def partsN (size : Int) : Int := (size + 63) / 64
def rightN (n : Nod) : Bool :=
 if n.kind = 1 then decide (0 < n.data.length ∧ n.data.length ≤ 64 ∧ n.size = 0 ∧ n.parts.length = 0 ∧ n.items.length = 0)
 else if n.kind = 2 then decide (n.data = [] ∧ 0 ≤ n.size ∧ n.size ≤ 1024 ∧ (n.parts.length : Int) = partsN n.size ∧ n.items.length = 0)
 else if n.kind = 3 then decide (n.data = [] ∧ n.size = 0 ∧ n.parts.length = 0) && risingB n.items else false
theorem riseB_names : ∀ {l : List Itm} {last : List UInt8}, riseB last l = true → ∀ i ∈ l, nameOk i.name = true
 | [], _, _ => by simp
 | i :: r, last, h => by
  simp only [riseB, Bool.and_eq_true] at h
  intro j hj
  rcases List.mem_cons.1 hj with rfl | hj
  ·exact h.1.1.2
  ·exact riseB_names h.2 j hj
theorem rightN_small {n : Nod} (h : rightN n = true) : SmallN n := by
 unfold rightN at h
 split at h
 ·simp only [decide_eq_true_eq] at h
  have : n.items = [] := List.eq_nil_of_length_eq_zero h.2.2.2.2
  exact ⟨by omega, by omega, by omega, by rw [this]; simp⟩
 ·split at h
  ·have h := of_decide_eq_true h
   unfold partsN at h
   have : n.items = [] := List.eq_nil_of_length_eq_zero h.2.2.2.2
   exact ⟨by rw [h.1]; simp, by omega, by omega, by rw [this]; simp⟩
  ·split at h
   ·simp only [Bool.and_eq_true, decide_eq_true_eq, risingB] at h
    exact ⟨by rw [h.1.1]; simp, by omega, by omega, fun i hi => by have := (nameOk_iff.1 (riseB_names h.2.1 i hi)).1.2.1; omega⟩
   ·cases h
theorem check_one {L : List UInt8} : checkP [L] = 0 ↔ nameOk L = true := by
 rw [check_ok]
 simp [okP]
set_option maxHeartbeats 4000000 in
theorem rising_c {w : World} {H : Heap} {a : Option Addr} {l c : Nat} {T : List Itm} (hw : w.heap = H) (hL : Cells H a (T.flatMap encT)) (hl : l = T.length) (hn : ∀ i ∈ T, i.name.length ≤ 9223372036854775807) (hm : T.length ≤ 9223372036854775807) :
  CallF P F_node_rising #[.slice a l c] w fun e w' => e = .returned (.bool (risingB T)) ∧ Ext [] H w'.heap := by
 subst hl
 refine fn_node_rising ?_
 unfold T_node_rising
 refine loopP_of (fun (s : ByteArray × Int) W => ∃ (i : Nat) (last : List UInt8), s = (strOf last, (i : Int)) ∧ i ≤ T.length ∧ riseB [] T = riseB last (T.drop i) ∧ Ext [] H W.heap) (fun s _ => (T.length - s.2).toNat)
  ⟨0, [], rfl, Nat.zero_le _, by simp, by rw [hw]; exact .refl _ _⟩ ?_
 rintro _ W ⟨i, last, rfl, hi, hr, hxW⟩
 refine iteP_dec (fun hlt => ?_) (fun hge => ?_)
 ·have hil : i < T.length := by omega
  have hget := List.getElem?_eq_getElem hil
  have hmem : T[i] ∈ T := List.getElem_mem hil
  have hdrop : T.drop i = T[i] :: T.drop (i + 1) := (List.drop_eq_getElem_cons hil)
  rw [hdrop] at hr
  generalize T[i] = v at hget hmem hr
  have hvn := hn v hmem
  have hfalse : ∀ {W' : World}, Ext [] H W'.heap → riseB last (v :: T.drop (i + 1)) = false → (Ending.returned (.bool false) = .returned (.bool (risingB T)) ∧ Ext [] H W'.heap) := by
   intro W' hx h
   refine ⟨?_, hx⟩
   rw [risingB, hr, h]; rfl
  refine joinP_in ?_
  refine elem_ld (i := i) len_encT (by omega) rfl (hL.ext hxW (by simp)) rfl hget rfl ?_
  refine varT v rfl fun w3 hw3 => ?_
  have hx3 : Ext [] W.heap w3.heap := by rw [hw3]; exact .push _
  have hb3 : w3.heap[W.heap.size]? = some (.cells (encT v).toArray y_api_Item (0, 0)) := by rw [hw3]; exact push_new
  have hx03 := hxW.trans hx3
  refine joinP_of (fun _ W' => Ext [] w3.heap W'.heap ∧ Lib.compareBytes last v.name < 0 ∧ nameOk v.name = true) ?_ ?_
  ·refine ld_h (s := .str) (t := strOf v.name) rfl hb3 rfl ?_
   refine iteP_of (p := ¬ Lib.compareBytes last v.name < 0) (by
    rw [bytesLess_eq, strOf_toList, strOf_toList, cmpB_lt]
    simp only [Bool.or_eq_true, decide_eq_true_eq, beq_iff_eq]
    constructor
    ·rintro (h | h) h2
     ·exact absurd h (by have := cmpB_lt.2 h; have := cmpB_lt.2 h2; have := cmpB_neg (a := last) (b := v.name); omega)
     ·rw [h] at h2; have := cmpB_lt.2 h2; rw [cmpB_eq.2 rfl] at this; omega
    ·intro h
     have h1 : ¬ Lib.compareBytes last v.name < 0 := fun h2 => h (cmpB_lt.1 h2)
     have h2 := cmpB_neg (a := last) (b := v.name)
     by_cases h3 : Lib.compareBytes v.name last = 0
     ·right; exact cmpB_eq.1 h3
     ·left; exact cmpB_lt.1 (by omega)) (fun h => hfalse hx03 (by simp [riseB, h])) (fun h => ?_)
   have hlt : Lib.compareBytes last v.name < 0 := by omega
   refine ld_h (s := .str) (t := strOf v.name) rfl hb3 rfl ?_
   refine genL_of (s := .slc) (some ⟨w3.heap.size, 0, none⟩, 1, 1) _ (build1_g Estr uSstr (v := .string (strOf v.name)) rfl (by omega) (by omega)) ?_
   have hx4 : Ext [] w3.heap (w3.heap.push (.cells (Value.string (strOf v.name)).cells y_string)) := .push _
   have hc4 : Cells (w3.heap.push (.cells (Value.string (strOf v.name)).cells y_string)) (some ⟨w3.heap.size, 0, none⟩) (strRow [v.name]) := .inr ⟨_, 0, _, _, _, rfl, push_new, by simp [strRow, Value.cells], by simp [strRow, Value.cells]⟩
   refine callF_of (check_c (p := [v.name]) rfl hc4 rfl (by intro L hL; simp at hL; subst hL; exact hvn) (by simp)) ?_
   rintro e w5 ⟨rfl, hw5⟩
   subst hw5
   refine ⟨checkP [v.name], rfl, ?_⟩
   refine iteP_ne (fun h => hfalse (hx03.trans hx4) (by
    have : nameOk v.name = false := by rw [← Bool.not_eq_true]; exact fun h2 => h (check_one.2 h2)
    simp [riseB, this])) (fun h => ⟨hx4, hlt, check_one.1 h⟩)
  rintro _ W5 ⟨hx35, hlt, hok⟩
  have hb5 := hx35.get hb3 (by simp)
  have hx05 := hx03.trans hx35
  refine ld_h (s := .int .i64) (t := v.kind) rfl hb5 rfl ?_
  refine joinP_of (fun s' W' => s' = strOf v.name ∧ Ext [] H W'.heap ∧ (v.kind = 2 ∨ v.kind = 3)) ?_ ?_
  ·refine joinP_of (fun _ W' => W' = W5 ∧ (v.kind = 2 ∨ v.kind = 3)) ?_ ?_
   ·refine joinP_in ?_
    refine iteP_eq (fun h => ⟨rfl, .inl h⟩) (fun h2 => ?_)
    refine iteP_eq (fun h => ⟨rfl, .inr h⟩) (fun h3 => hfalse hx05 (by simp [riseB, h2, h3]))
   rintro _ W' ⟨rfl, hk⟩
   exact ld_h (s := .str) (t := strOf v.name) rfl hb5 rfl ⟨rfl, hx05, hk⟩
  rintro _ W' ⟨rfl, hx', hk⟩
  refine addI_to ((i + 1 : Nat) : Int) (by omega) (by omega) (by omega) ?_
  refine ⟨⟨i + 1, v.name, rfl, by omega, ?_, hx'⟩, by omega⟩
  rw [hr]
  rcases hk with hk | hk <;> simp [riseB, hlt, hok, hk]
 ·obtain rfl : i = T.length := by omega
  refine ⟨?_, hxW⟩
  rw [List.drop_length] at hr
  congr 2
  rw [risingB, hr, Bool.eq_iff_iff]
  simp [riseB]
  omega
set_option maxHeartbeats 4000000 in
theorem right_c {w : World} {H : Heap} {n : Nod} {xp xi : Option Addr × Nat × Nat} (hw : w.heap = H) (hN : NodW H n xp xi) (hs : n.size ≤ 4611686018427387904) (hnn : ∀ i ∈ n.items, i.name.length ≤ 9223372036854775807) (hm : n.items.length ≤ 9223372036854775807) :
  CallF P F_node_right #[.agg (nodC n xp xi).toArray] w fun e w' => e = .returned (.bool (rightN n)) ∧ Ext [] H w'.heap := by
 obtain ⟨g1, g2, g3, g4, g5, g6⟩ := hN
 refine fn_node_right ?_
 unfold T_node_right
 refine newB_h hw fun w1 hw1 => ?_
 have hx1 : Ext [] H w1.heap := by rw [hw1]; exact .push _
 have hb1 : w1.heap[H.size]? = some (.cells (nodC n xp xi).toArray y_api_Node (0, 0)) := by rw [hw1]; exact push_new
 refine ld_h (s := .int .i64) (t := n.kind) rfl hb1 rfl ?_
 have hle : ∀ {k : Nat}, (((k : Int) == 0) = true) ↔ k = 0 := by intro k; simp
 refine iteP_eq (fun h1 => ?_) (fun h1 => ?_)
 ·have hf : ∀ {p : Prop}, (¬ (0 < n.data.length ∧ n.data.length ≤ 64 ∧ n.size = 0 ∧ n.parts.length = 0 ∧ n.items.length = 0)) → (Ending.returned (.bool false) = .returned (.bool (rightN n)) ∧ Ext [] H w1.heap) := by
   intro p h
   exact ⟨by rw [rightN, if_pos h1, decide_eq_false h], hx1⟩
  refine ld_h (s := .str) (t := strOf n.data) rfl hb1 rfl ?_
  refine iteP_dec (fun h2 => ?_) (fun h2 => hf (p := True) fun h => h2 (by simp; omega))
  refine ld_h (s := .str) (t := strOf n.data) rfl hb1 rfl ?_
  refine iteP_dec (fun h3 => ?_) (fun h3 => hf (p := True) fun h => h3 (by simp; omega))
  refine ld_h (s := .int .i64) (t := n.size) rfl hb1 rfl ?_
  refine iteP_eq (fun h4 => ?_) (fun h4 => hf (p := True) fun h => h4 h.2.2.1)
  refine ld_h (s := .slc) (t := xp) rfl hb1 rfl ?_
  refine iteP_eq (fun h5 => ?_) (fun h5 => hf (p := True) fun h => h5 (by omega))
  refine ld_h (s := .slc) (t := xi) rfl hb1 rfl ?_
  refine ⟨?_, hx1⟩
  rw [rightN, if_pos h1]
  congr 2
  rw [Bool.eq_iff_iff, hle, decide_eq_true_eq, g4]
  simp at h2 h3
  exact ⟨fun h => ⟨by omega, by omega, h4, by omega, h⟩, fun h => h.2.2.2.2⟩
 refine iteP_eq (fun h2 => ?_) (fun h2 => ?_)
 ·have hf : ∀ {W : World}, Ext [] H W.heap → (¬ (n.data = [] ∧ 0 ≤ n.size ∧ n.size ≤ 1024 ∧ (n.parts.length : Int) = partsN n.size ∧ n.items.length = 0)) → (Ending.returned (.bool false) = .returned (.bool (rightN n)) ∧ Ext [] H W.heap) := by
   intro W hx h
   exact ⟨by rw [rightN, if_neg h1, if_pos h2, decide_eq_false h], hx⟩
  refine drewP_h rfl fun w2 hw2 => ?_
  have hx2 : Ext [] H w2.heap := by rw [hw2]; exact hx1
  have hb2 : w2.heap[H.size]? = some (.cells (nodC n xp xi).toArray y_api_Node (0, 0)) := by rw [hw2]; exact hb1
  refine ld_h (s := .str) (t := strOf n.data) rfl hb2 rfl ?_
  refine iteP_of (p := n.data = []) (by rw [beqStr]) (fun h3 => ?_) (fun h3 => ⟨rfl, hf hx2 fun h => h3 h.1⟩)
  refine ld_h (s := .int .i64) (t := n.size) rfl hb2 rfl ?_
  refine iteP_dec (fun h4 => ?_) (fun h4 => ⟨rfl, hf hx2 fun h => h4 h.2.1⟩)
  refine ld_h (s := .int .i64) (t := n.size) rfl hb2 rfl ?_
  refine iteP_dec (fun h5 => ?_) (fun h5 => ⟨rfl, hf hx2 fun h => h5 h.2.2.1⟩)
  refine ld_h (s := .slc) (t := xp) rfl hb2 rfl ?_
  refine ld_h (s := .int .i64) (t := n.size) rfl hb2 rfl ?_
  have hparts : CallF P F_node_parts #[.int .i64 n.size] w2 fun e w' => e = .returned (.int .i64 (partsN n.size)) ∧ w' = w2 := by
   refine fn_node_parts ?_
   unfold T_node_parts
   refine addI_to (n.size + 64) rfl (by omega) (by omega) ?_
   refine subI_to (n.size + 63) (by omega) (by omega) (by omega) ?_
   refine quoI_n (n.size + 63).toNat 64 (by omega) rfl (by omega) (by omega) ?_
   refine ⟨?_, rfl⟩
   congr 2
   unfold partsN
   omega
  refine callF_of hparts ?_
  rintro e w3 ⟨rfl, rfl⟩
  refine ⟨partsN n.size, rfl, ?_⟩
  refine ⟨ld_h (s := .slc) (t := xp) rfl hb2 rfl rfl, ?_⟩
  refine iteP_eq (fun h6 => ?_) (fun h6 => hf hx2 fun h => h6 (by rw [g2]; exact h.2.2.2.1))
  refine ld_h (s := .slc) (t := xi) rfl hb2 rfl ?_
  refine ⟨?_, hx2⟩
  rw [rightN, if_neg h1, if_pos h2]
  congr 2
  rw [Bool.eq_iff_iff, hle, decide_eq_true_eq, g4]
  rw [g2] at h6
  exact ⟨fun h => ⟨h3, h4, h5, h6, h⟩, fun h => h.2.2.2.2⟩
 refine iteP_eq (fun h3 => ?_) (fun h3 => ⟨by rw [rightN, if_neg h1, if_neg h2, if_neg h3], hx1⟩)
 have hf : ¬ (n.data = [] ∧ n.size = 0 ∧ n.parts.length = 0) → (Ending.returned (.bool false) = .returned (.bool (rightN n)) ∧ Ext [] H w1.heap) := by
  intro h
  exact ⟨by rw [rightN, if_neg h1, if_neg h2, if_pos h3, decide_eq_false h]; rfl, hx1⟩
 refine ld_h (s := .str) (t := strOf n.data) rfl hb1 rfl ?_
 refine iteP_of (p := n.data = []) (by rw [beqStr]) (fun h4 => ?_) (fun h4 => hf fun h => h4 h.1)
 refine ld_h (s := .int .i64) (t := n.size) rfl hb1 rfl ?_
 refine iteP_eq (fun h5 => ?_) (fun h5 => hf fun h => h5 h.2.1)
 refine ld_h (s := .slc) (t := xp) rfl hb1 rfl ?_
 refine iteP_eq (fun h6 => ?_) (fun h6 => hf fun h => h6 (by omega))
 refine ld_h (s := .slc) (t := xi) rfl hb1 rfl ?_
 refine callF_of (rising_c rfl (g3.ext hx1 (by simp)) g4 hnn hm) ?_
 rintro e w4 ⟨rfl, hx4⟩
 refine ⟨risingB n.items, rfl, ?_⟩
 refine ⟨?_, hx1.trans hx4⟩
 rw [rightN, if_neg h1, if_neg h2, if_pos h3, decide_eq_true ⟨h4, h5, by omega⟩]
 rfl
end Go.Proofs.YtbmegmbnlajbbaaGreatDoor
namespace Go.Proofs.YtbmegmbnlajbbaaGreatDoor
open Go Go.Fw Go.Proofs
theorem encN_pre {n : Nod} : (uintB n.kind).length ≤ 10 := uintB_len
set_option maxHeartbeats 8000000 in
theorem nencode_c {w : World} {H : Heap} {n : Nod} {xp xi : Option Addr × Nat × Nat} (hw : w.heap = H) (hN : NodW H n xp xi) (hR : rightN n = true) :
  CallF P F_node_Encode #[.agg (nodC n xp xi).toArray] w fun e w' => ∃ y, e = .returned (.tuple #[slcV y, .int .i64 0]) ∧ Mine w'.heap H.size y_uint8 1 y (byteCells (encN n)) ∧ Ext [] H w'.heap := by
 have hS := rightN_small hR
 have hsz : n.size ≤ 4611686018427387904 := by
  unfold rightN at hR
  split at hR
  ·have := of_decide_eq_true hR; omega
  ·split at hR
   ·have := of_decide_eq_true hR; omega
   ·split at hR
    ·simp only [Bool.and_eq_true, decide_eq_true_eq] at hR; omega
    ·cases hR
 refine fn_node_Encode ?_
 unfold T_node_Encode
 refine newB_h hw fun w1 hw1 => ?_
 have hx1 : Ext [] H w1.heap := by rw [hw1]; exact .push _
 have hb1 : w1.heap[H.size]? = some (.cells (nodC n xp xi).toArray y_api_Node (0, 0)) := by rw [hw1]; exact push_new
 refine ldA_all rfl hb1 rfl ?_
 refine callF_of (right_c rfl (hN.ext hx1) hsz (fun i hi => by have := hS.names i hi; omega) (by have := hS.items; omega)) ?_
 rintro e w2 ⟨rfl, hx12⟩
 refine ⟨rightN n, rfl, ?_⟩
 rw [hR]
 refine iteP_f rfl ?_
 have hx2 := hx1.trans hx12
 have hb2 := hx12.get hb1 (by simp)
 rw [zcO]
 refine newB_h rfl fun w3 hw3 => ?_
 have hx23 : Ext [] w2.heap w3.heap := by rw [hw3]; exact .push _
 have ho3 : w3.heap[w2.heap.size]? = some (.cells #[slcV (none, 0, 0)] y_wire_Out (0, 0)) := by rw [hw3]; exact push_new
 have hO3 : OutW w3.heap [] w2.heap.size [] w3 := ⟨(none, 0, 0), .refl _ _, ho3, .inl ⟨rfl, rfl⟩, by simp [ownM], by simp [ownM], lt_of_get ho3⟩
 have hb3 := hx23.get hb2 (by simp)
 have hN3 := hN.ext (hx2.trans hx23)
 have hH2 : H.size < w2.heap.size := lt_of_get hb2
 have keep : ∀ {W : World} {K : List UInt8}, OutW w3.heap [] w2.heap.size K W → Ext [w2.heap.size] w3.heap W.heap := fun ⟨x, h1, _⟩ => h1
 have hne : H.size ∉ [w2.heap.size] := by simp; omega
 have u1 := @encN_pre n
 refine ld_h (s := .int .i64) (t := n.kind) rfl hb3 rfl ?_
 refine cvU fun k1 e1 l1 => ?_
 refine callF_of (num_c k1 hO3 l1 (by simp)) ?_
 rintro e w4 ⟨rfl, hO4⟩
 refine ⟨(), rfl, ?_⟩
 rw [show numB k1 = uintB n.kind by rw [e1]; rfl, List.nil_append] at hO4
 have hx4 := keep hO4
 have hb4 := hx4.get hb3 hne
 refine joinP_of (fun _ W => OutW w3.heap [] w2.heap.size (encN n) W ∧ (encN n).length ≤ 274877906944) ?_ ?_
 rotate_left
 ·rintro _ W ⟨hOW, hlen⟩
  refine callF_of (bytes_c hOW (by omega)) ?_
  rintro e w5 ⟨y, rfl, hm, hx5⟩
  refine ⟨y, rfl, ?_⟩
  have hx3W : Ext [] H W.heap := (hx2.trans hx23).own (keep hOW) (by intro c hc hlt; simp at hc; omega)
  have := hx3W.1
  exact ⟨y, rfl, hm.mono this, hx3W.trans hx5⟩
 refine ld_h (s := .int .i64) (t := n.kind) rfl hb4 rfl ?_
 refine joinP_in ?_
 refine iteP_eq (fun h1 => ?_) (fun h1 => ?_)
 ·refine ld_h (s := .str) (t := strOf n.data) rfl hb4 rfl ?_
  have hd := hS.data
  refine callF_of (text_c n.data hO4 (by omega)) ?_
  rintro e w5 ⟨rfl, hO5⟩
  refine ⟨(), rfl, ?_⟩
  have nl := numB_len64 (n := n.data.length) (by omega)
  have : encN n = uintB n.kind ++ textB n.data := by unfold encN; rw [if_pos h1]
  rw [this]
  exact ⟨hO5, by simp only [List.length_append, textB]; omega⟩
 refine iteP_eq (fun h2 => ?_) (fun h2 => ?_)
 ·refine ld_h (s := .int .i64) (t := n.size) rfl hb4 rfl ?_
  refine cvU fun k2 e2 l2 => ?_
  refine callF_of (num_c k2 hO4 l2 (by omega)) ?_
  rintro e w6 ⟨rfl, hO6⟩
  refine ⟨(), rfl, ?_⟩
  rw [show numB k2 = uintB n.size by rw [e2]; rfl] at hO6
  have u2 := @uintB_len n.size
  have hb6 := (keep hO6).get hb3 hne
  refine ld_h (s := .slc) (t := xp) rfl hb6 rfl ?_
  have hpl := hS.parts
  have hp32 := hN.p32
  have henc : encN n = uintB n.kind ++ uintB n.size ++ partsB n.parts := by unfold encN; rw [if_neg h1, if_pos h2, List.append_assoc]
  refine loopP_of (fun (s : Int) W => ∃ i : Nat, s = (i : Int) ∧ i ≤ n.parts.length ∧ OutW w3.heap [] w2.heap.size (uintB n.kind ++ uintB n.size ++ partsB (n.parts.take i)) W) (fun s _ => (n.parts.length - s).toNat) ⟨0, rfl, Nat.zero_le _, by simpa [partsB] using hO6⟩ ?_
  rintro _ W ⟨i, rfl, hi, hOW⟩
  have hpre : (partsB (n.parts.take i)).length ≤ 32 * 65536 := by
   rw [partsB_len fun p hp => hp32 p (List.mem_of_mem_take hp)]
   simp; omega
  refine iteP_dec (fun hlt => ?_) (fun hge => ?_)
  ·have hil : i < n.parts.length := by have := hN.plen; omega
   have hget := List.getElem?_eq_getElem hil
   have hmem : n.parts[i] ∈ n.parts := List.getElem_mem hil
   have htake : n.parts.take (i + 1) = n.parts.take i ++ [n.parts[i]] := by rw [List.take_add_one, hget]; rfl
   generalize n.parts[i] = v at hget hmem htake
   have hv := hp32 v hmem
   have hcW := hN3.parts.ext (keep hOW) (fun a ha hne2 h => by
    obtain ⟨x, hx, hlt⟩ := hN.parts.lt hne2
    rw [hx] at ha; cases ha
    simp at h; omega)
   refine elem_ld (i := i) Bl.len_enc32 (by omega) rfl hcW hN.plen hget rfl ?_
   rw [Bl.agg32 hv]
   refine varD hv rfl fun w9 hw9 => ?_
   have hx9 : Ext [] W.heap w9.heap := by rw [hw9]; exact .push _
   have hb9 : w9.heap[W.heap.size]? = some (.cells (byteCells v).toArray y_api_Digest (0, 0)) := by rw [hw9]; exact push_new
   refine ldA_all rfl hb9 (by simp [hv]) ?_
   refine callF_of (dig_c (k := v) (hOW.ext hx9) hv (by simp only [List.length_append]; omega)) ?_
   rintro e w10 ⟨rfl, hO10⟩
   refine ⟨(), rfl, ?_⟩
   refine addI_to ((i + 1 : Nat) : Int) (by omega) (by omega) (by omega) ?_
   refine ⟨⟨i + 1, rfl, by omega, ?_⟩, by omega⟩
   rw [htake, partsB_snoc]
   simpa using hO10
  ·obtain rfl : i = n.parts.length := by have := hN.plen; omega
   rw [List.take_length] at hOW hpre
   rw [henc]
   exact ⟨hOW, by simp only [List.length_append]; omega⟩
 ·refine ld_h (s := .slc) (t := xi) rfl hb4 rfl ?_
  have hil := hN.ilen
  rw [hil]
  refine cvU fun k2 e2 l2 => ?_
  refine callF_of (num_c k2 hO4 l2 (by omega)) ?_
  rintro e w6 ⟨rfl, hO6⟩
  refine ⟨(), rfl, ?_⟩
  rw [show numB k2 = uintB (n.items.length : Int) by rw [e2]; rfl] at hO6
  have u2 := @uintB_len (n.items.length : Int)
  have hb6 := (keep hO6).get hb3 hne
  refine ld_h (s := .slc) (t := xi) rfl hb6 rfl ?_
  have hpl := hS.items
  have hnm := hS.names
  have hi32 := hN.i32
  have henc : encN n = uintB n.kind ++ uintB n.items.length ++ itmsB n.items := by unfold encN; rw [if_neg h1, if_neg h2, List.append_assoc]
  refine loopP_of (fun (s : Int) W => ∃ i : Nat, s = (i : Int) ∧ i ≤ n.items.length ∧ OutW w3.heap [] w2.heap.size (uintB n.kind ++ uintB n.items.length ++ itmsB (n.items.take i)) W) (fun s _ => (n.items.length - s).toNat) ⟨0, rfl, Nat.zero_le _, by simpa [itmsB] using hO6⟩ ?_
  rintro _ W ⟨i, rfl, hi, hOW⟩
  have hpre : (itmsB (n.items.take i)).length ≤ 65600 * 65536 := by
   have h := itmsB_len (l := n.items.take i) (fun p hp => hnm p (List.mem_of_mem_take hp)) (fun p hp => hi32 p (List.mem_of_mem_take hp))
   have : (n.items.take i).length ≤ 65536 := by simp; omega
   omega
  refine iteP_dec (fun hlt => ?_) (fun hge => ?_)
  ·have hil2 : i < n.items.length := by omega
   have hget := List.getElem?_eq_getElem hil2
   have hmem : n.items[i] ∈ n.items := List.getElem_mem hil2
   have htake : n.items.take (i + 1) = n.items.take i ++ [n.items[i]] := by rw [List.take_add_one, hget]; rfl
   generalize n.items[i] = v at hget hmem htake
   have hv := hi32 v hmem
   have hvn := hnm v hmem
   have hcW := hN3.items.ext (keep hOW) (fun a ha hne2 h => by
    obtain ⟨x, hx, hlt⟩ := hN.items.lt hne2
    rw [hx] at ha; cases ha
    simp at h; omega)
   refine elem_ld (i := i) len_encT (by omega) rfl hcW hil hget rfl ?_
   refine varT v rfl fun w9 hw9 => ?_
   have hx9 : Ext [] W.heap w9.heap := by rw [hw9]; exact .push _
   have hb9 : w9.heap[W.heap.size]? = some (.cells (encT v).toArray y_api_Item (0, 0)) := by rw [hw9]; exact push_new
   have nl := numB_len64 (n := v.name.length) (by omega)
   have uk := @uintB_len v.kind
   have hOsz : w2.heap.size < W.heap.size := by have := (keep hOW).1; have := lt_of_get ho3; omega
   obtain ⟨F9, hO9, hF9, hF9l⟩ := hOW.rebase hx9
   have kp : ∀ {K : List UInt8} {W' : World}, OutW w9.heap F9 w2.heap.size K W' → W'.heap[W.heap.size]? = some (.cells (encT v).toArray y_api_Item (0, 0)) := by
    intro K W' ⟨x, h1, _⟩
    refine h1.get hb9 fun h => ?_
    rcases List.mem_cons.1 h with h | h
    ·omega
    ·have := hF9l _ h; omega
   refine ld_h (s := .str) (t := strOf v.name) rfl hb9 rfl ?_
   refine callF_of (text_c v.name hO9 (by simp only [List.length_append]; omega)) ?_
   rintro e w10 ⟨rfl, hO10⟩
   refine ⟨(), rfl, ?_⟩
   refine ld_h (s := .int .i64) (t := v.kind) rfl (kp hO10) rfl ?_
   refine cvU fun k3 e3 l3 => ?_
   refine callF_of (num_c k3 hO10 l3 (by simp only [List.length_append, textB]; omega)) ?_
   rintro e w11 ⟨rfl, hO11⟩
   refine ⟨(), rfl, ?_⟩
   rw [show numB k3 = uintB v.kind by rw [e3]; rfl] at hO11
   refine ldA_h (o := 2) rfl (kp hO11) (by simp [len_encT]) ?_
   have hex : (encT v).toArray.extract 2 (2 + 32) = (Bl.enc32 v.sum).toArray := by
    apply Array.ext'
    simp [encT, List.take_of_length_le, Bl.len_enc32]
   rw [hex, Bl.agg32 hv]
   refine callF_of (dig_c (k := v.sum) hO11 hv (by simp only [List.length_append, textB]; omega)) ?_
   rintro e w12 ⟨rfl, hO12⟩
   refine ⟨(), rfl, ?_⟩
   refine addI_to ((i + 1 : Nat) : Int) (by omega) (by omega) (by omega) ?_
   refine ⟨⟨i + 1, rfl, by omega, ?_⟩, by omega⟩
   have := hOW.unbase hx9 hF9 hO12
   rw [htake, itmsB_snoc]
   simpa [itmB] using this
  ·obtain rfl : i = n.items.length := by omega
   rw [List.take_length] at hOW hpre
   rw [henc]
   exact ⟨hOW, by simp only [List.length_append]; omega⟩
end Go.Proofs.YtbmegmbnlajbbaaGreatDoor
namespace Go.Proofs.YtbmegmbnlajbbaaGreatDoor
open Go Go.Fw Go.Proofs
end Go.Proofs.YtbmegmbnlajbbaaGreatDoor
namespace Go.Proofs.YtbmegmbnlajbbaaGreatDoor
open Go Go.Fw Go.Proofs
abbrev BV := (Option Addr × Nat × Nat) × List UInt8
def BlobsW (H : Heap) (B : Nat) (x : Option Addr × Nat × Nat) (Ls : List (List UInt8)) : Prop :=
 ∃ ys : List BV, Mine H B y_S_uint8 1 x (ys.map fun y => slcV y.1) ∧ ys.map (·.2) = Ls ∧ ∀ y ∈ ys, Mine H B y_uint8 1 y.1 (byteCells y.2) ∧ ∀ b ∈ ownM y.1, b ∉ ownM x
theorem BlobsW.nil {H : Heap} {B : Nat} : BlobsW H B (none, 0, 0) [] := ⟨[], .inl ⟨rfl, rfl⟩, rfl, by simp⟩
theorem BlobsW.len {H : Heap} {B : Nat} {x : Option Addr × Nat × Nat} {Ls : List (List UInt8)} (h : BlobsW H B x Ls) : x.2.1 = Ls.length := by
 obtain ⟨ys, h1, h2, _⟩ := h
 have := h1.len
 rw [← h2]; simp at *; omega
theorem BlobsW.ge {H : Heap} {B : Nat} {x : Option Addr × Nat × Nat} {Ls : List (List UInt8)} (h : BlobsW H B x Ls) : ∀ b ∈ ownM x, B ≤ b := by
 obtain ⟨ys, h1, _⟩ := h
 exact ownM_ge h1
theorem mine_lt {H : Heap} {B : Nat} {T : TypeId} {sz : Nat} {x : Option Addr × Nat × Nat} {vs : List Value} (h : Mine H B T sz x vs) : ∀ b ∈ ownM x, b < H.size ∧ ∃ c T fr, H[b]? = some (.cells c T fr) := by
 intro b hb
 rcases h with ⟨rfl, _⟩ | ⟨b', c', hx1, _, hg, _⟩
 ·simp [ownM] at hb
 ·simp [ownM, hx1] at hb
  subst hb
  exact ⟨lt_of_get hg, _, _, _, hg⟩
theorem mine_cap {H : Heap} {B : Nat} {T : TypeId} {sz : Nat} {x : Option Addr × Nat × Nat} {vs : List Value} (h : Mine H B T sz x vs) : x.2.1 ≤ x.2.2 := by
 rcases h with ⟨rfl, _⟩ | ⟨_, _, _, _, _, _, _, h, _⟩
 ·exact Nat.le_refl _
 ·exact h
theorem BlobsW.lt {H : Heap} {B : Nat} {x : Option Addr × Nat × Nat} {Ls : List (List UInt8)} (h : BlobsW H B x Ls) : ∀ b ∈ ownM x, b < H.size ∧ ∃ c T fr, H[b]? = some (.cells c T fr) := by
 obtain ⟨ys, h1, _⟩ := h
 exact mine_lt h1
theorem BlobsW.ext {H H' : Heap} {B : Nat} {x : Option Addr × Nat × Nat} {Ls : List (List UInt8)} {M : List Nat} (h : BlobsW H B x Ls) (hx : Ext M H H') (hM : ∀ b ∈ M, b < B) : BlobsW H' B x Ls := by
 obtain ⟨ys, h1, h2, h3⟩ := h
 refine ⟨ys, h1.ext hx fun b hb hm => ?_, h2, fun y hy => ⟨(h3 y hy).1.ext hx fun b hb hm => ?_, (h3 y hy).2⟩⟩
 ·have := ownM_ge h1 b hb; have := hM b hm; omega
 ·have := ownM_ge (h3 y hy).1 b hb; have := hM b hm; omega
theorem BlobsW.beside {B B' : Nat} {W W' : World} {x : Option Addr × Nat × Nat} {Ls : List (List UInt8)} (h : BlobsW W.heap B x Ls) (hx : Beside B' W W') : BlobsW W'.heap B x Ls := by
 obtain ⟨ys, h1, h2, h3⟩ := h
 exact ⟨ys, hx.mine h1, h2, fun y hy => ⟨hx.mine (h3 y hy).1, (h3 y hy).2⟩⟩
theorem BlobsW.mono {H : Heap} {B B' : Nat} {x : Option Addr × Nat × Nat} {Ls : List (List UInt8)} (h : BlobsW H B x Ls) (hB : B' ≤ B) : BlobsW H B' x Ls := by
 obtain ⟨ys, h1, h2, h3⟩ := h
 exact ⟨ys, h1.mono hB, h2, fun y hy => ⟨(h3 y hy).1.mono hB, (h3 y hy).2⟩⟩
theorem BlobsW.rows {H : Heap} {B : Nat} {x : Option Addr × Nat × Nat} {Ls : List (List UInt8)} (h : BlobsW H B x Ls) : Bl.Rows H x.1 x.2.1 Ls := by
 have hl := h.len
 obtain ⟨ys, h1, h2, h3⟩ := h
 refine ⟨hl, fun i hi => ?_⟩
 have hyl : ys.length = Ls.length := by rw [← h2]; simp
 have hiy : i < ys.length := by omega
 rcases h1 with ⟨rfl, _⟩ | ⟨b, c, hx1, _, hg, hc, hle, hxle, he⟩
 ·simp at hl; omega
 have hy := h3 ys[i] (List.getElem_mem hiy)
 have hL : Ls[i] = ys[i].2 := by simp [← h2]
 refine ⟨b, 0, c, _, _, ys[i].1, hx1, hg, ?_, by rw [hL]; exact hy.1.cells, by rw [hL]; have := hy.1.len; simp at this; omega, ?_⟩
 ·have h5 : (c.extract 0 (ys.map fun y => slcV y.1).length).toList[i]? = (ys.map fun y => slcV y.1)[i]? := by rw [he]
  rw [Array.getElem?_toList, Array.getElem?_extract] at h5
  simp at h5
  rw [if_pos (by omega), List.getElem?_eq_getElem hiy] at h5
  simpa using h5
 ·rcases hy.1 with ⟨h, _⟩ | ⟨_, _, _, _, _, _, _, h, _⟩
  ·rw [h]; exact Nat.le_refl _
  ·exact h
theorem EBs : Elem P y_S_uint8 1 24 := elem_of (z := .slice none 0 0) (by kernel_rfl) rfl
theorem uSS : P.underlying y_S_S_uint8 = some (.slice y_S_uint8) := by kernel_rfl
theorem app_blob {w : World} {H : Heap} {B : Nat} {x y : Option Addr × Nat × Nat} {Ls : List (List UInt8)} {L : List UInt8} (hw : w.heap = H) (hB : BlobsW H B x Ls) (hBs : B ≤ H.size) (hy : Mine H B y_uint8 1 y (byteCells L)) (hyx : ∀ b ∈ ownM y, b ∉ ownM x) (hlen : Ls.length ≤ 1073741824) {K : (Option Addr × Nat × Nat) → World → Prop}
  (hK : ∀ x' w', BlobsW w'.heap B x' (Ls ++ [L]) → Ext (ownM x) H w'.heap → (∀ c ∈ ownM x', c ∈ ownM x ∨ H.size ≤ c) → K x' w') :
  genL P (Instr.buildSlice y_S_S_uint8 1 #[(0, (Value.slice y.1 y.2.1 y.2.2))]) .slc w fun (t15 : (Option Addr × Nat × Nat)) w_4 =>
  genL P (Builtin.append_ #[y_S_S_uint8, y_S_S_uint8] y_S_S_uint8 #[(Value.slice x.1 x.2.1 x.2.2), (Value.slice t15.1 t15.2.1 t15.2.2)]) .slc w_4 K := by
 have hl := hB.len
 have hylt := mine_lt hy
 obtain ⟨ys, h1, h2, h3⟩ := hB
 have hylen : ys.length = Ls.length := by rw [← h2]; simp
 refine genL_of (s := .slc) (some ⟨w.heap.size, 0, none⟩, 1, 1) _ (build1_g EBs uSS (v := .slice y.1 y.2.1 y.2.2) rfl (by omega) (by omega)) ?_
 subst hw
 have hxp : Ext [] w.heap (w.heap.push (.cells (Value.slice y.1 y.2.1 y.2.2).cells y_S_uint8)) := .push _
 refine append_g (n := 1) (us := [slcV y]) (H := w.heap.push (.cells (Value.slice y.1 y.2.1 y.2.2).cells y_S_uint8)) EBs (by omega) uSS (slice_noint uSS) rfl (h1.ext hxp (by simp)) (by simp; omega)
  (Src.slc rfl (.inr ⟨w.heap.size, 0, _, _, _, rfl, push_new, by simp [Value.cells], by simp [Value.cells, slcV]⟩) rfl) (by intro v hv; simp at hv; subst hv; rfl) (by omega) ?_
 intro x' w4 hm4 hl4 hx4 hs4
 have hx04 : Ext (ownM x) w.heap w4.heap := (hxp.mono (by simp)).trans hx4
 have hs0 : w.heap.size ≤ w4.heap.size := hx04.1
 have hs4' : ∀ c ∈ ownM x', c ∈ ownM x ∨ w.heap.size ≤ c := fun c hc => by
  rcases hs4 c hc with h | h
  ·exact .inl h
  ·right; have := hxp.1; omega
 refine hK x' w4 ⟨ys ++ [(y, L)], by simpa using hm4, by simp [h2], fun z hz => ?_⟩ hx04 hs4'
 rcases List.mem_append.1 hz with hz | hz
 ·obtain ⟨g1, g2⟩ := h3 z hz
  refine ⟨g1.ext hx04 g2, fun b hb h => ?_⟩
  rcases hs4' b h with h | h
  ·exact g2 b hb h
  ·have := (mine_lt g1 b hb).1; omega
 ·simp only [List.mem_singleton] at hz
  subst hz
  refine ⟨hy.ext hx04 hyx, fun b hb h => ?_⟩
  rcases hs4' b h with h | h
  ·exact hyx b hb h
  ·have := (hylt b hb).1; omega
theorem stD {w : World} {H : Heap} {b o : Nat} {c : Array Value} {T : TypeId} {k : List UInt8} (hk : k.length = 32) (hw : w.heap = H) (hb : H[b]? = some (.cells c T (0, 0))) (hs : o + 32 ≤ c.size) {K : World → Prop}
  (hK : ∀ w', w'.heap = H.setIfInBounds b (.cells (setCells c o (byteCells k)) T (0, 0)) → K w') : genU P (storeVar y_api_Digest (⟨b, o, none⟩ : Addr) (arr k)) w K := by
 refine storeVar_h (v := arr k) (by rw [szD, Bl.cells_arr, hk]) (by rw [Bl.cells_arr]; omega) (by simpa [Value.cells, arr] using one_byteCells) hw hb (by rw [Bl.cells_arr]; omega) fun w' hw' => hK w' ?_
 rw [hw']
 simp [Value.cells, arr]
theorem stD0 {w : World} {H : Heap} {b : Nat} {c : Array Value} {T : TypeId} {k : List UInt8} (hk : k.length = 32) (hw : w.heap = H) (hb : H[b]? = some (.cells c T (0, 0))) (hs : c.size = 32) {K : World → Prop}
  (hK : ∀ w', w'.heap = H.setIfInBounds b (.cells (byteCells k).toArray T (0, 0)) → K w') : genU P (storeVar y_api_Digest (⟨b, 0, none⟩ : Addr) (arr k)) w K := by
 refine stD hk hw hb (by omega) fun w' hw' => hK w' ?_
 rw [hw', setCells_all (by simp [hk, hs])]
theorem len_sum {L : List UInt8} : (Sha.sum L).length = 32 := Bl.len_sum
set_option maxHeartbeats 4000000 in
theorem pack_c {w : World} {H : Heap} {B : Nat} {x xp xi : Option Addr × Nat × Nat} {Ls : List (List UInt8)} {n : Nod} (hw : w.heap = H) (hB : BlobsW H B x Ls) (hB0 : 0 < B) (hBs : B ≤ H.size) (hN : NodW H n xp xi) (hR : rightN n = true) (hS : Bl.Rounds H) (hlen : Ls.length ≤ 1073741824) (hel : (encN n).length ≤ 1099511627776) :
  CallF P F_tree_pack #[.slice x.1 x.2.1 x.2.2, .agg (nodC n xp xi).toArray] w fun e w' => ∃ x', e = .returned (.tuple #[slcV x', arr (Sha.sum (encN n))]) ∧ BlobsW w'.heap B x' (Ls ++ [encN n]) ∧ Ext (ownM x) H w'.heap ∧ ∀ c ∈ ownM x', c ∈ ownM x ∨ H.size ≤ c := by
 refine fn_tree_pack ?_
 unfold T_tree_pack
 refine newB_h hw fun w1 hw1 => ?_
 have hx1 : Ext [] H w1.heap := by rw [hw1]; exact .push _
 have hb1 : w1.heap[H.size]? = some (.cells (nodC n xp xi).toArray y_api_Node (0, 0)) := by rw [hw1]; exact push_new
 refine newB_h rfl fun w2 hw2 => ?_
 have hx2 : Ext [] w1.heap w2.heap := by rw [hw2]; exact .push _
 have hd2 : w2.heap[w1.heap.size]? = some (.cells (zc P y_api_Digest) y_api_Digest (0, 0)) := by rw [hw2]; exact push_new
 have hx02 := hx1.trans hx2
 refine ldA_all rfl (hx2.get hb1 (by simp)) rfl ?_
 refine callF_of (nencode_c rfl (hN.ext hx02) hR) ?_
 rintro e w3 ⟨y, rfl, hm3, hx3⟩
 refine ⟨(y, 0), rfl, ?_⟩
 have hx03 := hx02.trans hx3
 have hs02 := hx02.1
 have hxlt := hB.lt
 refine app_blob rfl (hB.ext hx03 (by simp)) (by have := hx03.1; omega) (hm3.mono (by omega)) (fun b hb h => by have := ownM_ge hm3 b hb; have := (hxlt b h).1; omega) hlen fun x5 w5 hB5 hx5 hs5 => ?_
 have hylt := mine_lt hm3
 have hm5 := hm3.ext hx5 (fun b hb h => by have := ownM_ge hm3 b hb; have := (hxlt b h).1; omega)
 have hx05 : Ext (ownM x) H w5.heap := (hx03.mono (by simp)).trans hx5
 have h0x : 0 ∉ ownM x := fun h => by have := hB.ge 0 h; omega
 have hyl : y.2.1 = (encN n).length := by have := hm3.len; simp at this; omega
 refine callF_of (Bl.sum_c rfl hm5.cells hyl (mine_cap hm3) (hS.ext hx05 h0x) (by omega)) ?_
 rintro e w6 ⟨rfl, hx6⟩
 refine ⟨arr (Sha.sum (encN n)), rfl, ?_⟩
 have hs1 : H.size < w1.heap.size := lt_of_get hb1
 have hdn : w1.heap.size ∉ ownM x := fun h => by have := (hxlt _ h).1; omega
 have hd6 : w6.heap[w1.heap.size]? = some (.cells (zc P y_api_Digest) y_api_Digest (0, 0)) := hx6.get (hx5.get (hx3.get hd2 (by simp)) hdn) (by simp)
 refine stD0 len_sum rfl hd6 (by rw [zcD]) fun w7 hw7 => ?_
 have hd7 : w7.heap[w1.heap.size]? = some (.cells (byteCells (Sha.sum (encN n))).toArray y_api_Digest (0, 0)) := by rw [hw7]; exact set_new hd6
 refine ldA_all rfl hd7 (by simp [len_sum]) ?_
 have hx06 := hx05.trans (hx6.mono (by simp))
 have hdx5 : w1.heap.size ∉ ownM x5 := fun h => by
  rcases hs5 _ h with h | h
  ·exact hdn h
  ·have := hx3.1; have := lt_of_get hd2; omega
 refine ⟨x5, rfl, ?_, ?_, fun c hc => ?_⟩
 ·have hB6 := hB5.ext hx6 (by simp)
  obtain ⟨ys, g1, g2, g3⟩ := hB6
  have hx67 : Ext [w1.heap.size] w6.heap w7.heap := by rw [hw7]; exact Ext.set _ (by simp)
  refine ⟨ys, g1.ext hx67 (fun b hb h => by simp at h; subst h; exact hdx5 hb), g2, fun z hz => ⟨(g3 z hz).1.ext hx67 fun b hb h => ?_, (g3 z hz).2⟩⟩
  simp at h; subst h
  obtain ⟨_, c', T', fr', hcell⟩ := mine_lt (g3 z hz).1 _ hb
  rcases (g3 z hz).1 with ⟨h, _⟩ | ⟨b', c2, hx1', _, hg, _⟩
  ·rw [h] at hb; simp [ownM] at hb
  ·simp [ownM, hx1'] at hb
   subst hb
   rw [hd6] at hg
   simp only [Option.some.injEq, Obj.cells.injEq] at hg
   exact absurd hg.2.1 (by decide)
 ·rw [hw7]; exact hx06.set_own (.inl (by omega))
 ·rcases hs5 c hc with h | h
  ·exact .inl h
  ·right; have := hx03.1; omega
end Go.Proofs.YtbmegmbnlajbbaaGreatDoor
namespace Go.Proofs.YtbmegmbnlajbbaaGreatDoor
open Go Go.Fw Go.Proofs
theorem conv8 {w : World} {H : Heap} {D : List UInt8} (hw : w.heap = H) {K : (Option Addr × Nat × Nat) → World → Prop}
  (hK : ∀ y w', Cells w'.heap y.1 (byteCells D) → y.2.1 = D.length → y.2.1 ≤ y.2.2 → ownM y = [H.size] → Ext [] H w'.heap → H.size < w'.heap.size → K y w') : genL P (convert y_string y_S_uint8 (.string (strOf D))) .slc w K := by
 subst hw
 have h := run_bytes_of_string w y_string y_S_uint8 y_uint8 (strOf D) uStr uS8 u8 (P := P)
 have hge := grownCap_ge w (strOf D).size 0 y_uint8
 refine genL_of (s := .slc) (some ⟨w.heap.size, 0, none⟩, (strOf D).size, grownCap w (strOf D).size 0 y_uint8) _ h ?_
 refine hK _ _ (.inr ⟨w.heap.size, 0, _, _, _, rfl, push_new, ?_, ?_⟩) (by simp) hge rfl (.push _) (by show w.heap.size < (w.heap.push _).size; simp)
 ·simp [bytesRow, strOf]
 ·rw [Nat.zero_add]
  simp [bytesRow, strOf, byteCells, List.take_of_length_le]
theorem run_slice3 {w : World} {t e : TypeId} {sz : Nat} {a : Option Addr} {len cap l h m : Nat} {k : IntKind} (hu : P.underlying t = some (.slice e)) (hs : (P.info? e).map (·.size) = some sz) (h1 : l ≤ h) (h2 : h ≤ m) (h3 : m ≤ cap) :
  (Instr.sliceAt t (.slice a len cap) (some (.int k (l : Int))) (some (.int k (h : Int))) (some (.int k (m : Int)))).run P w = .ok (.slice (if m = l then a else a.map (·.add (l * sz))) (h - l) (m - l)) w := by
 have em : ∀ code, (Instr.sliceBound (.int k (m : Int)) cap code).run P w = .ok m w := by
  intro code
  simp [Instr.sliceBound, asIntOf, h3]
 have eh : ∀ code, (Instr.sliceBound (.int k (h : Int)) m code).run P w = .ok h w := by
  intro code
  simp [Instr.sliceBound, asIntOf, h2]
 have el : ∀ code, (Instr.sliceBound (.int k (l : Int)) h code).run P w = .ok l w := by
  intro code
  simp [Instr.sliceBound, asIntOf, h1]
 simp [Instr.sliceAt, Instr.slice, Instr.sliceBounds, run_underlying' hu, em, eh, el, run_sizeOf_info hs]
def npc (D : List UInt8) : Nat := (D.length + 63) / 64
def pieceB (D : List UInt8) (j : Nat) : List UInt8 := (D.drop (64 * j)).take 64
def pieceV (y : Option Addr × Nat × Nat) (D : List UInt8) (j : Nat) : Option Addr × Nat × Nat := (if 64 * j + min 64 (D.length - 64 * j) = 64 * j then y.1 else y.1.map (·.add (64 * j * 1)), (64 * j + min 64 (D.length - 64 * j)) - 64 * j, (64 * j + min 64 (D.length - 64 * j)) - 64 * j)
theorem pieceB_len {D : List UInt8} {j : Nat} : (pieceB D j).length = min 64 (D.length - 64 * j) := by simp [pieceB]
theorem npc_lt {D : List UInt8} {j : Nat} : j < npc D ↔ 64 * j < D.length := by unfold npc; omega
theorem piece_cells {H : Heap} {y : Option Addr × Nat × Nat} {D : List UInt8} {j : Nat} (h : Cells H y.1 (byteCells D)) (hj : j < npc D) : Cells H (pieceV y D j).1 (byteCells (pieceB D j)) := by
 have hj' := npc_lt.1 hj
 have h1 := h.part (64 * j) (min 64 (D.length - 64 * j)) (by simp; omega)
 rw [byteCells_drop, byteCells_take] at h1
 have h2 : pieceB D j = (D.drop (64 * j)).take (min 64 (D.length - 64 * j)) := by
  unfold pieceB
  by_cases h64 : 64 ≤ D.length - 64 * j
  ·rw [Nat.min_eq_left h64]
  ·rw [Nat.min_eq_right (by omega), List.take_of_length_le (by simp; omega), List.take_of_length_le (by simp)]
 rw [h2]
 unfold pieceV
 simp only
 rw [if_neg (by omega), Nat.mul_one]
 exact h1
theorem seq_chunk {w : World} {H : Heap} {b c : Nat} {y : Option Addr × Nat × Nat} {D : List UInt8} (hw : w.heap = H) (hb : H[b]? = some (.cells #[slcV y] y_S_uint8 (0, 0))) (hc : H[c]? = some (.cells #[.int .i64 64] y_int (0, 0))) (hy : y.2.1 = D.length) (hcap : y.2.1 ≤ y.2.2) (hD : D.length ≤ 1099511627776) :
  SeqC P (.func (.func F_slices_Chunk_S_byte_byte_1) #[] #[.pointer (some ⟨b, 0, none⟩), .pointer (some ⟨c, 0, none⟩)]) (fun ys => ys = List.range (npc D)) (fun pre j => j = pre.length ∧ j < npc D) (fun j => #[slcV (pieceV y D j)]) [b, c] w := by
 refine ⟨_, _, rfl, fun l I J w1 M hx1 hMM hst h0 hY => ?_⟩
 have hx1 := hw ▸ hx1
 have hb1 := hx1.get hb (by simp)
 have hc1 := hx1.get hc (by simp)
 have hbl := lt_of_get hb1
 have hcl := lt_of_get hc1
 refine fn_slices_Chunk_S_byte_byte_1 ?_
 unfold T_slices_Chunk_S_byte_byte_1
 refine loopP_of (fun s W => ∃ i : Nat, s = ((64 * i : Nat) : Int) ∧ i ≤ npc D ∧ I (List.range i) W ∧ w1.heap.size ≤ W.heap.size ∧ W.heap[b]? = some (.cells #[slcV y] y_S_uint8 (0, 0)) ∧ W.heap[c]? = some (.cells #[.int .i64 64] y_int (0, 0))) (fun s _ => (64 * npc D + 64 - s).toNat)
  ⟨0, rfl, Nat.zero_le _, h0, Nat.le_refl _, hb1, hc1⟩ ?_
 rintro _ W ⟨i, rfl, hi, hI, hsz, hbW, hcW⟩
 simp only [withAddr_some]
 refine ld_h (s := .slc) (t := y) rfl hbW rfl ?_
 refine iteP_dec (fun hil => ?_) (fun hil => ?_)
 ·have hil : i < npc D := npc_lt.2 (by omega)
  have hil' := npc_lt.1 hil
  refine drewP_h rfl fun w2 hw2 => ?_
  have hx02 : Ext [] W.heap w2.heap := by rw [hw2]; exact .refl _ _
  have hb2 := hx02.get hbW (by simp)
  have hc2 := hx02.get hcW (by simp)
  refine ld_h (s := .int .i64) (t := (64 : Int)) rfl hc2 rfl ?_
  refine ld_h (s := .slc) (t := y) rfl hb2 rfl ?_
  refine genQ_of (s := .slc) (if y.2.2 = 64 * i then y.1 else y.1.map (·.add (64 * i * 1)), y.2.1 - 64 * i, y.2.2 - 64 * i) (run_slice_slc uS8 sz8 (.yes rfl) .no (by omega) hcap) ?_
  refine genQ_of (s := .int .i64) ((min 64 (D.length - 64 * i) : Nat) : Int) (by rw [run_min_int2]; congr 2; simp only; split <;> omega) ?_
  refine ld_h (s := .slc) (t := y) rfl hb2 rfl ?_
  refine addI_to ((64 * i + min 64 (D.length - 64 * i) : Nat) : Int) (by omega) (by omega) (by omega) ?_
  refine addI_to ((64 * i + min 64 (D.length - 64 * i) : Nat) : Int) (by omega) (by omega) (by omega) ?_
  refine genQ_of (s := .slc) (pieceV y D i) (run_slice3 uS8 sz8 (by omega) (Nat.le_refl _) (by omega)) ?_
  refine callV_yield ((hY (List.range i) i w2 ⟨by simp, hil⟩ (hst _ _ _ hI (.new hsz hx02))).mono ?_)
  have hs2 : W.heap.size ≤ w2.heap.size := hx02.1
  rintro e W2 ⟨hK, ⟨rfl, hI2⟩ | ⟨rfl, hJ2⟩⟩
  ·refine ⟨true, rfl, ?_⟩
   refine iteP_f rfl ?_
   have hb3 := hK.get hb2 hbl (fun h => (hMM _ h).2 (by simp))
   have hc3 := hK.get hc2 hcl (fun h => (hMM _ h).2 (by simp))
   refine ld_h (s := .int .i64) (t := (64 : Int)) rfl hc3 rfl ?_
   refine addI_to ((64 * (i + 1) : Nat) : Int) (by omega) (by omega) (by omega) ?_
   refine ⟨⟨i + 1, rfl, by omega, ?_, ?_, hb3, hc3⟩, by omega⟩
   ·rw [List.range_succ]; exact hI2
   ·exact Nat.le_trans (Nat.le_trans hsz hs2) hK.1
  ·refine ⟨false, rfl, ?_⟩
   exact iteP_t rfl ⟨⟨_, rfl⟩, .inr hJ2⟩
 ·have hil : i = npc D := by
   have : ¬ i < npc D := fun h => by have := npc_lt.1 h; omega
   omega
  refine ⟨⟨_, rfl⟩, .inl ⟨List.range (npc D), rfl, ?_⟩⟩
  rw [← hil]; exact hI
theorem chunk_c {w : World} {H : Heap} {y : Option Addr × Nat × Nat} {D : List UInt8} (hw : w.heap = H) (hy : y.2.1 = D.length) (hcap : y.2.1 ≤ y.2.2) (hD : D.length ≤ 1099511627776) :
  CallF P F_slices_Chunk_S_byte_byte #[.slice y.1 y.2.1 y.2.2, .int .i64 64] w fun e w' => ∃ gv b c, e = .returned gv ∧ H.size ≤ b ∧ H.size ≤ c ∧ b < w'.heap.size ∧ c < w'.heap.size ∧ Ext [] H w'.heap ∧
   SeqC P gv (fun ys => ys = List.range (npc D)) (fun pre j => j = pre.length ∧ j < npc D) (fun j => #[slcV (pieceV y D j)]) [b, c] w' := by
 refine fn_slices_Chunk_S_byte_byte ?_
 unfold T_slices_Chunk_S_byte_byte
 refine newB_h hw fun w1 hw1 => ?_
 have hx1 : Ext [] H w1.heap := by rw [hw1]; exact .push _
 have hb1 : w1.heap[H.size]? = some (.cells #[slcV y] y_S_uint8 (0, 0)) := by rw [hw1]; exact push_new
 refine newB_h rfl fun w2 hw2 => ?_
 have hx2 : Ext [] w1.heap w2.heap := by rw [hw2]; exact .push _
 have hc2 : w2.heap[w1.heap.size]? = some (.cells #[.int .i64 64] y_int (0, 0)) := by rw [hw2]; exact push_new
 have hb2 := hx2.get hb1 (by simp)
 refine joinP_in ?_
 refine ld_h (s := .int .i64) (t := (64 : Int)) rfl hc2 rfl ?_
 refine iteP_f rfl ?_
 refine genQ_of (s := .any) (.func (.func F_slices_Chunk_S_byte_byte_1) #[] #[.pointer (some ⟨H.size, 0, none⟩), .pointer (some ⟨w1.heap.size, 0, none⟩)]) (by simp [Instr.makeFunc]; rfl) ?_
 have hs1 := hx1.1
 exact ⟨_, H.size, w1.heap.size, rfl, Nat.le_refl _, hs1, lt_of_get hb2, lt_of_get hc2, hx1.trans hx2, seq_chunk rfl hb2 hc2 hy hcap hD⟩
end Go.Proofs.YtbmegmbnlajbbaaGreatDoor
namespace Go.Proofs.YtbmegmbnlajbbaaGreatDoor
open Go Go.Fw Go.Proofs
def chunkN (p : List UInt8) : Nod := ⟨1, p, 0, [], []⟩
def chunkBlob (D : List UInt8) (j : Nat) : List UInt8 := encN (chunkN (pieceB D j))
def sumsOf (D : List UInt8) (k : Nat) : List (List UInt8) := (List.range k).map fun j => Sha.sum (chunkBlob D j)
def fileNod (D : List UInt8) (k : Nat) : Nod := ⟨2, [], D.length, sumsOf D k, []⟩
def chunkBlobs (D : List UInt8) (k : Nat) : List (List UInt8) := (List.range k).map (chunkBlob D)
def fileBlobs (D : List UInt8) : List (List UInt8) := chunkBlobs D (npc D) ++ [encN (fileNod D (npc D))]
def fileSum (D : List UInt8) : List UInt8 := Sha.sum (encN (fileNod D (npc D)))
theorem sumsOf_succ {D : List UInt8} {k : Nat} : sumsOf D (k + 1) = sumsOf D k ++ [Sha.sum (chunkBlob D k)] := by simp [sumsOf, List.range_succ]
theorem chunkBlobs_succ {D : List UInt8} {k : Nat} : chunkBlobs D (k + 1) = chunkBlobs D k ++ [chunkBlob D k] := by simp [chunkBlobs, List.range_succ]
theorem sumsOf_len {D : List UInt8} {k : Nat} : (sumsOf D k).length = k := by simp [sumsOf]
theorem sumsOf_32 {D : List UInt8} {k : Nat} : ∀ p ∈ sumsOf D k, p.length = 32 := by
 intro p hp
 obtain ⟨j, _, rfl⟩ := List.mem_map.1 hp
 exact len_sum
theorem chunk_right {D : List UInt8} {j : Nat} (h : j < npc D) : rightN (chunkN (pieceB D j)) = true := by
 have h1 := npc_lt.1 h
 have h2 := pieceB_len (D := D) (j := j)
 unfold rightN chunkN
 simp only [if_true, decide_eq_true_eq, List.length_nil, and_true]
 omega
theorem file_right {D : List UInt8} (h : D.length ≤ 1024) : rightN (fileNod D (npc D)) = true := by
 unfold rightN fileNod
 rw [if_neg (show ¬ ((2 : Int) = 1) by decide), if_pos rfl]
 simp only [sumsOf_len, List.length_nil, and_true, true_and, decide_eq_true_eq, partsN, npc]
 omega
theorem chunkBlob_len {D : List UInt8} {j : Nat} : (chunkBlob D j).length ≤ 100 := by
 have h2 := pieceB_len (D := D) (j := j)
 have u := @uintB_len 1
 have nl := numB_len64 (n := (pieceB D j).length) (by omega)
 unfold chunkBlob encN chunkN
 simp only [if_true, List.length_append, textB]
 omega
theorem fileNod_len {D : List UInt8} {k : Nat} (hk : k ≤ 65536) : (encN (fileNod D k)).length ≤ 3000000 := by
 have u := @uintB_len 2
 have u2 := @uintB_len (D.length : Int)
 have := partsB_len (l := sumsOf D k) sumsOf_32
 rw [sumsOf_len] at this
 unfold encN fileNod
 rw [if_neg (show ¬ ((2 : Int) = 1) by decide), if_pos rfl]
 simp only [List.length_append]
 omega
theorem mine_ne {H : Heap} {B B' : Nat} {T T' : TypeId} {sz sz' : Nat} {x x' : Option Addr × Nat × Nat} {vs vs' : List Value} (h : Mine H B T sz x vs) (h' : Mine H B' T' sz' x' vs') (hne : T ≠ T') : ∀ b ∈ ownM x, b ∉ ownM x' := by
 intro b hb hb'
 rcases h with ⟨rfl, _⟩ | ⟨b1, c1, hx1, _, hg1, _⟩
 ·simp [ownM] at hb
 rcases h' with ⟨rfl, _⟩ | ⟨b2, c2, hx2, _, hg2, _⟩
 ·simp [ownM] at hb'
 simp [ownM, hx1] at hb
 simp [ownM, hx2] at hb'
 subst hb hb'
 rw [hg1] at hg2
 simp only [Option.some.injEq, Obj.cells.injEq] at hg2
 exact hne hg2.2.1
theorem ED : Elem P y_api_Digest 32 32 := Bl.E27
theorem app_dig {w : World} {H : Heap} {B : Nat} {x : Option Addr × Nat × Nat} {ds : List (List UInt8)} {k : List UInt8} (hw : w.heap = H) (hm : Mine H B y_api_Digest 32 x (ds.flatMap Bl.enc32)) (hBs : B ≤ H.size) (hk : k.length = 32) (hlen : ds.length ≤ 1073741824) {K : (Option Addr × Nat × Nat) → World → Prop}
  (hK : ∀ x' w', Mine w'.heap B y_api_Digest 32 x' ((ds ++ [k]).flatMap Bl.enc32) → Ext (ownM x) H w'.heap → (∀ c ∈ ownM x', c ∈ ownM x ∨ H.size ≤ c) → K x' w') :
  genL P (Instr.buildSlice y_S_api_Digest 1 #[(0, arr k)]) .slc w fun (t27 : (Option Addr × Nat × Nat)) w_13 =>
  genL P (Builtin.append_ #[y_S_api_Digest, y_S_api_Digest] y_S_api_Digest #[(Value.slice x.1 x.2.1 x.2.2), (Value.slice t27.1 t27.2.1 t27.2.2)]) .slc w_13 K := by
 have hlx : x.2.1 = ds.length := by
  have := hm.len
  rw [length_flatMap_k Bl.enc32 Bl.len_enc32] at this
  omega
 have hc1 : (arr k).cells = (Bl.enc32 k).toArray := by rw [Bl.enc32_eq hk]; rfl
 refine genL_of (s := .slc) (some ⟨w.heap.size, 0, none⟩, 1, 1) _ (build1_g ED Bl.uS27 (v := arr k) (by rw [Bl.cells_arr, hk]) (by omega) (by omega)) ?_
 subst hw
 have hxp : Ext [] w.heap (w.heap.push (.cells (arr k).cells y_api_Digest)) := .push _
 refine append_g (bts := 32) (n := 1) (us := Bl.enc32 k) (H := w.heap.push (.cells (arr k).cells y_api_Digest)) ED (by omega) Bl.uS27 (slice_noint Bl.uS27) rfl (hm.ext hxp (by simp)) (by simp; omega)
  (Src.slc rfl (.inr ⟨w.heap.size, 0, _, _, _, rfl, push_new, by rw [hc1]; simp, by rw [hc1, Nat.zero_add]; simp⟩) (by rw [Bl.len_enc32])) Bl.one_enc32 (by omega) ?_
 intro x' w4 hm4 hl4 hx4 hs4
 refine hK x' w4 (by rw [List.flatMap_append, List.flatMap_singleton]; exact hm4) ((hxp.mono (by simp)).trans hx4) (fun c hc => ?_)
 rcases hs4 c hc with h | h
 ·exact .inl h
 ·right; have := hxp.1; omega
theorem bN2 (n : Int) (w : World) : (Instr.build y_api_Node #[(0, .int .i64 2), (2, .int .i64 n)]).run P w = .ok (.agg #[.int .i64 2, .string .empty, .int .i64 n, .slice none 0 0, .slice none 0 0]) w := by kernel_rfl
theorem bN1 (s : ByteArray) (w : World) : (Instr.build y_api_Node #[(0, .int .i64 1), (1, .string s)]).run P w = .ok (.agg #[.int .i64 1, .string s, .int .i64 0, .slice none 0 0, .slice none 0 0]) w := by kernel_rfl
theorem NodW.bare {H : Heap} {n : Nod} (hp : n.parts = []) (hi : n.items = []) : NodW H n (none, 0, 0) (none, 0, 0) :=
 ⟨by rw [hp]; exact .inl rfl, by rw [hp]; rfl, by rw [hi]; exact .inl rfl, by rw [hi]; rfl, by rw [hp]; simp, by rw [hi]; simp⟩
set_option maxHeartbeats 16000000 in
theorem file_c {w : World} {H : Heap} {B : Nat} {x : Option Addr × Nat × Nat} {Ls : List (List UInt8)} {D : List UInt8} (hw : w.heap = H) (hB : BlobsW H B x Ls) (hB0 : 0 < B) (hBs : B ≤ H.size) (hS : Bl.Rounds H) (hlen : Ls.length ≤ 536870912) (hD : D.length ≤ 1024) :
  CallF P F_tree_file #[.slice x.1 x.2.1 x.2.2, .string (strOf D)] w fun e w' => ∃ x', e = .returned (.tuple #[slcV x', arr (fileSum D)]) ∧ BlobsW w'.heap B x' (Ls ++ fileBlobs D) ∧ Ext (ownM x) H w'.heap ∧ ∀ c ∈ ownM x', c ∈ ownM x ∨ H.size ≤ c := by
 have hnp : npc D ≤ 16 := by unfold npc; omega
 have hxlt := hB.lt
 have h0x : 0 ∉ ownM x := fun h => by have := hB.ge 0 h; omega
 have h0H : 0 < H.size := by omega
 refine fn_tree_file ?_
 unfold T_tree_file
 refine newB_h hw fun w1 hw1 => ?_
 have hx1 : Ext [] H w1.heap := by rw [hw1]; exact .push _
 have hl1 : w1.heap[H.size]? = some (.cells #[slcV x] y_S_S_uint8 (0, 0)) := by rw [hw1]; exact push_new
 refine newB_h rfl fun w2 hw2 => ?_
 have hx2 : Ext [] w1.heap w2.heap := by rw [hw2]; exact .push _
 have hd2 : w2.heap[w1.heap.size]? = some (.cells (zc P y_api_Digest) y_api_Digest (0, 0)) := by rw [hw2]; exact push_new
 refine genQ_of (s := .any) (.agg (nodC (fileNod D 0) (none, 0, 0) (none, 0, 0)).toArray) (by rw [strOf_size]; exact bN2 _ _) ?_
 refine varN (fileNod D 0) _ _ rfl fun w4 hw4 => ?_
 have hx4 : Ext [] w2.heap w4.heap := by rw [hw4]; exact .push _
 have hn4 : w4.heap[w2.heap.size]? = some (.cells (nodC (fileNod D 0) (none, 0, 0) (none, 0, 0)).toArray y_api_Node (0, 0)) := by rw [hw4]; exact push_new
 refine conv8 rfl fun y w5 hcy hyl hyc hyo hx5 hs5 => ?_
 refine callF_of (chunk_c rfl hyl hyc (by omega)) ?_
 rintro e w6 ⟨gv, b, c, rfl, hbge, hcge, hblt, hclt, hx6, hseq⟩
 refine ⟨gv, rfl, ?_⟩
 have hx46 := hx5.trans hx6
 have hx26 := hx4.trans hx46
 have hx16 := hx2.trans hx26
 have hx06 := hx1.trans hx16
 have s1 : H.size < w1.heap.size := lt_of_get hl1
 have s2 : w1.heap.size < w2.heap.size := lt_of_get hd2
 have s4 : w2.heap.size < w4.heap.size := lt_of_get hn4
 have s6 := hx6.1
 have hl6 := hx16.get hl1 (by simp)
 have hd6 := hx26.get hd2 (by simp)
 have hn6 := hx46.get hn4 (by simp)
 have hcy6 := hcy.ext hx6 (by simp)
 have hB6 := hB.ext hx06 (by simp)
 refine range_of (α := Nat) (shs := [.slc]) (tv := pieceV y D) (fp := [b, c]) hseq (H.size :: w2.heap.size :: ownM x)
  (fun m hm => ?_) (fun m hm => by simp at hm; omega)
  (fun pre W => ∃ x' xp', Ext (ownM x) H W.heap ∧ w6.heap.size ≤ W.heap.size ∧ W.heap[H.size]? = some (.cells #[slcV x'] y_S_S_uint8 (0, 0)) ∧ W.heap[w2.heap.size]? = some (.cells (nodC (fileNod D pre.length) xp' (none, 0, 0)).toArray y_api_Node (0, 0)) ∧
   W.heap[w1.heap.size]? = some (.cells (zc P y_api_Digest) y_api_Digest (0, 0)) ∧ BlobsW W.heap B x' (Ls ++ chunkBlobs D pre.length) ∧ (∀ c ∈ ownM x', c ∈ ownM x ∨ w6.heap.size ≤ c) ∧ Mine W.heap w6.heap.size y_api_Digest 32 xp' ((sumsOf D pre.length).flatMap Bl.enc32) ∧ Cells W.heap y.1 (byteCells D) ∧ pre.length ≤ npc D)
  (fun _ => False) (fun _ _ => False) ?_ (fun _ _ h _ => h.elim) (fun _ _ _ h _ => h.elim) ?_ ?_ ?_ (fun _ h => h.elim) (fun _ _ h => h.elim)
 ·simp only [List.mem_cons] at hm
  rcases hm with rfl | rfl | hm
  ·exact ⟨by omega, by simp; omega⟩
  ·exact ⟨by omega, by simp; omega⟩
  ·have := (hxlt m hm).1
   exact ⟨by omega, by simp; omega⟩
 ·rintro pre W W' ⟨x', xp', h1, h1s, h2, h3, h3d, h4, h5, h6, h7, h8⟩ hBe
  exact ⟨x', xp', hBe.ext (by omega) h1, Nat.le_trans h1s hBe.size, hBe.cells h2, hBe.cells h3, hBe.cells h3d, h4.beside hBe, h5, hBe.mine h6, hBe.own h7, h8⟩
 ·exact ⟨x, (none, 0, 0), hx06.mono (by simp), Nat.le_refl _, hl6, hn6, hd6, by simpa [chunkBlobs] using hB6, fun c hc => .inl hc, .inl ⟨rfl, by simp [sumsOf]⟩, hcy6, Nat.zero_le _⟩
 ·rintro pre k W ⟨rfl, hk⟩ ⟨x', xp', h1, h1s, h2, h3, h3d, h4, h5, h6, h7, h8⟩ hsz beg kc kr kx hbeg
  refine hbeg W _ (.refl _ _) fun W2 hB2 hs2 hkc _ _ => ?_
  have h1 := hB2.ext (show H.size ≤ w6.heap.size by omega) h1
  have h2 := hB2.cells h2
  have h3 := hB2.cells h3
  have h3d := hB2.cells h3d
  have h4 := h4.beside hB2
  have h6 := hB2.mine h6
  have h7 := hB2.own h7
  have hH2 := h1.1
  generalize hk2 : pre.length = k at *
  have x'lt := h4.lt
  have lenk : (Ls ++ chunkBlobs D k).length ≤ 1073741824 := by simp [chunkBlobs]; omega
  refine newB_h rfl fun w9 hw9 => ?_
  have hx9 : Ext [] W2.heap w9.heap := by rw [hw9]; exact .push _
  have hd9 : w9.heap[W2.heap.size]? = some (.cells (zc P y_api_Digest) y_api_Digest (0, 0)) := by rw [hw9]; exact push_new
  refine ld_h (s := .slc) (t := x') rfl (hx9.get h2 (by simp)) rfl ?_
  refine genQ_of (s := .str) _ (convS_h uS8 u8 uStr rfl (piece_cells (h7.ext hx9 (by simp)) hk) (by rw [pieceB_len]; unfold pieceV; simp only; omega)) ?_
  refine genQ_of (s := .any) (.agg (nodC (chunkN (pieceB D k)) (none, 0, 0) (none, 0, 0)).toArray) (bN1 _ _) ?_
  refine callF_of (pack_c (n := chunkN (pieceB D k)) rfl (h4.ext hx9 (by simp)) hB0 (by have := hx9.1; omega) (.bare rfl rfl) (chunk_right hk) ((hS.ext h1 h0x).ext hx9 (by simp)) lenk (by have := chunkBlob_len (D := D) (j := k); unfold chunkBlob at this; omega)) ?_
  rintro e w10 ⟨x2, rfl, hB10, hx10, hs10⟩
  refine ⟨(x2, arr (Sha.sum (chunkBlob D k))), rfl, ?_⟩
  have hHx' : ∀ {m : Nat}, H.size ≤ m → m < w6.heap.size → m ∉ ownM x' := fun h h' hm => by
   rcases h5 _ hm with h2 | h2
   ·have := (hxlt _ h2).1; omega
   ·omega
  have hd2x' : W2.heap.size ∉ ownM x' := fun h => by have := (x'lt _ h).1; omega
  have hl10 := hx10.get (hx9.get h2 (by simp)) (hHx' (Nat.le_refl _) (by omega))
  refine stC_h rfl hl10 (by simp) fun w11 hw11 => ?_
  have hx11 : Ext [H.size] w10.heap w11.heap := by rw [hw11]; exact Ext.set _ (by simp)
  have hl11 : w11.heap[H.size]? = some (.cells #[slcV x2] y_S_S_uint8 (0, 0)) := by rw [hw11]; exact set_new hl10
  have hd11 := hx11.get (hx10.get hd9 hd2x') (by simp; omega)
  refine stD0 len_sum rfl hd11 zcD fun w12 hw12 => ?_
  have hx12 : Ext [W2.heap.size] w11.heap w12.heap := by rw [hw12]; exact Ext.set _ (by simp)
  have hd12 : w12.heap[W2.heap.size]? = some (.cells (byteCells (Sha.sum (chunkBlob D k))).toArray y_api_Digest (0, 0)) := by rw [hw12]; exact set_new hd11
  have s9 := hx9.1
  have s10 := hx10.1
  have s11 := hx11.1
  have s12 := hx12.1
  have s09 : W2.heap.size < w9.heap.size := lt_of_get hd9
  have keep12 : ∀ {m : Nat} {o : Obj}, m ≠ H.size → m ≠ W2.heap.size → m ∉ ownM x' → W2.heap[m]? = some o → w12.heap[m]? = some o := fun h1 h2 h3 h => hx12.get (hx11.get (hx10.get (hx9.get h (by simp)) h3) (by simp [h1])) (by simp [h2])
  have hn12 := keep12 (by omega) (by omega) (hHx' (by omega) (by omega)) h3
  refine ld_h (s := .slc) (t := xp') rfl hn12 rfl ?_
  refine ldA_all rfl hd12 (by simp [len_sum]) ?_
  have hxp' := mine_lt h6
  have hB9 : BlobsW w9.heap B x' (Ls ++ chunkBlobs D k) := h4.ext hx9 (by simp)
  have ne1 : ∀ m ∈ ownM xp', m ∉ ownM x' := by
   obtain ⟨ys, g1, _⟩ := h4
   exact mine_ne h6 g1 (by decide)
  have hm10 : Mine w10.heap w6.heap.size y_api_Digest 32 xp' ((sumsOf D k).flatMap Bl.enc32) := (h6.ext hx9 (by simp)).ext hx10 ne1
  have hm12 : Mine w12.heap w6.heap.size y_api_Digest 32 xp' ((sumsOf D k).flatMap Bl.enc32) := (hm10.ext hx11 (fun m hm h => by have := ownM_ge h6 m hm; simp at h; omega)).ext hx12 (fun m hm h => by have := (hxp' m hm).1; simp at h; omega)
  refine app_dig rfl hm12 (by omega) len_sum (by rw [sumsOf_len]; omega) fun xp2 w14 hm14 hx14 hs14 => ?_
  have hn14 := hx14.get hn12 (fun h => by have := ownM_ge h6 _ h; omega)
  refine stC_h rfl hn14 (by simp [nodC]) fun w15 hw15 => ?_
  have hx15 : Ext [w2.heap.size] w14.heap w15.heap := by rw [hw15]; exact Ext.set _ (by simp)
  have s14 := hx14.1
  have s15 := hx15.1
  have hxAll : Ext (H.size :: w2.heap.size :: W2.heap.size :: (ownM x' ++ ownM xp')) W2.heap w15.heap := by
   refine (hx9.mono (by simp)).trans ((hx10.mono fun m hm => ?_).trans ((hx11.mono fun m hm => ?_).trans ((hx12.mono fun m hm => ?_).trans ((hx14.mono fun m hm => ?_).trans (hx15.mono fun m hm => ?_)))))
   ·simp [hm]
   ·simp at hm; simp [hm]
   ·simp at hm; simp [hm]
   ·simp [hm]
   ·simp at hm; simp [hm]
  have hxA : Ext (H.size :: w2.heap.size :: (ownM x' ++ ownM xp')) W2.heap w15.heap := ⟨hxAll.1, fun m hm hn => hxAll.2 m hm fun h => hn (by simp at h ⊢; rcases h with h | h | h | h <;> first | (exact .inl h) | (exact .inr (.inl h)) | omega | (exact .inr (.inr h)))⟩
  have hK : Keep (H.size :: w2.heap.size :: ownM x) w6.heap.size W2.heap w15.heap := by
   refine .of hxA (fun m hm => ?_) (fun m hm => ?_)
   ·simp only [List.mem_cons, List.mem_append] at hm
    rcases hm with rfl | rfl | hm | hm
    ·left; simp
    ·left; simp
    ·rcases h5 m hm with h | h
     ·left; simp [h]
     ·right; exact ⟨h, (x'lt m hm).2⟩
    ·right; exact ⟨ownM_ge h6 m hm, (hxp' m hm).2⟩
   ·simp only [List.mem_cons] at hm
    rcases hm with rfl | rfl | hm
    ·omega
    ·omega
    ·have := (hxlt m hm).1; omega
  have hB15 : BlobsW w15.heap B x2 ((Ls ++ chunkBlobs D k) ++ [chunkBlob D k]) := by
   obtain ⟨ys, g1, g2, g3⟩ := hB10
   have stay : ∀ {T : TypeId} {x : Option Addr × Nat × Nat} {vs : List Value}, Mine w10.heap B T 1 x vs → T ≠ y_S_S_uint8 → T ≠ y_api_Digest → T ≠ y_api_Node → Mine w15.heap B T 1 x vs := by
    intro T x vs hm n1 n2 n3
    have a1 := hm.ext hx11 (fun m hm1 h => by
     simp at h; subst h
     rcases hm with ⟨rfl, _⟩ | ⟨b1, c1, hx1, _, hg1, _⟩
     ·simp [ownM] at hm1
     ·simp [ownM, hx1] at hm1; subst hm1
      rw [hl10] at hg1
      simp only [Option.some.injEq, Obj.cells.injEq] at hg1
      exact n1 hg1.2.1.symm)
    have a2 := a1.ext hx12 (fun m hm1 h => by
     simp at h; subst h
     rcases a1 with ⟨rfl, _⟩ | ⟨b1, c1, hx1, _, hg1, _⟩
     ·simp [ownM] at hm1
     ·simp [ownM, hx1] at hm1; subst hm1
      rw [hd11] at hg1
      simp only [Option.some.injEq, Obj.cells.injEq] at hg1
      exact n2 hg1.2.1.symm)
    have a3 := a2.ext hx14 (mine_ne a2 hm12 n2)
    exact a3.ext hx15 (fun m hm1 h => by
     simp at h; subst h
     rcases a3 with ⟨rfl, _⟩ | ⟨b1, c1, hx1, _, hg1, _⟩
     ·simp [ownM] at hm1
     ·simp [ownM, hx1] at hm1; subst hm1
      rw [hn14] at hg1
      simp only [Option.some.injEq, Obj.cells.injEq] at hg1
      exact n3 hg1.2.1.symm)
   exact ⟨ys, stay g1 (by decide) (by decide) (by decide), g2, fun z hz => ⟨stay (g3 z hz).1 (by decide) (by decide) (by decide), (g3 z hz).2⟩⟩
  refine hkc w15 hK ⟨x2, xp2, ?_, by omega, ?_, ?_, ?_, ?_, fun m hm => ?_, ?_, ?_, by simp; omega⟩
  ·exact hK.ext h1 (by omega) (fun m hm h => by
    simp only [List.mem_cons] at h
    rcases h with rfl | rfl | h
    ·omega
    ·omega
    ·exact h)
  ·exact hx15.get (hx14.get (hx12.get hl11 (by simp; omega)) (fun h => by have := ownM_ge h6 _ h; omega)) (by simp; omega)
  ·rw [hw15, List.length_append, List.length_singleton, hk2]
   exact set_new hn14
  ·exact hx15.get (hx14.get (keep12 (by omega) (by omega) (hHx' (by omega) (by omega)) h3d) (fun h => by have := ownM_ge h6 _ h; omega)) (by simp; omega)
  ·rw [List.length_append, List.length_singleton, hk2, chunkBlobs_succ, ← List.append_assoc]
   exact hB15
  ·rcases hs10 m hm with h | h
   ·exact h5 m h
   ·right; omega
  ·rw [List.length_append, List.length_singleton, hk2, sumsOf_succ]
   exact hm14.ext hx15 (fun m hm h => by
    simp at h; subst h
    have := ownM_ge hm14 _ hm; omega)
  ·refine h7.ext hxA fun a ha _ h => ?_
   have hab : a.block = w4.heap.size := by simpa [ownM, ha] using hyo
   simp only [List.mem_cons, List.mem_append, hab] at h
   rcases h with h | h | h | h
   ·omega
   ·omega
   ·exact hHx' (by omega) (by omega) h
   ·have := ownM_ge h6 _ h; omega
 ·rintro xs W rfl ⟨x', xp', h1, h1s, h2, h3, h3d, h4, h5, h6, h7, h8⟩ hDf
  simp only [List.length_range] at h3 h4 h6
  refine ld_h (s := .slc) (t := x') rfl h2 rfl ?_
  refine ldA_all rfl h3 rfl ?_
  have hlp : xp'.2.1 = npc D := by
   have := h6.len
   rw [length_flatMap_k Bl.enc32 Bl.len_enc32, sumsOf_len] at this
   omega
  have hNW : NodW W.heap (fileNod D (npc D)) xp' (none, 0, 0) := ⟨h6.cells, by rw [hlp]; exact sumsOf_len.symm, .inl rfl, rfl, sumsOf_32, by simp [fileNod]⟩
  have lenk : (Ls ++ chunkBlobs D (npc D)).length ≤ 1073741824 := by simp [chunkBlobs]; omega
  have hH2 := h1.1
  refine callF_of (pack_c (n := fileNod D (npc D)) rfl h4 hB0 (by omega) hNW (file_right hD) (hS.ext h1 h0x) lenk (by have := fileNod_len (D := D) (k := npc D) (by omega); omega)) ?_
  rintro e w17 ⟨x2, rfl, hB17, hx17, hs17⟩
  refine ⟨(x2, arr (fileSum D)), rfl, ?_⟩
  have x'lt := h4.lt
  have hHx' : ∀ {m : Nat}, H.size ≤ m → m < w6.heap.size → m ∉ ownM x' := fun h h' hm => by
   rcases h5 _ hm with h2 | h2
   ·have := (hxlt _ h2).1; omega
   ·omega
  have hd17 := hx17.get h3d (hHx' (by omega) (by omega))
  refine stD0 len_sum rfl hd17 zcD fun w18 hw18 => ?_
  have hx18 : Ext [w1.heap.size] w17.heap w18.heap := by rw [hw18]; exact Ext.set _ (by simp)
  have hd18 : w18.heap[w1.heap.size]? = some (.cells (byteCells (fileSum D)).toArray y_api_Digest (0, 0)) := by rw [hw18]; exact set_new hd17
  have hDx : w6.heap.size ∉ ownM x' := fun h => by
   obtain ⟨_, c', T', fr', hc'⟩ := x'lt _ h
   rw [hDf] at hc'; cases hc'
  have hD18 : w18.heap[w6.heap.size]? = some (.deferred (some [])) := hx18.get (hx17.get hDf hDx) (by simp; omega)
  refine ⟨hD18, fun w19 hw19 => ?_⟩
  have hBs19 : Beside w6.heap.size w18 w19 := by rw [hw19]; exact .put (Nat.le_refl _) hD18 (by intro _ _ _ h; cases h)
  refine ldA_all rfl (hBs19.cells hd18) (by simp [fileSum, len_sum]) ?_
  have hB18 : BlobsW w18.heap B x2 ((Ls ++ chunkBlobs D (npc D)) ++ [encN (fileNod D (npc D))]) := by
   obtain ⟨ys, g1, g2, g3⟩ := hB17
   have stay : ∀ {T : TypeId} {x : Option Addr × Nat × Nat} {vs : List Value}, Mine w17.heap B T 1 x vs → T ≠ y_api_Digest → Mine w18.heap B T 1 x vs := by
    intro T x vs hm n2
    exact hm.ext hx18 (fun m hm1 h => by
     simp at h; subst h
     rcases hm with ⟨rfl, _⟩ | ⟨b1, c1, hx1, _, hg1, _⟩
     ·simp [ownM] at hm1
     ·simp [ownM, hx1] at hm1; subst hm1
      rw [hd17] at hg1
      simp only [Option.some.injEq, Obj.cells.injEq] at hg1
      exact n2 hg1.2.1.symm)
   exact ⟨ys, stay g1 (by decide), g2, fun z hz => ⟨stay (g3 z hz).1 (by decide), (g3 z hz).2⟩⟩
  refine ⟨x2, rfl, ?_, ?_, fun m hm => ?_⟩
  ·have := hB18.beside hBs19
   rw [List.append_assoc] at this
   exact this
  ·have hx0 : Ext (ownM x) H w17.heap := h1.own hx17 (fun m hm hlt => by
    rcases h5 m hm with h | h
    ·exact h
    ·omega)
   have hx0' : Ext (ownM x) H w18.heap := hx0.own hx18 (fun m hm hlt => by simp at hm; omega)
   exact hBs19.ext (by omega) hx0'
  ·rcases hs17 m hm with h | h
   ·rcases h5 m h with h | h
    ·exact .inl h
    ·right; omega
   ·right; omega
end Go.Proofs.YtbmegmbnlajbbaaGreatDoor
namespace Go.Proofs.YtbmegmbnlajbbaaGreatDoor
open Go Go.Fw Go.Proofs
theorem BlobsW.keep {H H' : Heap} {B : Nat} {x : Option Addr × Nat × Nat} {Ls : List (List UInt8)} {M : List Nat} (h : BlobsW H B x Ls) (hx : Ext M H H') (hM : ∀ m ∈ M, ∀ c T fr, H[m]? = some (.cells c T fr) → T ≠ y_S_uint8 ∧ T ≠ y_uint8) : BlobsW H' B x Ls := by
 obtain ⟨ys, g1, g2, g3⟩ := h
 have stay : ∀ {T : TypeId} {x : Option Addr × Nat × Nat} {vs : List Value}, Mine H B T 1 x vs → (T = y_S_uint8 ∨ T = y_uint8) → Mine H' B T 1 x vs := by
  intro T x vs hm hT
  exact hm.ext hx (fun m hm1 h => by
   rcases hm with ⟨rfl, _⟩ | ⟨b1, c1, hx1, _, hg1, _⟩
   ·simp [ownM] at hm1
   ·simp [ownM, hx1] at hm1; subst hm1
    have := hM _ h _ _ _ hg1
    rcases hT with rfl | rfl
    ·exact this.1 rfl
    ·exact this.2 rfl)
 exact ⟨ys, stay g1 (.inl rfl), g2, fun z hz => ⟨stay (g3 z hz).1 (.inr rfl), (g3 z hz).2⟩⟩
theorem app_dig_h {w : World} {H : Heap} {B : Nat} {x : Option Addr × Nat × Nat} {ds : List (List UInt8)} {k : List UInt8} {Q : World → Prop} (hw : w.heap = H) (hm : Mine H B y_api_Digest 32 x (ds.flatMap Bl.enc32)) (hBs : B ≤ H.size) (hk : k.length = 32) (hlen : ds.length ≤ 1073741824) (hQ : ∀ w', Ext [] H w'.heap → Q w') {K : (Option Addr × Nat × Nat) → World → Prop}
  (hK : ∀ x' w', Mine w'.heap B y_api_Digest 32 x' ((ds ++ [k]).flatMap Bl.enc32) → Ext (ownM x) H w'.heap → (∀ c ∈ ownM x', c ∈ ownM x ∨ H.size ≤ c) → K x' w') :
  genL P (Instr.buildSlice y_S_api_Digest 1 #[(0, arr k)]) .slc w fun (t27 : (Option Addr × Nat × Nat)) w_13 => Q w_13 ∧
  genL P (Builtin.append_ #[y_S_api_Digest, y_S_api_Digest] y_S_api_Digest #[(Value.slice x.1 x.2.1 x.2.2), (Value.slice t27.1 t27.2.1 t27.2.2)]) .slc w_13 K := by
 have hlx : x.2.1 = ds.length := by
  have := hm.len
  rw [length_flatMap_k Bl.enc32 Bl.len_enc32] at this
  omega
 have hc1 : (arr k).cells = (Bl.enc32 k).toArray := by rw [Bl.enc32_eq hk]; rfl
 refine genL_of (s := .slc) (some ⟨w.heap.size, 0, none⟩, 1, 1) _ (build1_g ED Bl.uS27 (v := arr k) (by rw [Bl.cells_arr, hk]) (by omega) (by omega)) ?_
 subst hw
 have hxp : Ext [] w.heap (w.heap.push (.cells (arr k).cells y_api_Digest)) := .push _
 refine ⟨hQ _ hxp, ?_⟩
 refine append_g (bts := 32) (n := 1) (us := Bl.enc32 k) (H := w.heap.push (.cells (arr k).cells y_api_Digest)) ED (by omega) Bl.uS27 (slice_noint Bl.uS27) rfl (hm.ext hxp (by simp)) (by simp; omega)
  (Src.slc rfl (.inr ⟨w.heap.size, 0, _, _, _, rfl, push_new, by rw [hc1]; simp, by rw [hc1, Nat.zero_add]; simp⟩) (by rw [Bl.len_enc32])) Bl.one_enc32 (by omega) ?_
 intro x' w4 hm4 hl4 hx4 hs4
 refine hK x' w4 (by rw [List.flatMap_append, List.flatMap_singleton]; exact hm4) ((hxp.mono (by simp)).trans hx4) (fun c hc => ?_)
 rcases hs4 c hc with h | h
 ·exact .inl h
 ·right; have := hxp.1; omega
end Go.Proofs.YtbmegmbnlajbbaaGreatDoor
namespace Go.Proofs.YtbmegmbnlajbbaaGreatDoor
open Go Go.Fw Go.Proofs Go.Sort
structure Fil where
 path : List UInt8
 dir : Bool
 data : List UInt8
deriving DecidableEq, Inhabited
def encF (f : Fil) : List Value := [.string (strOf f.path), .bool f.dir, .string (strOf f.data)]
theorem len_encF (f : Fil) : (encF f).length = 3 := rfl
theorem one_encF {f : Fil} : oneCells (encF f) := by
 intro v hv
 simp only [encF, List.mem_cons, List.not_mem_nil, or_false] at hv
 rcases hv with rfl | rfl | rfl <;> rfl
def nm (f : Fil) : Path := (parseP f.path).1
theorem nm_ok (f : Fil) : okP (nm f) := parse_ok f.path
def clean (f : Fil) : Fil := ⟨showP (nm f), f.dir, f.data⟩
theorem nm_clean {f : Fil} : nm (clean f) = nm f := by unfold nm clean; rw [parse_show (nm_ok f)]; rfl
def insF : List Fil → Fil → List Fil
 | [], f => [f]
 | g :: L, f => if cmpP (nm g) (nm f) < 0 then g :: insF L f else f :: g :: L
def sortF (L : List Fil) : List Fil := L.foldl insF []
def RiseF (L : List Fil) : Prop := L.Pairwise fun a b => cmpP (nm a) (nm b) < 0
theorem insF_perm : ∀ (L : List Fil) (f : Fil), (insF L f).Perm (f :: L)
 | [], f => .refl _
 | g :: L, f => by
  unfold insF
  split
  ·exact ((insF_perm L f).cons g).trans (.swap f g L)
  ·exact .refl _
theorem insF_rise : ∀ {L : List Fil} {f : Fil}, RiseF L → (∀ g ∈ L, nm g ≠ nm f) → RiseF (insF L f)
 | [], f, _, _ => by simp [insF, RiseF]
 | g :: L, f, h, hn => by
  obtain ⟨h1, h2⟩ := List.pairwise_cons.1 h
  unfold insF
  split
  ·rename_i hlt
   refine List.pairwise_cons.2 ⟨fun x hx => ?_, insF_rise h2 fun y hy => hn y (by simp [hy])⟩
   rcases List.mem_cons.1 ((insF_perm L f).mem_iff.1 hx) with rfl | hx
   ·exact hlt
   ·exact h1 x hx
  ·rename_i hge
   have hgt : cmpP (nm f) (nm g) < 0 := by
    have h3 := cmpP_neg (p := nm f) (q := nm g)
    have h4 : cmpP (nm g) (nm f) ≠ 0 := fun e => hn g (by simp) (cmpP_eq.1 e)
    omega
   refine List.pairwise_cons.2 ⟨fun x hx => ?_, h⟩
   rcases List.mem_cons.1 hx with rfl | hx
   ·exact hgt
   ·exact cmpP_trans hgt (h1 x hx)
theorem sortF_aux : ∀ (L A : List Fil), RiseF A → ((A ++ L).map nm).Nodup → (L.foldl insF A).Perm (A ++ L) ∧ RiseF (L.foldl insF A)
 | [], A, hA, _ => by simp [hA]
 | f :: L, A, hA, hn => by
  have hfA : ∀ g ∈ A, nm g ≠ nm f := by
   intro g hg e
   rw [List.map_append, List.nodup_append] at hn
   exact hn.2.2 _ (List.mem_map.2 ⟨g, hg, rfl⟩) _ (List.mem_map.2 ⟨f, by simp, rfl⟩) e
  have hp := insF_perm A f
  have h1 : (insF A f ++ L).Perm (A ++ f :: L) := (hp.append_right L).trans (List.perm_middle (a := f) (l₁ := A) (l₂ := L)).symm
  obtain ⟨g1, g2⟩ := sortF_aux L (insF A f) (insF_rise hA hfA) ((h1.map nm).nodup_iff.2 hn)
  exact ⟨g1.trans h1, g2⟩
theorem sortF_spec {L : List Fil} (hn : (L.map nm).Nodup) : (sortF L).Perm L ∧ RiseF (sortF L) := by
 have := sortF_aux L [] List.Pairwise.nil (by simpa using hn)
 simpa [sortF] using this
theorem rise_same : ∀ {A B : List Fil}, RiseF A → RiseF B → A.Perm B → A = B
 | [], B, _, _, hp => by rw [hp.nil_eq]
 | a :: A, [], _, _, hp => by have := hp.length_eq; simp at this
 | a :: A, b :: B, hA, hB, hp => by
  obtain ⟨a1, a2⟩ := List.pairwise_cons.1 hA
  obtain ⟨b1, b2⟩ := List.pairwise_cons.1 hB
  have hab : a = b := by
   rcases List.mem_cons.1 (hp.mem_iff.1 (List.mem_cons_self (a := a) (l := A))) with h | h
   ·exact h
   ·rcases List.mem_cons.1 (hp.mem_iff.2 (List.mem_cons_self (a := b) (l := B))) with h' | h'
    ·exact h'.symm
    ·have h3 := b1 a h
     have h4 := a1 b h'
     have h5 := cmpP_neg (p := nm a) (q := nm b)
     omega
  subst hab
  rw [rise_same a2 b2 ((List.perm_cons a).1 hp)]
def kidP (p : Path) (f : Fil) : Bool := decide (nm f ≠ [] ∧ (nm f).dropLast = p)
def kids (S : List Fil) (p : Path) : List Fil := S.filter (kidP p)
def lastN (p : Path) : List UInt8 := p.getLast?.getD []
def dirNod (T : List Itm) : Nod := ⟨3, [], 0, [], T⟩
def kidStep (rec : Path → List (List UInt8) × List UInt8) (acc : List (List UInt8) × List Itm) (f : Fil) : List (List UInt8) × List Itm :=
 if f.dir then (acc.1 ++ (rec (nm f)).1, acc.2 ++ [⟨lastN (nm f), 3, (rec (nm f)).2⟩]) else (acc.1 ++ fileBlobs f.data, acc.2 ++ [⟨lastN (nm f), 2, fileSum f.data⟩])
def kidsAcc (rec : Path → List (List UInt8) × List UInt8) (K : List Fil) : List (List UInt8) × List Itm := K.foldl (kidStep rec) ([], [])
def dirB (S : List Fil) : Nat → Path → List (List UInt8) × List UInt8
 | 0, _ => ([], [])
 | n + 1, p => ((kidsAcc (dirB S n) (kids S p)).1 ++ [encN (dirNod (kidsAcc (dirB S n) (kids S p)).2)], Sha.sum (encN (dirNod (kidsAcc (dirB S n) (kids S p)).2)))
theorem kidsAcc_snoc {rec : Path → List (List UInt8) × List UInt8} {K : List Fil} {f : Fil} : kidsAcc rec (K ++ [f]) = kidStep rec (kidsAcc rec K) f := by simp [kidsAcc]
theorem kids_clean {S : List Fil} {p : Path} : kids (S.map clean) p = (kids S p).map clean := by
 unfold kids
 rw [List.filter_map]
 congr 1
 apply List.filter_congr
 intro f _
 simp [kidP, nm_clean]
theorem kidsAcc_clean {rec : Path → List (List UInt8) × List UInt8} {K : List Fil} : kidsAcc rec (K.map clean) = kidsAcc rec K := by
 unfold kidsAcc
 rw [List.foldl_map]
 congr 1
 funext acc f
 simp only [kidStep, nm_clean]
 rfl
theorem dirB_clean {S : List Fil} : ∀ (n : Nat) (p : Path), dirB (S.map clean) n p = dirB S n p
 | 0, _ => rfl
 | n + 1, p => by
  have : dirB (S.map clean) n = dirB S n := funext (dirB_clean n)
  simp only [dirB, kids_clean, kidsAcc_clean, this]
def itmOf (rec : Path → List (List UInt8) × List UInt8) (f : Fil) : Itm := if f.dir then ⟨lastN (nm f), 3, (rec (nm f)).2⟩ else ⟨lastN (nm f), 2, fileSum f.data⟩
def blobsOf (rec : Path → List (List UInt8) × List UInt8) (f : Fil) : List (List UInt8) := if f.dir then (rec (nm f)).1 else fileBlobs f.data
theorem acc_both {rec : Path → List (List UInt8) × List UInt8} : ∀ (K : List Fil) (acc : List (List UInt8) × List Itm), K.foldl (kidStep rec) acc = (acc.1 ++ (K.map (blobsOf rec)).flatten, acc.2 ++ K.map (itmOf rec))
 | [], acc => by simp
 | f :: K, acc => by
  rw [List.foldl_cons, acc_both K]
  unfold kidStep itmOf blobsOf
  split <;> simp_all
theorem acc_items {rec : Path → List (List UInt8) × List UInt8} {K : List Fil} : (kidsAcc rec K).2 = K.map (itmOf rec) := by
 unfold kidsAcc; rw [acc_both]; simp
theorem acc_blobs {rec : Path → List (List UInt8) × List UInt8} {K : List Fil} : (kidsAcc rec K).1 = (K.map (blobsOf rec)).flatten := by
 unfold kidsAcc; rw [acc_both]; simp
theorem nm_last {f : Fil} (h : nm f ≠ []) : nm f = (nm f).dropLast ++ [lastN (nm f)] := by
 unfold lastN
 rw [List.getLast?_eq_some_getLast h]
 exact (List.dropLast_concat_getLast h).symm
theorem cmpP_snoc {p : Path} {a b : List UInt8} : cmpP (p ++ [a]) (p ++ [b]) = Lib.compareBytes a b := by
 rw [cmpP_drop (i := p.length) (by simp) (by simp) (by simp)]
 simp only [List.drop_left]
 unfold cmpP
 have hr := cmpB_range (a := a) (b := b)
 split
 ·rfl
 ·rename_i h
  have h : Lib.compareBytes a b = 0 := by simpa using h
  rw [h]; rfl
theorem kids_mem {S : List Fil} {p : Path} {f : Fil} (h : f ∈ kids S p) : f ∈ S ∧ nm f ≠ [] ∧ (nm f).dropLast = p := by
 obtain ⟨h1, h2⟩ := List.mem_filter.1 h
 exact ⟨h1, by simpa [kidP] using h2⟩
theorem kids_rise {S : List Fil} (h : RiseF S) {p : Path} : (kids S p).Pairwise fun a b => Lib.compareBytes (lastN (nm a)) (lastN (nm b)) < 0 := by
 have h1 : (kids S p).Pairwise fun a b => cmpP (nm a) (nm b) < 0 := h.sublist List.filter_sublist
 refine h1.imp_of_mem fun {a b} ha hb hab => ?_
 obtain ⟨_, a1, a2⟩ := kids_mem ha
 obtain ⟨_, b1, b2⟩ := kids_mem hb
 rw [nm_last a1, nm_last b1, a2, b2, cmpP_snoc] at hab
 exact hab
theorem last_ok {f : Fil} (h : nm f ≠ []) : nameOk (lastN (nm f)) = true := by
 have := (nm_ok f).1
 refine this _ ?_
 unfold lastN
 rw [List.getLast?_eq_some_getLast h]
 exact List.getLast_mem h
theorem rise_items {rec : Path → List (List UInt8) × List UInt8} : ∀ {K : List Fil} {last : List UInt8}, (K.Pairwise fun a b => Lib.compareBytes (lastN (nm a)) (lastN (nm b)) < 0) → (∀ f ∈ K, nm f ≠ []) → (∀ f, K.head? = some f → Lib.compareBytes last (lastN (nm f)) < 0) → riseB last (K.map (itmOf rec)) = true
 | [], _, _, _, _ => rfl
 | f :: K, last, h, hn, hl => by
  obtain ⟨h1, h2⟩ := List.pairwise_cons.1 h
  have hi : (itmOf rec f).name = lastN (nm f) ∧ ((itmOf rec f).kind = 2 ∨ (itmOf rec f).kind = 3) := by
   unfold itmOf
   split
   ·exact ⟨rfl, .inr rfl⟩
   ·exact ⟨rfl, .inl rfl⟩
  rw [List.map_cons, riseB, hi.1]
  have ih := rise_items (rec := rec) (K := K) (last := lastN (nm f)) h2 (fun g hg => hn g (by simp [hg])) (fun g hg => h1 g (List.mem_of_mem_head? hg))
  simp only [Bool.and_eq_true, decide_eq_true_eq, Bool.or_eq_true]
  exact ⟨⟨⟨hl f rfl, last_ok (hn f (by simp))⟩, hi.2⟩, ih⟩
theorem dir_right {S : List Fil} (h : RiseF S) {p : Path} {rec : Path → List (List UInt8) × List UInt8} (hm : (kids S p).length ≤ 64) : rightN (dirNod ((kids S p).map (itmOf rec))) = true := by
 unfold rightN dirNod
 rw [if_neg (show ¬ ((3 : Int) = 1) by decide), if_neg (show ¬ ((3 : Int) = 2) by decide), if_pos rfl]
 simp only [List.length_nil, and_self, decide_true, Bool.true_and, risingB, Bool.and_eq_true, decide_eq_true_eq, List.length_map]
 refine ⟨rise_items (kids_rise h) (fun f hf => (kids_mem hf).2.1) fun f hf => ?_, hm⟩
 have := nameOk_iff.1 (last_ok (kids_mem (List.mem_of_mem_head? hf)).2.1)
 cases hl : lastN (nm f) with
 | nil => exact absurd hl this.1.1
 | cons a b => simp [Lib.compareBytes]
theorem dirB_32 {S : List Fil} {n : Nat} {p : Path} : (dirB S (n + 1) p).2.length = 32 := len_sum
def wt (S : List Fil) (p : Path) : Nat := (S.filter fun f => withinP (nm f) p).length
theorem within_self {p : Path} : withinP p p = true := within_iff.2 ⟨Nat.le_refl _, by simp⟩
theorem sum_map_filter {S : List Fil} {p : Fil → Bool} : ((S.map fun f => if p f then 1 else 0).sum) = (S.filter p).length := by
 induction S with
 | nil => rfl
 | cons f S ih =>
  rw [List.map_cons, List.sum_cons, ih, List.filter_cons]
  split <;> simp_all <;> omega
theorem sum_swap {α β : Type} (A : List α) (B : List β) (g : α → β → Nat) : (A.map fun a => (B.map fun b => g a b).sum).sum = (B.map fun b => (A.map fun a => g a b).sum).sum := by
 induction A with
 | nil => induction B with
  | nil => rfl
  | cons b B ih => simpa using ih
 | cons a A ih =>
  rw [List.map_cons, List.sum_cons, ih]
  clear ih
  induction B with
  | nil => simp
  | cons b B ih2 =>
   simp only [List.map_cons, List.sum_cons] at *
   omega
theorem sum_le {α : Type} {g g' : α → Nat} : ∀ {S : List α}, (∀ f ∈ S, g f ≤ g' f) → (S.map g).sum ≤ (S.map g').sum
 | [], _ => by simp
 | f :: S, h => by
  have h1 := h f (by simp)
  have h2 := sum_le (S := S) fun x hx => h x (by simp [hx])
  simp only [List.map_cons, List.sum_cons]
  omega
theorem wt_kids {S : List Fil} (h : RiseF S) {p : Path} : ((kids S p).map fun e => wt S (nm e)).sum ≤ (S.filter fun f => withinP (nm f) p && decide (p.length < (nm f).length)).length := by
 have e1 : ((kids S p).map fun e => wt S (nm e)) = (kids S p).map fun e => (S.map fun f => if withinP (nm f) (nm e) then 1 else 0).sum := by
  apply List.map_congr_left
  intro e _
  rw [sum_map_filter]; rfl
 rw [e1, sum_swap, ← sum_map_filter]
 have key : ∀ f ∈ S, ((kids S p).map fun e => if withinP (nm f) (nm e) then 1 else 0).sum ≤ (if withinP (nm f) p && decide (p.length < (nm f).length) then 1 else 0) := by
  intro f _
  rw [sum_map_filter]
  have huniq : ∀ {e}, e ∈ kids S p → withinP (nm f) (nm e) = true → nm e = (nm f).take (p.length + 1) ∧ p.length + 1 ≤ (nm f).length ∧ (nm f).take p.length = p := by
   intro e he hw
   obtain ⟨_, e1, e2⟩ := kids_mem he
   obtain ⟨w1, w2⟩ := within_iff.1 hw
   have hl : (nm e).length = p.length + 1 := by
    have := congrArg List.length (nm_last e1)
    rw [e2] at this; simpa using this
   refine ⟨by rw [← hl, w2], by omega, ?_⟩
   have := congrArg (List.take p.length) w2
   rw [List.take_take, Nat.min_eq_left (by omega)] at this
   rw [this, nm_last e1, e2]
   simp
  have hle : ((kids S p).filter fun e => withinP (nm f) (nm e)).length ≤ 1 := by
   have hr : ((kids S p).filter fun e => withinP (nm f) (nm e)).Pairwise fun a b => cmpP (nm a) (nm b) < 0 := (h.sublist List.filter_sublist).sublist List.filter_sublist
   match hm : (kids S p).filter fun e => withinP (nm f) (nm e) with
   | [] => simp
   | [_] => simp
   | a :: b :: r =>
    exfalso
    rw [hm] at hr
    have hab := (List.pairwise_cons.1 hr).1 b (by simp)
    have ha : a ∈ (kids S p).filter fun e => withinP (nm f) (nm e) := by rw [hm]; simp
    have hb : b ∈ (kids S p).filter fun e => withinP (nm f) (nm e) := by rw [hm]; simp
    obtain ⟨a1, a2⟩ := List.mem_filter.1 ha
    obtain ⟨b1, b2⟩ := List.mem_filter.1 hb
    rw [(huniq a1 a2).1, (huniq b1 b2).1, cmpP_eq.2 rfl] at hab
    omega
  split
  ·exact hle
  ·rename_i hno
   rw [Nat.le_zero, List.length_eq_zero_iff, List.filter_eq_nil_iff]
   intro e he hw
   obtain ⟨u1, u2, u3⟩ := huniq he hw
   apply hno
   simp only [Bool.and_eq_true, decide_eq_true_eq]
   exact ⟨within_iff.2 ⟨by omega, u3⟩, by omega⟩
 exact sum_le key
theorem fileBlobs_len {D : List UInt8} (h : D.length ≤ 1024) : (fileBlobs D).length ≤ 17 := by
 simp [fileBlobs, chunkBlobs, npc]; omega
theorem dirB_len {S : List Fil} (h : RiseF S) (hd : ∀ f ∈ S, f.data.length ≤ 1024) : ∀ (n : Nat) (p : Path), (dirB S n p).1.length ≤ 1 + 18 * (S.filter fun f => withinP (nm f) p && decide (p.length < (nm f).length)).length
 | 0, p => by simp [dirB]
 | n + 1, p => by
  have h1 := wt_kids h (p := p)
  have ih := dirB_len h hd n
  have key : ∀ K : List Fil, (∀ e ∈ K, e ∈ S) → ((K.map (blobsOf (dirB S n))).flatten).length ≤ 18 * (K.map fun e => wt S (nm e)).sum := by
   intro K
   induction K with
   | nil => intro _; simp
   | cons e K ihK =>
    intro hK
    have h2 := ihK fun x hx => hK x (by simp [hx])
    have heS := hK e (by simp)
    have h3 : (blobsOf (dirB S n) e).length ≤ 18 * wt S (nm e) := by
     have hpos : 1 ≤ wt S (nm e) := List.length_pos_iff.2 (List.ne_nil_of_mem (List.mem_filter.2 ⟨heS, within_self⟩))
     unfold blobsOf
     split
     ·have h4 := ih (nm e)
      have h5 : (S.filter fun f => withinP (nm f) (nm e) && decide ((nm e).length < (nm f).length)).length + 1 ≤ wt S (nm e) := by
       unfold wt
       have : (S.filter fun f => withinP (nm f) (nm e) && decide ((nm e).length < (nm f).length)) = (S.filter fun f => withinP (nm f) (nm e)).filter fun f => decide ((nm e).length < (nm f).length) := by
        rw [List.filter_filter]
        congr 1
        funext f
        rw [Bool.and_comm]
       rw [this]
       refine List.length_filter_lt_length_iff_exists.2 ⟨e, List.mem_filter.2 ⟨heS, within_self⟩, by simp⟩
      omega
     ·have := fileBlobs_len (hd e heS)
      omega
    simp only [List.map_cons, List.flatten_cons, List.length_append, List.sum_cons]
    omega
  have h6 := key (kids S p) fun e he => (kids_mem he).1
  rw [dirB, acc_blobs]
  simp only [List.length_append, List.length_singleton]
  omega
end Go.Proofs.YtbmegmbnlajbbaaGreatDoor
namespace Go.Proofs.YtbmegmbnlajbbaaGreatDoor
open Go Go.Fw Go.Proofs Go.Sort
theorem uST : P.underlying y_S_api_Item = some (.slice y_api_Item) := by kernel_rfl
theorem bT2 (s : ByteArray) (w : World) : (Instr.build y_api_Item #[(0, .string s), (1, .int .i64 2)]).run P w = .ok (.agg ([Value.string s, Value.int .i64 2] ++ byteCells (List.replicate 32 0)).toArray) w := by kernel_rfl
theorem ET : Elem P y_api_Item 34 56 := elem_of (z := .agg ([Value.string .empty, Value.int .i64 0] ++ byteCells (List.replicate 32 0)).toArray) (by kernel_rfl) rfl
theorem app_itm {w : World} {H : Heap} {B : Nat} {x : Option Addr × Nat × Nat} {T : List Itm} {i : Itm} (hw : w.heap = H) (hm : Mine H B y_api_Item 34 x (T.flatMap encT)) (hBs : B ≤ H.size) (hlen : T.length ≤ 1073741824) {K : (Option Addr × Nat × Nat) → World → Prop}
  (hK : ∀ x' w', Mine w'.heap B y_api_Item 34 x' ((T ++ [i]).flatMap encT) → Ext (ownM x) H w'.heap → (∀ c ∈ ownM x', c ∈ ownM x ∨ H.size ≤ c) → K x' w') :
  genL P (Instr.buildSlice y_S_api_Item 1 #[(0, .agg (encT i).toArray)]) .slc w fun (t27 : (Option Addr × Nat × Nat)) w_13 =>
  genL P (Builtin.append_ #[y_S_api_Item, y_S_api_Item] y_S_api_Item #[(Value.slice x.1 x.2.1 x.2.2), (Value.slice t27.1 t27.2.1 t27.2.2)]) .slc w_13 K := by
 have hlx : x.2.1 = T.length := by
  have := hm.len
  rw [length_flatMap_k encT len_encT] at this
  omega
 refine genL_of (s := .slc) (some ⟨w.heap.size, 0, none⟩, 1, 1) _ (build1_g ET uST (v := .agg (encT i).toArray) (by simp [Value.cells, len_encT]) (by omega) (by omega)) ?_
 subst hw
 have hxp : Ext [] w.heap (w.heap.push (.cells (Value.agg (encT i).toArray).cells y_api_Item)) := .push _
 refine append_g (bts := 56) (n := 1) (us := encT i) (H := w.heap.push (.cells (Value.agg (encT i).toArray).cells y_api_Item)) ET (by omega) uST (slice_noint uST) rfl (hm.ext hxp (by simp)) (by simp; omega)
  (Src.slc rfl (.inr ⟨w.heap.size, 0, _, _, _, rfl, push_new, by simp [agg_cells], by simp [agg_cells, List.take_of_length_le]⟩) (by rw [len_encT])) one_encT (by omega) ?_
 intro x' w4 hm4 hl4 hx4 hs4
 refine hK x' w4 (by rw [List.flatMap_append, List.flatMap_singleton]; exact hm4) ((hxp.mono (by simp)).trans hx4) (fun c hc => ?_)
 rcases hs4 c hc with h | h
 ·exact .inl h
 ·right; have := hxp.1; omega
theorem set_kind {n s : List UInt8} {k k' : Int} : (encT ⟨n, k, s⟩).toArray.setIfInBounds 1 (.int .i64 k') = (encT ⟨n, k', s⟩).toArray := by
 simp [encT]
theorem set_sum {n s s' : List UInt8} {k : Int} (hs' : s'.length = 32) : setCells (encT ⟨n, k, s⟩).toArray 2 (byteCells s') = (encT ⟨n, k, s'⟩).toArray := by
 apply Array.ext_getElem?
 intro i
 rw [get_setCells (by simp [len_encT, hs'])]
 simp only [length_byteCells, hs']
 by_cases h : 2 ≤ i ∧ i < 2 + 32
 ·rw [if_pos h]
  obtain ⟨j, rfl⟩ : ∃ j, i = j + 2 := ⟨i - 2, by omega⟩
  simp only [List.getElem?_toArray, encT, Bl.enc32_eq hs', List.getElem?_cons_succ, Nat.add_sub_cancel]
 ·rw [if_neg h]
  simp only [List.getElem?_toArray]
  by_cases h2 : i < 2
  ·match i, h2 with
   | 0, _ => rfl
   | 1, _ => rfl
  ·rw [List.getElem?_eq_none (by rw [len_encT]; omega), List.getElem?_eq_none (by rw [len_encT]; omega)]
theorem acc_len {rec : Path → List (List UInt8) × List UInt8} {K : List Fil} : (kidsAcc rec K).2.length = K.length := by rw [acc_items]; simp
theorem acc_32 {S : List Fil} {p : Path} {n : Nat} (hn : p.length + (n + 1) = 9) {K : List Fil} (hK : ∀ f ∈ K, nm f ≠ [] ∧ (nm f).dropLast = p) : ∀ i ∈ (kidsAcc (dirB S n) K).2, i.sum.length = 32 := by
 rw [acc_items]
 intro i hi
 obtain ⟨f, hf, rfl⟩ := List.mem_map.1 hi
 obtain ⟨h1, h2⟩ := hK f hf
 unfold itmOf
 split
 ·have h8 := (nm_ok f).2
  have hl : (nm f).length = p.length + 1 := by
   have := congrArg List.length (nm_last h1)
   rw [h2] at this; simpa using this
  obtain ⟨m, rfl⟩ : ∃ m, n = m + 1 := ⟨n - 1, by omega⟩
  exact dirB_32
 ·exact len_sum
theorem acc_small {rec : Path → List (List UInt8) × List UInt8} {K : List Fil} (hK : ∀ f ∈ K, nm f ≠ []) (hl : K.length ≤ 65536) : SmallN (dirNod (kidsAcc rec K).2) := by
 refine ⟨by simp [dirNod], by simp [dirNod], by simp only [dirNod]; rw [acc_len]; exact hl, ?_⟩
 simp only [dirNod]
 rw [acc_items]
 intro i hi
 obtain ⟨f, hf, rfl⟩ := List.mem_map.1 hi
 have := (nameOk_iff.1 (last_ok (hK f hf))).1.2.1
 unfold itmOf
 split <;> (simp only; omega)
theorem encD_len {T : List Itm} (h : SmallN (dirNod T)) (h32 : ∀ i ∈ T, i.sum.length = 32) : (encN (dirNod T)).length ≤ 10000000000 := by
 have u := @uintB_len 3
 have u2 := @uintB_len (T.length : Int)
 have h1 := itmsB_len (l := T) h.names h32
 have h2 : T.length ≤ 65536 := h.items
 unfold encN dirNod
 rw [if_neg (show ¬ ((3 : Int) = 1) by decide), if_neg (show ¬ ((3 : Int) = 2) by decide)]
 simp only [List.length_append]
 omega
theorem last_at {f : Fil} (h : nm f ≠ []) : (nm f)[(nm f).length - 1]'(by have := List.length_pos_iff.2 h; omega) = lastN (nm f) := by
 unfold lastN
 rw [List.getLast?_eq_some_getLast h, List.getLast_eq_getElem]
 rfl
theorem bN3 (w : World) : (Instr.build y_api_Node #[(0, .int .i64 3)]).run P w = .ok (.agg #[.int .i64 3, .string .empty, .int .i64 0, .slice none 0 0, .slice none 0 0]) w := by kernel_rfl
theorem BlobsW.row {H : Heap} {B : Nat} {x : Option Addr × Nat × Nat} {Ls : List (List UInt8)} (h : BlobsW H B x Ls) {B' : Nat} {T : TypeId} {sz : Nat} {y : Option Addr × Nat × Nat} {vs : List Value} (hm : Mine H B' T sz y vs) (hT : T ≠ y_S_uint8) : ∀ b ∈ ownM y, b ∉ ownM x := by
 obtain ⟨ys, g1, _⟩ := h
 exact mine_ne hm g1 hT
end Go.Proofs.YtbmegmbnlajbbaaGreatDoor
namespace Go.Proofs.YtbmegmbnlajbbaaGreatDoor
open Go Go.Fw Go.Proofs Go.Sort
structure ME where
 hdr : Option Addr × Nat × Nat
 f : Fil
def encE (m : ME) : List Value := [slcV m.hdr, .string (strOf m.f.path), .bool m.f.dir, .string (strOf m.f.data)]
theorem len_encE (m : ME) : (encE m).length = 4 := rfl
theorem one_encE {m : ME} : oneCells (encE m) := by
 intro v hv
 simp only [encE, List.mem_cons, List.not_mem_nil, or_false] at hv
 rcases hv with rfl | rfl | rfl | rfl <;> rfl
def NamesW (H : Heap) (m : ME) : Prop := Mine H 0 y_string 1 m.hdr (strRow (nm m.f))
theorem zcEn : (zc P y_tree_entry).size = 4 := by kernel_rfl
theorem szEn : P.cellsOf y_tree_entry = 4 := by kernel_rfl
theorem varE {w : World} {H : Heap} (m : ME) (hw : w.heap = H) {K : Nat → World → Prop} (hK : ∀ w', w'.heap = H.push (.cells (encE m).toArray y_tree_entry (0, 0)) → K H.size w') :
  newB (zc P y_tree_entry) y_tree_entry w fun b w1 => genU P (storeVar y_tree_entry (⟨b, 0, none⟩ : Addr) (.agg (encE m).toArray)) w1 fun w2 => K b w2 :=
 var_g (v := .agg (encE m).toArray) szEn zcEn (by simp [Value.cells, encE]) (by simpa [Value.cells] using one_encE) hw hK
theorem Mine.keep {H H' : Heap} {B : Nat} {T : TypeId} {sz : Nat} {x : Option Addr × Nat × Nat} {vs : List Value} {M : List Nat} (h : Mine H B T sz x vs) (hx : Ext M H H') (hM : ∀ m ∈ M, ∀ c fr, H[m]? = some (.cells c T fr) → False) : Go.Fw.Mine H' B T sz x vs :=
 Go.Fw.Mine.ext h hx fun b hb hm => by
  rcases h with ⟨rfl, _⟩ | ⟨b1, c1, hx1, _, hg1, _⟩
  ·simp [ownM] at hb
  ·simp [ownM, hx1] at hb; subst hb
   exact hM _ hm _ _ hg1
def keyS (L : List UInt8) : Value := .string (strOf L)
theorem Kstr : KeyOk P y_string (List UInt8) (fun _ => True) keyS := KeyOk.str uStr
theorem uME : P.underlying y_M_string_S_tree_entry = some (.map y_string y_S_tree_entry) := by kernel_rfl
theorem zME (w : World) : (zeroValue y_S_tree_entry).run P w = .ok (.slice none 0 0) w := by kernel_rfl
abbrev KM := ML (List UInt8) ((Option Addr × Nat × Nat) × List ME)
def evK (v : (Option Addr × Nat × Nat) × List ME) : Value := slcV v.1
def KidsW (H : Heap) (mk : Nat) (S : List Fil) : Prop := ∃ (M : KM) (clk : Nat), H[mk]? = some (.map (ents keyS (vl evK M)) clk) ∧ MOk (fun _ => True) M clk ∧
 ∀ p, okP p → match mget M (showP p) with
  | none => kids S p = []
  | some v => v.2.map (·.f) = kids S p ∧ Mine H 0 y_tree_entry 4 v.1 (v.2.flatMap encE) ∧ ∀ m ∈ v.2, NamesW H m
theorem KidsW.keep {H H' : Heap} {mk : Nat} {S : List Fil} {M : List Nat} (h : KidsW H mk S) (hx : Ext M H H') (hM : ∀ m ∈ M, m < H.size → ∃ c T fr, H[m]? = some (.cells c T fr) ∧ T ≠ y_tree_entry ∧ T ≠ y_string) : KidsW H' mk S := by
 obtain ⟨K, clk, h1, h2, h3⟩ := h
 refine ⟨K, clk, hx.get h1 fun hm => ?_, h2, fun p hp => ?_⟩
 ·obtain ⟨c, T, fr, hc, _⟩ := hM _ hm (lt_of_get h1)
  rw [h1] at hc; cases hc
 ·have := h3 p hp
  cases hg : mget K (showP p) with
  | none => rw [hg] at this; exact this
  | some v =>
   rw [hg] at this
   obtain ⟨g1, g2, g3⟩ := this
   refine ⟨g1, Mine.keep g2 hx fun m hm c fr hc => ?_, fun m hm => Mine.keep (g3 m hm) hx fun m hm c fr hc => ?_⟩
   ·obtain ⟨c', T, fr', hc', n1, n2⟩ := hM m hm (lt_of_get hc)
    rw [hc] at hc'
    simp only [Option.some.injEq, Obj.cells.injEq] at hc'
    exact n1 hc'.2.1.symm
   ·obtain ⟨c', T, fr', hc', n1, n2⟩ := hM m hm (lt_of_get hc)
    rw [hc] at hc'
    simp only [Option.some.injEq, Obj.cells.injEq] at hc'
    exact n2 hc'.2.1.symm
theorem lookup_no {κ ν : Type} [DecidableEq κ] {kt et mt : TypeId} {ok : κ → Prop} {enc : κ → Value} {ev : ν → Value} {w : World} {H : Heap} {m c : Nat} {l : ML κ ν} (K : KeyOk P kt κ ok enc) (hu : P.underlying mt = some (.map kt et)) {z : Value} (hz : ∀ w, (zeroValue et).run P w = .ok z w) (hw : w.heap = H) (hm : H[m]? = some (.map (ents enc (vl ev l)) c)) (hl : MOk ok l c) {k : κ} (hk : ok k) :
  (Instr.lookup mt (.map (some m)) (enc k) false).run P w = .ok (((mget l k).map ev).getD z) w := by
 have hf := K.find w k (ents enc (vl ev l)).toList (vl ev l) hk hl.vl.fine (by simp [ents])
 have hg := findIdx_get (l := vl ev l) (k := k)
 generalize (((vl ev l).findIdx? (fun x => x.1 == k)).bind fun i => ((vl ev l)[i]?).map fun x => (i, x.2.1)) = r at hf hg
 simp only [Instr.lookup, Sem.run_bind, run_underlying' hu, Result.andThen_ok, get_h hw hm (by intros; simp), Sem.run_pure, K.chk w k _ hk, hf]
 rw [← mget_vl, ← hg]
 cases r with
 | none => simp [hz]
 | some x => simp
def dirFn (bk bd bb : Nat) : Value := .func (.func F_tree_Build_1) #[] #[.pointer (some ⟨bk, 0, none⟩), .pointer (some ⟨bd, 0, none⟩), .pointer (some ⟨bb, 0, none⟩)]
structure DirSt (H : Heap) (bk bd bb mk B : Nat) (S : List Fil) (x : Option Addr × Nat × Nat) (Ls : List (List UInt8)) : Prop where
 k : H[bk]? = some (.cells #[.map (some mk)] y_M_string_S_tree_entry (0, 0))
 d : H[bd]? = some (.cells #[dirFn bk bd bb] y_func_9d2e5c (0, 0))
 b : H[bb]? = some (.cells #[slcV x] y_S_S_uint8 (0, 0))
 kids : KidsW H mk S
 blobs : BlobsW H B x Ls
 rounds : Bl.Rounds H
 r0 : 0 ≠ bb
theorem DirSt.keep {H H' : Heap} {bk bd bb mk B : Nat} {S : List Fil} {x x' : Option Addr × Nat × Nat} {Ls Ls' : List (List UInt8)} {M : List Nat} (h : DirSt H bk bd bb mk B S x Ls) (hx : Ext M H H') (hB0 : 0 < B) (hM : ∀ m ∈ M, m < H.size → m ≠ 0 ∧ ∃ c T fr, H[m]? = some (.cells c T fr) ∧ (T = y_S_S_uint8 ∨ T = y_S_uint8 ∨ T = y_api_Item ∨ T = y_api_Node ∨ T = y_api_Digest))
  (hb : H'[bb]? = some (.cells #[slcV x'] y_S_S_uint8 (0, 0))) (hB : BlobsW H' B x' Ls') : DirSt H' bk bd bb mk B S x' Ls' := by
 have no : ∀ {b : Nat} {c : Array Value} {T : TypeId} {fr : Nat × Nat}, H[b]? = some (.cells c T fr) → T ≠ y_S_S_uint8 → T ≠ y_S_uint8 → T ≠ y_api_Item → T ≠ y_api_Node → T ≠ y_api_Digest → b ∉ M := by
  intro b c T fr hc n1 n2 n3 n4 n5 hm
  obtain ⟨_, c', T', fr', hc', ht⟩ := hM b hm (lt_of_get hc)
  rw [hc] at hc'
  simp only [Option.some.injEq, Obj.cells.injEq] at hc'
  rcases ht with h | h | h | h | h <;> rw [← hc'.2.1] at h
  ·exact n1 h
  ·exact n2 h
  ·exact n3 h
  ·exact n4 h
  ·exact n5 h
 refine ⟨hx.get h.k (no h.k (by decide) (by decide) (by decide) (by decide) (by decide)), hx.get h.d (no h.d (by decide) (by decide) (by decide) (by decide) (by decide)), hb, h.kids.keep hx fun m hm hlt => ?_, hB, h.rounds.ext hx fun h0 => ?_, h.r0⟩
 ·obtain ⟨_, c, T, fr, hc, ht⟩ := hM m hm hlt
  refine ⟨c, T, fr, hc, ?_, ?_⟩ <;> rcases ht with rfl | rfl | rfl | rfl | rfl <;> decide
 ·have hlt : 0 < H.size := by have := lt_of_get h.k; omega
  exact (hM 0 h0 hlt).1 rfl
theorem acc_take {rec : Path → List (List UInt8) × List UInt8} {K : List Fil} {i : Nat} : (kidsAcc rec (K.take i)).1.length ≤ (kidsAcc rec K).1.length := by
 have h := List.take_append_drop i K
 rw [acc_blobs, acc_blobs]
 conv => rhs; rw [← h]
 rw [List.map_append, List.flatten_append, List.length_append]
 omega
set_option maxHeartbeats 64000000 in
theorem dir_c (S : List Fil) (hd : ∀ f ∈ S, f.data.length ≤ 1024) (hSR : RiseF S) (h64 : ∀ p, (kids S p).length ≤ 64) : ∀ (n : Nat) {w : World} {H : Heap} {bk bd bb mk B : Nat} {x : Option Addr × Nat × Nat} {Ls : List (List UInt8)} {p : Path}, w.heap = H → DirSt H bk bd bb mk B S x Ls → 0 < B → B ≤ H.size →
  okP p → p.length + n = 9 → Ls.length + (dirB S n p).1.length ≤ 500000000 →
  CallF P F_tree_Build_1 #[.string (strOf (showP p)), .pointer (some ⟨bk, 0, none⟩), .pointer (some ⟨bd, 0, none⟩), .pointer (some ⟨bb, 0, none⟩)] w fun e w' => ∃ x', e = .returned (arr (dirB S n p).2) ∧ DirSt w'.heap bk bd bb mk B S x' (Ls ++ (dirB S n p).1) ∧ Ext (bb :: ownM x) H w'.heap ∧ ∀ c ∈ ownM x', c ∈ ownM x ∨ H.size ≤ c := by
 intro n
 induction n with
 | zero =>
  intro w H bk bd bb mk B x Ls p _ _ _ _ hp hn _
  have := hp.2
  omega
 | succ n ih =>
 intro w H bk bd bb mk B x Ls p hw hS hB0 hBs hp hn hlen
 obtain ⟨K, clk, g1, g2, g3⟩ := hS.kids
 have g3 := g3 p hp
 have hxlt := hS.blobs.lt
 have hbl := lt_of_get hS.b
 refine fn_tree_Build_1 ?_
 unfold T_tree_Build_1
 refine newB_h hw fun w1 hw1 => ?_
 have hx1 : Ext [] H w1.heap := by rw [hw1]; exact .push _
 have hd1 : w1.heap[H.size]? = some (.cells (zc P y_api_Digest) y_api_Digest (0, 0)) := by rw [hw1]; exact push_new
 refine genQ_of (s := .any) (.agg (nodC (dirNod []) (none, 0, 0) (none, 0, 0)).toArray) (bN3 _) ?_
 refine varN (dirNod []) _ _ rfl fun w3 hw3 => ?_
 have hx3 : Ext [] w1.heap w3.heap := by rw [hw3]; exact .push _
 have hn3 : w3.heap[w1.heap.size]? = some (.cells (nodC (dirNod []) (none, 0, 0) (none, 0, 0)).toArray y_api_Node (0, 0)) := by rw [hw3]; exact push_new
 have hx03 := hx1.trans hx3
 have s1 : H.size < w1.heap.size := lt_of_get hd1
 have s3 : w1.heap.size < w3.heap.size := lt_of_get hn3
 have hd3 := hx3.get hd1 (by simp)
 simp only [withAddr_some]
 refine ld_h (s := .map) (t := some mk) rfl (hx03.get hS.k (by simp)) rfl ?_
 obtain ⟨r, hr1, hr2, hr3, hr4⟩ : ∃ r : (Option Addr × Nat × Nat) × List ME, ((mget K (showP p)).map evK).getD (.slice none 0 0) = slcV r.1 ∧ r.2.map (·.f) = kids S p ∧ Mine H 0 y_tree_entry 4 r.1 (r.2.flatMap encE) ∧ ∀ m ∈ r.2, NamesW H m := by
  cases hg : mget K (showP p) with
  | none => rw [hg] at g3; exact ⟨((none, 0, 0), []), rfl, g3.symm, .inl ⟨rfl, rfl⟩, by simp⟩
  | some v => rw [hg] at g3; exact ⟨v, rfl, g3⟩
 have hlk := lookup_no (w := w3) (l := K) Kstr uME zME rfl (hx03.get g1 (by simp)) g2 (k := showP p) trivial
 rw [hr1] at hlk
 refine genQ_of (s := .slc) r.1 hlk ?_
 have hrl : r.1.2.1 = r.2.length := by have := hr3.len; rw [length_flatMap_k encE len_encE] at this; omega
 have hkl : r.2.length = (kids S p).length := by rw [← hr2]; simp
 have hk64 := h64 p
 have hkm : ∀ f ∈ kids S p, nm f ≠ [] ∧ (nm f).dropLast = p := fun f hf => (kids_mem hf).2
 have htot : Ls.length + (kidsAcc (dirB S n) (kids S p)).1.length + 1 ≤ 500000000 := by
  have := hlen
  simp only [dirB, List.length_append, List.length_singleton] at this
  omega
 have hS3 : DirSt w3.heap bk bd bb mk B S x Ls := hS.keep hx03 hB0 (by simp) (hx03.get hS.b (by simp)) (hS.blobs.ext hx03 (by simp))
 refine loopP_of (fun (s : Int) W => ∃ (i : Nat) (x' xi : Option Addr × Nat × Nat), s = (i : Int) ∧ i ≤ r.2.length ∧ Ext (bb :: ownM x) H W.heap ∧ w3.heap.size ≤ W.heap.size ∧ W.heap[w1.heap.size]? = some (.cells (nodC (dirNod (kidsAcc (dirB S n) ((kids S p).take i)).2) (none, 0, 0) xi).toArray y_api_Node (0, 0)) ∧
   W.heap[H.size]? = some (.cells (zc P y_api_Digest) y_api_Digest (0, 0)) ∧ DirSt W.heap bk bd bb mk B S x' (Ls ++ (kidsAcc (dirB S n) ((kids S p).take i)).1) ∧ (∀ c ∈ ownM x', c ∈ ownM x ∨ w3.heap.size ≤ c) ∧ Mine W.heap w3.heap.size y_api_Item 34 xi ((kidsAcc (dirB S n) ((kids S p).take i)).2.flatMap encT)) (fun s _ => (r.2.length - s).toNat)
  ⟨0, x, (none, 0, 0), rfl, Nat.zero_le _, hx03.mono (by simp), Nat.le_refl _, by simpa [kidsAcc] using hn3, hd3, by simpa [kidsAcc] using hS3, fun c hc => .inl hc, .inl ⟨rfl, by simp [kidsAcc]⟩⟩ ?_
 rintro _ W ⟨i, x', xi, rfl, hi, h1, h1s, h3, h3d, h4, h5, h6⟩
 have hH2 := h1.1
 have x'lt := h4.blobs.lt
 have hbbW := lt_of_get h4.b
 have hHx' : ∀ {m : Nat}, H.size ≤ m → m < w3.heap.size → m ∉ ownM x' := fun h h' hm => by
  rcases h5 _ hm with h2 | h2
  ·have := (hxlt _ h2).1; omega
  ·omega
 have hold : ∀ {T : TypeId} {sz : Nat} {y : Option Addr × Nat × Nat} {vs : List Value}, Mine H 0 T sz y vs → T ≠ y_S_S_uint8 → T ≠ y_S_uint8 → Mine W.heap 0 T sz y vs := by
  intro T sz y vs hm n1 n2
  refine Mine.keep hm h1 fun m hmm c fr hc => ?_
  rcases List.mem_cons.1 hmm with rfl | hmm
  ·rw [hS.b] at hc
   simp only [Option.some.injEq, Obj.cells.injEq] at hc
   exact n1 hc.2.1.symm
  ·obtain ⟨ys, q1, _⟩ := hS.blobs
   rcases q1 with ⟨h, _⟩ | ⟨b', c2, hx1', _, hg, _⟩
   ·rw [h] at hmm; simp [ownM] at hmm
   ·simp [ownM, hx1'] at hmm; subst hmm
    rw [hc] at hg
    simp only [Option.some.injEq, Obj.cells.injEq] at hg
    exact n2 hg.2.1
 refine iteP_dec (fun hlt => ?_) (fun hge => ?_)
 ·have hil : i < r.2.length := by omega
  have hget := List.getElem?_eq_getElem hil
  have hmem : r.2[i] ∈ r.2 := List.getElem_mem hil
  have hfK : (kids S p)[i]? = some (r.2[i]).f := by rw [← hr2, List.getElem?_map, hget]; rfl
  generalize r.2[i] = me at hget hmem hfK
  have hfS : me.f ∈ kids S p := by rw [← hr2]; exact List.mem_map.2 ⟨me, hmem, rfl⟩
  have hdf := hd me.f (kids_mem hfS).1
  obtain ⟨hk1, hk2⟩ := hkm me.f hfS
  have hkl2 : (nm me.f).length = p.length + 1 := by
   have := congrArg List.length (nm_last hk1)
   rw [hk2] at this; simpa using this
  have h8 := (nm_ok me.f).2
  have hsmall := (nm_ok me.f).small
  obtain ⟨m, rfl⟩ : ∃ m, n = m + 1 := ⟨n - 1, by omega⟩
  have htk : (kids S p).take (i + 1) = (kids S p).take i ++ [me.f] := by rw [List.take_add_one, hfK]; rfl
  have hstep : (kidsAcc (dirB S (m + 1)) ((kids S p).take (i + 1))) = kidStep (dirB S (m + 1)) (kidsAcc (dirB S (m + 1)) ((kids S p).take i)) me.f := by rw [htk, kidsAcc_snoc]
  have hpre := acc_take (rec := dirB S (m + 1)) (K := kids S p) (i := i)
  have hpre' := acc_take (rec := dirB S (m + 1)) (K := kids S p) (i := i + 1)
  refine joinP_of (fun _ W' => ∃ (x2 xi2 : Option Addr × Nat × Nat), Ext (bb :: ownM x) H W'.heap ∧ w3.heap.size ≤ W'.heap.size ∧ W'.heap[w1.heap.size]? = some (.cells (nodC (dirNod (kidsAcc (dirB S (m + 1)) ((kids S p).take (i + 1))).2) (none, 0, 0) xi2).toArray y_api_Node (0, 0)) ∧
   W'.heap[H.size]? = some (.cells (zc P y_api_Digest) y_api_Digest (0, 0)) ∧ DirSt W'.heap bk bd bb mk B S x2 (Ls ++ (kidsAcc (dirB S (m + 1)) ((kids S p).take (i + 1))).1) ∧ (∀ c ∈ ownM x2, c ∈ ownM x ∨ w3.heap.size ≤ c) ∧ Mine W'.heap w3.heap.size y_api_Item 34 xi2 ((kidsAcc (dirB S (m + 1)) ((kids S p).take (i + 1))).2.flatMap encT)) ?_ ?_
  rotate_left
  ·rintro _ W' ⟨x2, xi2, g⟩
   refine addI_to ((i + 1 : Nat) : Int) (by omega) (by omega) (by omega) ?_
   exact ⟨⟨i + 1, x2, xi2, rfl, by omega, g⟩, by omega⟩
  refine joinP_in ?_
  refine elem_ld (i := i) len_encE (by omega) rfl (hold hr3 (by decide) (by decide)).cells hrl hget rfl ?_
  refine varE me rfl fun w6 hw6 => ?_
  have hx6 : Ext [] W.heap w6.heap := by rw [hw6]; exact .push _
  have he6 : w6.heap[W.heap.size]? = some (.cells (encE me).toArray y_tree_entry (0, 0)) := by rw [hw6]; exact push_new
  have hnm := (hold (hr4 me hmem) (by decide) (by decide)).ext hx6 (by simp)
  have hnl : me.hdr.2.1 = (nm me.f).length := by have := hnm.len; simp at this; omega
  refine ld_h (s := .slc) (t := me.hdr) rfl he6 rfl ?_
  refine ld_h (s := .slc) (t := me.hdr) rfl he6 rfl ?_
  refine subI_to ((me.hdr.2.1 - 1 : Nat) : Int) (by omega) (by omega) (by omega) ?_
  refine strIx (xs := nm me.f) (i := (nm me.f).length - 1) rfl hnm.cells hnl (by omega) (by omega) ?_
  rw [last_at hk1]
  refine genQ_of (s := .any) (.agg (encT ⟨lastN (nm me.f), 2, List.replicate 32 0⟩).toArray) (by rw [encT, Bl.enc32_eq (by simp)]; exact bT2 _ _) ?_
  refine varT ⟨lastN (nm me.f), 2, List.replicate 32 0⟩ rfl fun w8 hw8 => ?_
  have hx8 : Ext [] w6.heap w8.heap := by rw [hw8]; exact .push _
  have hb8 : w8.heap[w6.heap.size]? = some (.cells (encT ⟨lastN (nm me.f), 2, List.replicate 32 0⟩).toArray y_api_Item (0, 0)) := by rw [hw8]; exact push_new
  have s6 : W.heap.size < w6.heap.size := lt_of_get he6
  have s8 : w6.heap.size < w8.heap.size := lt_of_get hb8
  have hx08 := hx6.trans hx8
  have he8 := hx8.get he6 (by simp)
  have hS8 : DirSt w8.heap bk bd bb mk B S x' (Ls ++ (kidsAcc (dirB S (m + 1)) ((kids S p).take i)).1) := h4.keep hx08 hB0 (by simp) (hx08.get h4.b (by simp)) (h4.blobs.ext hx08 (by simp))
  have hnm8 := hnm.ext hx8 (by simp)
  refine joinP_of (fun _ W' => ∃ x2 : Option Addr × Nat × Nat, W'.heap[w6.heap.size]? = some (.cells (encT (itmOf (dirB S (m + 1)) me.f)).toArray y_api_Item (0, 0)) ∧ DirSt W'.heap bk bd bb mk B S x2 (Ls ++ (kidsAcc (dirB S (m + 1)) ((kids S p).take (i + 1))).1) ∧
   Ext (w6.heap.size :: bb :: ownM x') w8.heap W'.heap ∧ (∀ c ∈ ownM x2, c ∈ ownM x' ∨ w8.heap.size ≤ c)) ?_ ?_
  ·refine ld_h (s := .bool) (t := me.f.dir) rfl he8 rfl ?_
   cases hfd : me.f.dir with
   | true =>
    refine iteP_t rfl ?_
    refine drewP_h rfl fun w9 hw9 => ?_
    have hx9 : Ext [] w8.heap w9.heap := by rw [hw9]; exact .refl _ _
    have hS9 : DirSt w9.heap bk bd bb mk B S x' (Ls ++ (kidsAcc (dirB S (m + 1)) ((kids S p).take i)).1) := by rw [hw9]; exact hS8
    refine ld_h (s := .any) (t := dirFn bk bd bb) rfl hS9.d rfl ?_
    refine ld_h (s := .slc) (t := me.hdr) rfl (hx9.get he8 (by simp)) rfl ?_
    refine callF_of (show_c rfl (hnm8.ext hx9 (by simp)).cells hnl (mine_cap hnm) (by omega)) ?_
    rintro e w10 ⟨rfl, hx10⟩
    refine ⟨strOf (showP (nm me.f)), rfl, ?_⟩
    have hx8_10 := hx9.trans hx10
    have hS10 : DirSt w10.heap bk bd bb mk B S x' (Ls ++ (kidsAcc (dirB S (m + 1)) ((kids S p).take i)).1) := hS8.keep hx8_10 hB0 (by simp) (hx8_10.get hS8.b (by simp)) (hS8.blobs.ext hx8_10 (by simp))
    refine ⟨ld_h (s := .any) (t := dirFn bk bd bb) rfl hS10.d rfl rfl, ?_⟩
    have s10 := hx8_10.1
    have hlen2 : (Ls ++ (kidsAcc (dirB S (m + 1)) ((kids S p).take i)).1).length + (dirB S (m + 1) (nm me.f)).1.length ≤ 500000000 := by
     have h := hpre'
     rw [hstep] at h
     simp only [kidStep, hfd, if_true, List.length_append] at h
     simp only [List.length_append]
     omega
    refine callV_func (args := #[.string (strOf (showP (nm me.f)))]) ?_
    refine (ih (w := w10) (p := nm me.f) rfl hS10 hB0 (by omega) (nm_ok me.f) (by omega) hlen2).mono ?_
    rintro e w11 ⟨x2, rfl, hS11, hx11, hs11⟩
    refine ⟨arr (dirB S (m + 1) (nm me.f)).2, rfl, ?_⟩
    have hbN : w6.heap.size ∉ bb :: ownM x' := fun h => by
     rcases List.mem_cons.1 h with h | h
     ·omega
     ·have := (x'lt _ h).1; omega
    have hb11 := hx11.get (hx8_10.get hb8 (by simp)) hbN
    refine stC_h rfl hb11 (by simp [len_encT]) fun w12 hw12 => ?_
    have hx12 : Ext [w6.heap.size] w11.heap w12.heap := by rw [hw12]; exact Ext.set _ (by simp)
    have hb12 : w12.heap[w6.heap.size]? = some (.cells (encT ⟨lastN (nm me.f), 3, List.replicate 32 0⟩).toArray y_api_Item (0, 0)) := by rw [hw12, ← set_kind]; exact set_new hb11
    refine stD dirB_32 rfl hb12 (by simp [len_encT]) fun w13 hw13 => ?_
    rw [set_sum dirB_32] at hw13
    have hx13 : Ext [w6.heap.size] w12.heap w13.heap := by rw [hw13]; exact Ext.set _ (by simp)
    have hit : itmOf (dirB S (m + 1)) me.f = ⟨lastN (nm me.f), 3, (dirB S (m + 1) (nm me.f)).2⟩ := by unfold itmOf; rw [hfd]; rfl
    have hx1113 := hx12.trans hx13
    have hwne : w6.heap.size ≠ bb := by omega
    refine ⟨x2, by rw [hw13, hit]; exact set_new hb12, ?_, ?_, fun c hc => ?_⟩
    ·have hacc : Ls ++ (kidsAcc (dirB S (m + 1)) ((kids S p).take (i + 1))).1 = Ls ++ (kidsAcc (dirB S (m + 1)) ((kids S p).take i)).1 ++ (dirB S (m + 1) (nm me.f)).1 := by
      rw [hstep]
      simp only [kidStep, hfd, if_true, List.append_assoc]
     rw [hacc]
     have tag : ∀ m' ∈ [w6.heap.size], m' < w11.heap.size → m' ≠ 0 ∧ ∃ c T fr, w11.heap[m']? = some (.cells c T fr) ∧ (T = y_S_S_uint8 ∨ T = y_S_uint8 ∨ T = y_api_Item ∨ T = y_api_Node ∨ T = y_api_Digest) := by
      intro m' hm _
      simp at hm; subst hm
      exact ⟨by omega, _, _, _, hb11, .inr (.inr (.inl rfl))⟩
     refine hS11.keep hx1113 hB0 tag (hx1113.get hS11.b (by simp; omega)) (hS11.blobs.keep hx1113 fun m' hm c T fr hc => ?_)
     simp at hm; subst hm
     rw [hb11] at hc
     simp only [Option.some.injEq, Obj.cells.injEq] at hc
     rw [← hc.2.1]; exact ⟨by decide, by decide⟩
    ·exact (hx8_10.mono (by simp)).trans ((hx11.mono fun c hc => by simp at hc ⊢; right; exact hc).trans (hx1113.mono (by simp)))
    ·rcases hs11 c hc with h | h
     ·exact .inl h
     ·right; omega
   | false =>
    refine iteP_f rfl ?_
    refine ld_h (s := .slc) (t := x') rfl hS8.b rfl ?_
    refine ld_h (s := .str) (t := strOf me.f.data) rfl he8 rfl ?_
    refine callF_of (file_c rfl hS8.blobs hB0 (by omega) hS8.rounds (by simp only [List.length_append]; omega) hdf) ?_
    rintro e w14 ⟨x2, rfl, hB14, hx14, hs14⟩
    refine ⟨(x2, arr (fileSum me.f.data)), rfl, ?_⟩
    have hbx' : bb ∉ ownM x' := by
     obtain ⟨ys, q1, _⟩ := hS8.blobs
     intro h
     rcases q1 with ⟨h', _⟩ | ⟨b', c2, hx1', _, hg, _⟩
     ·rw [h'] at h; simp [ownM] at h
     ·simp [ownM, hx1'] at h; subst h
      rw [hS8.b] at hg
      simp only [Option.some.injEq, Obj.cells.injEq] at hg
      exact absurd hg.2.1 (by decide)
    have hbb14 := hx14.get hS8.b hbx'
    refine stC_h rfl hbb14 (by simp) fun w15 hw15 => ?_
    have hx15 : Ext [bb] w14.heap w15.heap := by rw [hw15]; exact Ext.set _ (by simp)
    have hbb15 : w15.heap[bb]? = some (.cells #[slcV x2] y_S_S_uint8 (0, 0)) := by rw [hw15]; exact set_new hbb14
    have hwne : w6.heap.size ≠ bb := by omega
    have hb15 := hx15.get (hx14.get hb8 (fun h => by have := (x'lt _ h).1; omega)) (by simp; omega)
    have hfs : (fileSum me.f.data).length = 32 := len_sum
    refine stD hfs rfl hb15 (by simp [len_encT]) fun w16 hw16 => ?_
    rw [set_sum hfs] at hw16
    have hx16 : Ext [w6.heap.size] w15.heap w16.heap := by rw [hw16]; exact Ext.set _ (by simp)
    have hit : itmOf (dirB S (m + 1)) me.f = ⟨lastN (nm me.f), 2, fileSum me.f.data⟩ := by unfold itmOf; rw [hfd]; rfl
    have hxAll : Ext (w6.heap.size :: bb :: ownM x') w8.heap w16.heap := (hx14.mono fun c hc => by simp [hc]).trans ((hx15.mono (by simp)).trans (hx16.mono (by simp)))
    refine ⟨x2, by rw [hw16, hit]; exact set_new hb15, ?_, hxAll, fun c hc => ?_⟩
    ·have hacc : Ls ++ (kidsAcc (dirB S (m + 1)) ((kids S p).take (i + 1))).1 = Ls ++ (kidsAcc (dirB S (m + 1)) ((kids S p).take i)).1 ++ fileBlobs me.f.data := by
      rw [hstep]
      simp only [kidStep, hfd, Bool.false_eq_true, if_false, List.append_assoc]
     rw [hacc]
     refine hS8.keep hxAll hB0 (fun m' hm hlt => ?_) (hx16.get hbb15 (by simp; omega)) ?_
     ·rcases List.mem_cons.1 hm with rfl | hm
      ·exact ⟨by omega, _, _, _, hb8, .inr (.inr (.inl rfl))⟩
      ·rcases List.mem_cons.1 hm with rfl | hm
       ·exact ⟨fun h => hS8.r0 h.symm, _, _, _, hS8.b, .inl rfl⟩
       ·refine ⟨fun h => by have := hS8.blobs.ge _ hm; omega, ?_⟩
        obtain ⟨ys, q1, _⟩ := hS8.blobs
        rcases q1 with ⟨h', _⟩ | ⟨b', c2, hx1', _, hg, _⟩
        ·rw [h'] at hm; simp [ownM] at hm
        ·simp [ownM, hx1'] at hm; subst hm
         exact ⟨_, _, _, hg, .inr (.inl rfl)⟩
     ·refine (hB14.keep hx15 fun m' hm c T fr hc => ?_).keep hx16 fun m' hm c T fr hc => ?_
      ·simp at hm; subst hm
       rw [hbb14] at hc
       simp only [Option.some.injEq, Obj.cells.injEq] at hc
       rw [← hc.2.1]; exact ⟨by decide, by decide⟩
      ·simp at hm; subst hm
       rw [hb15] at hc
       simp only [Option.some.injEq, Obj.cells.injEq] at hc
       rw [← hc.2.1]; exact ⟨by decide, by decide⟩
    ·rcases hs14 c hc with h | h
     ·exact .inl h
     ·right; omega
  rintro _ W17 ⟨x2, hb17, hS17, hx17, hs17⟩
  have hni : ∀ {k : Nat}, H.size ≤ k → k < w3.heap.size → k ∉ w6.heap.size :: bb :: ownM x' := fun hk hk' h => by
   rcases List.mem_cons.1 h with h | h
   ·omega
   ·rcases List.mem_cons.1 h with h | h
    ·omega
    ·exact hHx' hk hk' h
  have hn17 := hx17.get (hx08.get h3 (by simp)) (hni (by omega) (by omega))
  refine ld_h (s := .slc) (t := xi) rfl hn17 rfl ?_
  refine ldA_all rfl hb17 (by simp [len_encT]) ?_
  have hm17 : Mine W17.heap w3.heap.size y_api_Item 34 xi ((kidsAcc (dirB S (m + 1)) ((kids S p).take i)).2.flatMap encT) := (h6.ext hx08 (by simp)).ext hx17 (fun b hb h => by
   rcases List.mem_cons.1 h with h | h
   ·have := (mine_lt h6 b hb).1; omega
   ·rcases List.mem_cons.1 h with h | h
    ·have := ownM_ge h6 b hb; omega
    ·exact h4.blobs.row h6 (by decide) b hb h)
  have s17 := hx17.1
  refine app_itm (i := itmOf (dirB S (m + 1)) me.f) rfl hm17 (by omega) (by rw [acc_len]; simp; omega) fun xi2 w19 hm19 hx19 hs19 => ?_
  have hn19 := hx19.get hn17 (fun h => by have := ownM_ge h6 _ h; omega)
  refine stC_h rfl hn19 (by simp [nodC]) fun w20 hw20 => ?_
  have hx20 : Ext [w1.heap.size] w19.heap w20.heap := by rw [hw20]; exact Ext.set _ (by simp)
  have s19 := hx19.1
  have s20 := hx20.1
  have hacc2 : (kidsAcc (dirB S (m + 1)) ((kids S p).take (i + 1))).2 = (kidsAcc (dirB S (m + 1)) ((kids S p).take i)).2 ++ [itmOf (dirB S (m + 1)) me.f] := by
   rw [htk, acc_items, acc_items, List.map_append]; rfl
  have hx1720 : Ext (w1.heap.size :: ownM xi) W17.heap w20.heap := (hx19.mono fun c hc => by simp [hc]).trans (hx20.mono (by simp))
  have tag : ∀ m' ∈ w1.heap.size :: ownM xi, m' < W17.heap.size → m' ≠ 0 ∧ ∃ c T fr, W17.heap[m']? = some (.cells c T fr) ∧ (T = y_S_S_uint8 ∨ T = y_S_uint8 ∨ T = y_api_Item ∨ T = y_api_Node ∨ T = y_api_Digest) := by
   intro m' hm _
   rcases List.mem_cons.1 hm with rfl | hm
   ·exact ⟨by omega, _, _, _, hn17, .inr (.inr (.inr (.inl rfl)))⟩
   ·refine ⟨fun h => by have := ownM_ge h6 _ hm; omega, ?_⟩
    rcases hm17 with ⟨h', _⟩ | ⟨b', c2, hx1', _, hg, _⟩
    ·rw [h'] at hm; simp [ownM] at hm
    ·simp [ownM, hx1'] at hm; subst hm
     exact ⟨_, _, _, hg, .inr (.inr (.inl rfl))⟩
  have hbb20 := hx1720.get hS17.b (fun h => by
   rcases List.mem_cons.1 h with h | h
   ·omega
   ·have := ownM_ge h6 _ h; omega)
  refine ⟨x2, xi2, ?_, by omega, ?_, ?_, ?_, fun c hc => ?_, ?_⟩
  ·have a1 : Ext (bb :: ownM x) H w8.heap := h1.trans (hx08.mono (by simp))
   have a2 : Ext (bb :: ownM x) H W17.heap := a1.own hx17 (fun c hc hlt => by
    rcases List.mem_cons.1 hc with h | h
    ·omega
    ·rcases List.mem_cons.1 h with h | h
     ·simp [h]
     ·rcases h5 c h with h | h
      ·simp [h]
      ·omega)
   exact a2.own hx1720 (fun c hc hlt => by
    rcases List.mem_cons.1 hc with h | h
    ·omega
    ·have := ownM_ge h6 c h; omega)
  ·rw [hw20, hacc2]; exact set_new hn19
  ·exact hx1720.get (hx17.get (hx08.get h3d (by simp)) (hni (Nat.le_refl _) (by omega))) (fun h => by
    rcases List.mem_cons.1 h with h | h
    ·omega
    ·have := ownM_ge h6 _ h; omega)
  ·refine hS17.keep hx1720 hB0 tag hbb20 (hS17.blobs.keep hx1720 fun m' hm c T fr hc => ?_)
   obtain ⟨_, c', T', fr', hc', ht⟩ := tag m' hm (lt_of_get hc)
   rcases List.mem_cons.1 hm with rfl | hm
   ·rw [hn17] at hc
    simp only [Option.some.injEq, Obj.cells.injEq] at hc
    rw [← hc.2.1]; exact ⟨by decide, by decide⟩
   ·rcases hm17 with ⟨h', _⟩ | ⟨b', c2, hx1', _, hg, _⟩
    ·rw [h'] at hm; simp [ownM] at hm
    ·simp [ownM, hx1'] at hm; subst hm
     rw [hc] at hg
     simp only [Option.some.injEq, Obj.cells.injEq] at hg
     rw [hg.2.1]; exact ⟨by decide, by decide⟩
  ·rcases hs17 c hc with h | h
   ·exact h5 c h
   ·right; omega
  ·rw [hacc2]
   exact hm19.ext hx20 (fun b hb h => by simp at h; subst h; have := ownM_ge hm19 _ hb; omega)
 ·obtain rfl : i = r.2.length := by omega
  have htk : (kids S p).take r.2.length = kids S p := by rw [hkl, List.take_length]
  rw [htk] at h3 h4 h6
  have h32 := acc_32 (S := S) hn hkm
  have hsm := acc_small (rec := dirB S n) (fun f hf => (hkm f hf).1) (show (kids S p).length ≤ 65536 by omega)
  have hel := encD_len hsm h32
  have hright : rightN (dirNod (kidsAcc (dirB S n) (kids S p)).2) = true := by rw [acc_items]; exact dir_right hSR hk64
  refine newB_h rfl fun w23 hw23 => ?_
  have hx23 : Ext [] W.heap w23.heap := by rw [hw23]; exact .push _
  have hd23 : w23.heap[W.heap.size]? = some (.cells (zc P y_api_Digest) y_api_Digest (0, 0)) := by rw [hw23]; exact push_new
  have s23 : W.heap.size < w23.heap.size := lt_of_get hd23
  have hS23 : DirSt w23.heap bk bd bb mk B S x' (Ls ++ (kidsAcc (dirB S n) (kids S p)).1) := h4.keep hx23 hB0 (by simp) (hx23.get h4.b (by simp)) (h4.blobs.ext hx23 (by simp))
  refine ld_h (s := .slc) (t := x') rfl hS23.b rfl ?_
  refine ldA_all rfl (hx23.get h3 (by simp)) rfl ?_
  have hli : xi.2.1 = (kidsAcc (dirB S n) (kids S p)).2.length := by
   have := h6.len
   rw [length_flatMap_k encT len_encT] at this
   omega
  have hNW : NodW w23.heap (dirNod (kidsAcc (dirB S n) (kids S p)).2) (none, 0, 0) xi := ⟨.inl rfl, rfl, (h6.ext hx23 (by simp)).cells, hli, by simp [dirNod], h32⟩
  refine callF_of (pack_c rfl hS23.blobs hB0 (by omega) hNW hright hS23.rounds (by simp only [List.length_append]; omega) (by omega)) ?_
  rintro e w24 ⟨x2, rfl, hB24, hx24, hs24⟩
  refine ⟨(x2, arr (dirB S (n + 1) p).2), rfl, ?_⟩
  have hbx' : bb ∉ ownM x' := by
   obtain ⟨ys, q1, _⟩ := h4.blobs
   intro h
   rcases q1 with ⟨h', _⟩ | ⟨b', c2, hx1', _, hg, _⟩
   ·rw [h'] at h; simp [ownM] at h
   ·simp [ownM, hx1'] at h; subst h
    rw [h4.b] at hg
    simp only [Option.some.injEq, Obj.cells.injEq] at hg
    exact absurd hg.2.1 (by decide)
  have hbb24 := hx24.get hS23.b hbx'
  refine stC_h rfl hbb24 (by simp) fun w25 hw25 => ?_
  have hx25 : Ext [bb] w24.heap w25.heap := by rw [hw25]; exact Ext.set _ (by simp)
  have hbb25 : w25.heap[bb]? = some (.cells #[slcV x2] y_S_S_uint8 (0, 0)) := by rw [hw25]; exact set_new hbb24
  have hd25 := hx25.get (hx24.get hd23 (fun h => by have := (x'lt _ h).1; omega)) (by simp; omega)
  refine stD0 dirB_32 rfl hd25 zcD fun w26 hw26 => ?_
  have hx26 : Ext [W.heap.size] w25.heap w26.heap := by rw [hw26]; exact Ext.set _ (by simp)
  have hd26 : w26.heap[W.heap.size]? = some (.cells (byteCells (dirB S (n + 1) p).2).toArray y_api_Digest (0, 0)) := by rw [hw26]; exact set_new hd25
  refine ldA_all rfl hd26 (by simp [dirB_32]) ?_
  have hr26 := hx26.get (hx25.get (hx24.get (hx23.get h3d (by simp)) (hHx' (Nat.le_refl _) (by omega))) (by simp; omega)) (by simp; omega)
  refine stD0 (k := (dirB S (n + 1) p).2) dirB_32 rfl hr26 zcD fun w27 hw27 => ?_
  have hx27 : Ext [H.size] w26.heap w27.heap := by rw [hw27]; exact Ext.set _ (by simp)
  have hr27 : w27.heap[H.size]? = some (.cells (byteCells (dirB S (n + 1) p).2).toArray y_api_Digest (0, 0)) := by rw [hw27]; exact set_new hr26
  refine ldA_all rfl hr27 (by simp [dirB_32]) ?_
  have hx2327 : Ext (W.heap.size :: H.size :: bb :: ownM x') w23.heap w27.heap := (hx24.mono fun c hc => by simp [hc]).trans ((hx25.mono (by simp)).trans ((hx26.mono (by simp)).trans (hx27.mono (by simp))))
  have hbb27 := hx27.get (hx26.get hbb25 (by simp; omega)) (by simp; omega)
  refine ⟨x2, rfl, ?_, ?_, fun c hc => ?_⟩
  ·refine hS23.keep hx2327 hB0 (fun m' hm hlt => ?_) hbb27 ?_
   ·simp only [List.mem_cons] at hm
    rcases hm with rfl | rfl | rfl | hm
    ·exact ⟨by omega, _, _, _, hd23, .inr (.inr (.inr (.inr rfl)))⟩
    ·exact ⟨by omega, _, _, _, hx23.get h3d (by simp), .inr (.inr (.inr (.inr rfl)))⟩
    ·exact ⟨fun h => h4.r0 h.symm, _, _, _, hS23.b, .inl rfl⟩
    ·refine ⟨fun h => by have := h4.blobs.ge _ hm; omega, ?_⟩
     obtain ⟨ys, q1, _⟩ := hS23.blobs
     rcases q1 with ⟨h', _⟩ | ⟨b', c2, hx1', _, hg, _⟩
     ·rw [h'] at hm; simp [ownM] at hm
     ·simp [ownM, hx1'] at hm; subst hm
      exact ⟨_, _, _, hg, .inr (.inl rfl)⟩
   ·have hB27 := ((hB24.keep hx25 fun m' hm c T fr hc => by
     simp at hm; subst hm
     rw [hbb24] at hc
     simp only [Option.some.injEq, Obj.cells.injEq] at hc
     rw [← hc.2.1]; exact ⟨by decide, by decide⟩).keep hx26 fun m' hm c T fr hc => by
     simp at hm; subst hm
     rw [hd25] at hc
     simp only [Option.some.injEq, Obj.cells.injEq] at hc
     rw [← hc.2.1]; exact ⟨by decide, by decide⟩).keep hx27 fun m' hm c T fr hc => by
     simp at hm; subst hm
     rw [hr26] at hc
     simp only [Option.some.injEq, Obj.cells.injEq] at hc
     rw [← hc.2.1]; exact ⟨by decide, by decide⟩
    rw [List.append_assoc] at hB27
    exact hB27
  ·have a1 : Ext (bb :: ownM x) H w23.heap := h1.trans (hx23.mono (by simp))
   exact a1.own hx2327 (fun c hc hlt => by
    simp only [List.mem_cons] at hc
    rcases hc with h | h | h | h
    ·omega
    ·omega
    ·simp [h]
    ·rcases h5 c h with h | h
     ·simp [h]
     ·omega)
  ·rcases hs24 c hc with h | h
   ·rcases h5 c h with h | h
    ·exact .inl h
    ·right; omega
   ·right; omega
end Go.Proofs.YtbmegmbnlajbbaaGreatDoor
namespace Go.Proofs.YtbmegmbnlajbbaaGreatDoor
open Go Go.Fw Go.Proofs Go.Sort
theorem zcF : (zc P y_api_File).size = 3 := by kernel_rfl
theorem szF : P.cellsOf y_api_File = 3 := by kernel_rfl
theorem varF {w : World} {H : Heap} (f : Fil) (hw : w.heap = H) {K : Nat → World → Prop} (hK : ∀ w', w'.heap = H.push (.cells (encF f).toArray y_api_File (0, 0)) → K H.size w') :
  newB (zc P y_api_File) y_api_File w fun b w1 => genU P (storeVar y_api_File (⟨b, 0, none⟩ : Addr) (.agg (encF f).toArray)) w1 fun w2 => K b w2 :=
 var_g (v := .agg (encF f).toArray) szF zcF (by simp [Value.cells, encF]) (by simpa [Value.cells] using one_encF) hw hK
def badF (f : Fil) : Bool := decide ((parseP f.path).2 ≠ 0)
def firstBad (L : List Fil) : Int := match L.find? badF with | some f => (parseP f.path).2 | none => 0
def argF (f : Fil) : Bool := f.dir && !decide (f.data = [])
def bigF (f : Fil) : Bool := decide (1024 < f.data.length)
def parseCode (L : List Fil) : Int := if firstBad L ≠ 0 then firstBad L else if L.any argF then 1 else if L.any bigF then 134 else 0
theorem firstBad_at {L : List Fil} {i : Nat} {f : Fil} (hi : L[i]? = some f) (hf : (parseP f.path).2 ≠ 0) (hb : ∀ g ∈ L.take i, (parseP g.path).2 = 0) : firstBad L = (parseP f.path).2 := by
 have hil := (List.getElem?_eq_some_iff.1 hi).1
 have e : L = L.take i ++ f :: L.drop (i + 1) := by
  conv => lhs; rw [← List.take_append_drop i L]
  rw [List.drop_eq_getElem_cons hil, (List.getElem?_eq_some_iff.1 hi).2]
 unfold firstBad
 rw [e, List.find?_append, List.find?_eq_none.2 (fun g hg => by simp [badF, hb g hg]), Option.none_or, List.find?_cons]
 have : badF f = true := by simp [badF, hf]
 rw [this]
theorem firstBad_none {L : List Fil} (hb : ∀ g ∈ L, (parseP g.path).2 = 0) : firstBad L = 0 := by
 unfold firstBad
 rw [List.find?_eq_none.2 (fun g hg => by simp [badF, hb g hg])]
theorem take_mem_snoc {L : List Fil} {i : Nat} {f : Fil} (hi : L[i]? = some f) {q : Fil → Prop} (h : ∀ g ∈ L.take i, q g) (hf : q f) : ∀ g ∈ L.take (i + 1), q g := by
 intro g hg
 rw [List.take_add_one, hi] at hg
 rcases List.mem_append.1 hg with hg | hg
 ·exact h g hg
 ·simp at hg; rw [hg]; exact hf
theorem index_c {w : World} {H : Heap} {a : Option Addr} {n nc F : Nat} {L : List Fil} {g : Fil → Bool} (hw : w.heap = H) (hL : Cells H a (L.flatMap encF)) (hn : n = L.length) (hm : L.length ≤ 1099511627776)
  (hg : ∀ (f : Fil) (w : World), CallF P F #[.agg (encF f).toArray] w fun e w' => e = .returned (.bool (g f)) ∧ Ext [] w.heap w'.heap) :
  CallF P F_slices_ContainsFunc_S_api_File_api_File #[.slice a n nc, .func (.func F) #[] #[]] w fun e w' => e = .returned (.bool (L.any g)) ∧ Ext [] H w'.heap := by
 subst hn
 refine fn_slices_ContainsFunc_S_api_File_api_File ?_
 unfold T_slices_ContainsFunc_S_api_File_api_File
 have h : CallF P F_slices_IndexFunc_S_api_File_api_File #[.slice a L.length nc, .func (.func F) #[] #[]] w fun e w' => ∃ k : Int, e = .returned (.int .i64 k) ∧ (0 ≤ k ↔ L.any g = true) ∧ Ext [] H w'.heap := by
  refine fn_slices_IndexFunc_S_api_File_api_File ?_
  unfold T_slices_IndexFunc_S_api_File_api_File
  refine loopP_of (fun (s : Int) W => ∃ i : Nat, s = (i : Int) ∧ i ≤ L.length ∧ (∀ f ∈ L.take i, g f = false) ∧ Ext [] H W.heap) (fun s _ => (L.length - s).toNat) ⟨0, rfl, Nat.zero_le _, by simp, by rw [hw]; exact .refl _ _⟩ ?_
  rintro _ W ⟨i, rfl, hi, hno, hxW⟩
  refine iteP_dec (fun hlt => ?_) (fun hge => ?_)
  ·have hil : i < L.length := by omega
   have hget := List.getElem?_eq_getElem hil
   have hmem : L[i] ∈ L := List.getElem_mem hil
   generalize L[i] = f at hget hmem
   refine elem_ld (i := i) len_encF (by omega) rfl (hL.ext hxW (by simp)) rfl hget rfl ?_
   refine callV_func (args := #[.agg (encF f).toArray]) (cap := #[]) ?_
   refine (hg f W).mono ?_
   rintro e w2 ⟨rfl, hx2⟩
   refine ⟨g f, rfl, ?_⟩
   cases hgf : g f with
   | true => exact iteP_t rfl ⟨_, rfl, ⟨fun _ => List.any_eq_true.2 ⟨f, hmem, hgf⟩, fun _ => by omega⟩, hxW.trans hx2⟩
   | false =>
    refine iteP_f rfl ?_
    refine addI_to ((i + 1 : Nat) : Int) (by omega) (by omega) (by omega) ?_
    exact ⟨⟨i + 1, rfl, by omega, take_mem_snoc (q := fun f => g f = false) hget hno hgf, hxW.trans hx2⟩, by omega⟩
  ·obtain rfl : i = L.length := by omega
   rw [List.take_length] at hno
   refine ⟨_, rfl, ⟨fun h => by omega, fun h => ?_⟩, hxW⟩
   obtain ⟨f, hf, hgf⟩ := List.any_eq_true.1 h
   rw [hno f hf] at hgf; cases hgf
 refine callF_of h ?_
 rintro e w1 ⟨k, rfl, hk, hx⟩
 refine ⟨k, rfl, ?_⟩
 refine ⟨?_, hx⟩
 congr 2
 rw [Bool.eq_iff_iff, ← hk]
 simp
theorem p1_c (f : Fil) (w : World) : CallF P F_tree_parse_1 #[.agg (encF f).toArray] w fun e w' => e = .returned (.bool (argF f)) ∧ Ext [] w.heap w'.heap := by
 refine fn_tree_parse_1 ?_
 unfold T_tree_parse_1
 refine newB_h rfl fun w1 hw1 => ?_
 have hx1 : Ext [] w.heap w1.heap := by rw [hw1]; exact .push _
 have hb1 : w1.heap[w.heap.size]? = some (.cells (encF f).toArray y_api_File (0, 0)) := by rw [hw1]; exact push_new
 refine ld_h (s := .bool) (t := f.dir) rfl hb1 rfl ?_
 cases hd : f.dir with
 | false => exact iteP_f rfl ⟨by simp [argF, hd], hx1⟩
 | true =>
  refine iteP_t rfl ?_
  refine ld_h (s := .str) (t := strOf f.data) rfl hb1 rfl ?_
  refine ⟨?_, hx1⟩
  congr 2
  rw [argF, hd, Bool.true_and]
  congr 1
  rw [Bool.eq_iff_iff, beqStr, decide_eq_true_eq]
theorem p2_c (f : Fil) (w : World) : CallF P F_tree_parse_2 #[.agg (encF f).toArray] w fun e w' => e = .returned (.bool (bigF f)) ∧ Ext [] w.heap w'.heap := by
 refine fn_tree_parse_2 ?_
 unfold T_tree_parse_2
 refine newB_h rfl fun w1 hw1 => ?_
 have hx1 : Ext [] w.heap w1.heap := by rw [hw1]; exact .push _
 have hb1 : w1.heap[w.heap.size]? = some (.cells (encF f).toArray y_api_File (0, 0)) := by rw [hw1]; exact push_new
 refine ld_h (s := .str) (t := strOf f.data) rfl hb1 rfl ?_
 refine ⟨?_, hx1⟩
 congr 2
 unfold bigF
 rw [Bool.eq_iff_iff]
 simp
 omega
theorem uSE : P.underlying y_S_tree_entry = some (.slice y_tree_entry) := by kernel_rfl
theorem EEn : Elem P y_tree_entry 4 64 := elem_of (z := .agg (encE ⟨(none, 0, 0), ⟨[], false, []⟩⟩).toArray) (by kernel_rfl) rfl
theorem bE (x : Option Addr × Nat × Nat) (p d : ByteArray) (b : Bool) (w : World) : (Instr.build y_tree_entry #[(0, .slice x.1 x.2.1 x.2.2), (1, .agg #[.string p, .bool b, .string d])]).run P w = .ok (.agg #[.slice x.1 x.2.1 x.2.2, .string p, .bool b, .string d]) w := by kernel_rfl
theorem app_ent {w : World} {H : Heap} {B : Nat} {x : Option Addr × Nat × Nat} {T : List ME} {i : ME} (hw : w.heap = H) (hm : Mine H B y_tree_entry 4 x (T.flatMap encE)) (hBs : B ≤ H.size) (hlen : T.length ≤ 1073741824) {K : (Option Addr × Nat × Nat) → World → Prop}
  (hK : ∀ x' w', Mine w'.heap B y_tree_entry 4 x' ((T ++ [i]).flatMap encE) → Ext (ownM x) H w'.heap → (∀ c ∈ ownM x', c ∈ ownM x ∨ H.size ≤ c) → x'.2.1 = T.length + 1 → K x' w') :
  genL P (Instr.buildSlice y_S_tree_entry 1 #[(0, .agg (encE i).toArray)]) .slc w fun (t27 : (Option Addr × Nat × Nat)) w_13 =>
  genL P (Builtin.append_ #[y_S_tree_entry, y_S_tree_entry] y_S_tree_entry #[(Value.slice x.1 x.2.1 x.2.2), (Value.slice t27.1 t27.2.1 t27.2.2)]) .slc w_13 K := by
 have hlx : x.2.1 = T.length := by
  have := hm.len
  rw [length_flatMap_k encE len_encE] at this
  omega
 refine genL_of (s := .slc) (some ⟨w.heap.size, 0, none⟩, 1, 1) _ (build1_g EEn uSE (v := .agg (encE i).toArray) (by simp [Value.cells, encE]) (by omega) (by omega)) ?_
 subst hw
 have hxp : Ext [] w.heap (w.heap.push (.cells (Value.agg (encE i).toArray).cells y_tree_entry)) := .push _
 refine append_g (bts := 64) (n := 1) (us := encE i) (H := w.heap.push (.cells (Value.agg (encE i).toArray).cells y_tree_entry)) EEn (by omega) uSE (slice_noint uSE) rfl (hm.ext hxp (by simp)) (by simp; omega)
  (Src.slc rfl (.inr ⟨w.heap.size, 0, _, _, _, rfl, push_new, by simp [agg_cells], by simp [agg_cells, List.take_of_length_le]⟩) (by rw [len_encE])) one_encE (by omega) ?_
 intro x' w4 hm4 hl4 hx4 hs4
 have hm4' : Mine w4.heap B y_tree_entry 4 x' ((T ++ [i]).flatMap encE) := by rw [List.flatMap_append, List.flatMap_singleton]; exact hm4
 refine hK x' w4 hm4' ((hxp.mono (by simp)).trans hx4) (fun c hc => ?_) ?_
 ·rcases hs4 c hc with h | h
  ·exact .inl h
  ·right; have := hxp.1; omega
 ·have := hm4'.len
  rw [length_flatMap_k encE len_encE] at this
  simp at this; omega
set_option maxHeartbeats 4000000 in
theorem tparse_c {w : World} {H : Heap} {a : Option Addr} {n nc : Nat} {L : List Fil} (hw : w.heap = H) (hL : Cells H a (L.flatMap encF)) (hn : n = L.length) (hm : L.length ≤ 65536) :
  CallF P F_tree_parse #[.slice a n nc] w fun e w' => ∃ x, e = .returned (.tuple #[slcV x, .int .i64 (parseCode L)]) ∧ Ext [] H w'.heap ∧ (parseCode L = 0 → ∃ ms : List ME, ms.map (·.f) = L ∧ Mine w'.heap H.size y_tree_entry 4 x (ms.flatMap encE) ∧ ∀ m ∈ ms, NamesW w'.heap m) := by
 subst hn
 refine fn_tree_parse ?_
 unfold T_tree_parse
 refine loopP_of (fun (s : (Option Addr × Nat × Nat) × Int) W => ∃ (i : Nat) (ms : List ME), s.2 = (i : Int) ∧ i ≤ L.length ∧ (∀ f ∈ L.take i, (parseP f.path).2 = 0) ∧ Ext [] H W.heap ∧ ms.map (·.f) = L.take i ∧ Mine W.heap H.size y_tree_entry 4 s.1 (ms.flatMap encE) ∧ ∀ m ∈ ms, NamesW W.heap m) (fun s _ => (L.length - s.2).toNat)
  ⟨0, [], rfl, Nat.zero_le _, by simp, by rw [hw]; exact .refl _ _, by simp, .inl ⟨rfl, rfl⟩, by simp⟩ ?_
 rintro ⟨x, _⟩ W ⟨i, ms, rfl, hi, hok, hxW, hms, hmW, hnW⟩
 have hml : ms.length = i := by have := congrArg List.length hms; simp at this; omega
 refine iteP_dec (fun hlt => ?_) (fun hge => ?_)
 ·have hil : i < L.length := by simp only at hlt; omega
  have hget := List.getElem?_eq_getElem hil
  generalize L[i] = f at hget
  refine elem_ld (i := i) len_encF (by omega) rfl (hL.ext hxW (by simp)) rfl hget rfl ?_
  refine varF f rfl fun w3 hw3 => ?_
  have hx3 : Ext [] W.heap w3.heap := by rw [hw3]; exact .push _
  have hb3 : w3.heap[W.heap.size]? = some (.cells (encF f).toArray y_api_File (0, 0)) := by rw [hw3]; exact push_new
  refine ld_h (s := .str) (t := strOf f.path) rfl hb3 rfl ?_
  refine callF_of (parse_c f.path rfl) ?_
  rintro e w4 ⟨y, rfl, hm4, hx4⟩
  refine ⟨(y, (parseP f.path).2), rfl, ?_⟩
  have hx04 := hx3.trans hx4
  refine iteP_ne (fun hne => ?_) (fun hz => ?_)
  ·have hfb := firstBad_at hget hne hok
   have hpc : parseCode L = (parseP f.path).2 := by unfold parseCode; rw [hfb, if_pos hne]
   exact ⟨(none, 0, 0), by rw [hpc]; rfl, hxW.trans hx04, fun h => absurd (by rw [← hpc, h]) hne⟩
  ·have hz : (parseP f.path).2 = 0 := hz
   refine ldA_all rfl (hx4.get hb3 (by simp)) rfl ?_
   refine genQ_of (s := .any) (.agg (encE ⟨y, f⟩).toArray) (bE _ _ _ _ _) ?_
   have s04 := hx04.1
   have s0W := hxW.1
   refine app_ent (i := ⟨y, f⟩) rfl (hmW.ext hx04 (by simp)) (by omega) (by omega) fun x' w6 hm6 hx6 hs6 _ => ?_
   have hx06 : Ext [] H w6.heap := own_new (hxW.trans hx04) (hmW.ext hx04 (by simp)) (Nat.le_refl _) hx6
   refine addI_to ((i + 1 : Nat) : Int) (by simp) (by omega) (by omega) ?_
   refine ⟨⟨i + 1, ms ++ [⟨y, f⟩], rfl, by omega, take_mem_snoc (q := fun f => (parseP f.path).2 = 0) hget hok hz, hx06, ?_, hm6, fun m hm => ?_⟩, by simp only; omega⟩
   ·rw [List.map_append, hms, List.take_add_one, hget]; rfl
   ·have hxx := hmW.ext hx04 (by simp)
    rcases List.mem_append.1 hm with hm | hm
    ·exact ((hnW m hm).ext hx04 (by simp)).ext hx6 (mine_ne ((hnW m hm).ext hx04 (by simp)) hxx (by decide))
    ·simp only [List.mem_singleton] at hm
     subst hm
     exact (hm4.ext hx6 (mine_ne hm4 hxx (by decide))).mono (Nat.zero_le _)
 ·obtain rfl : i = L.length := by simp only at hge; omega
  rw [List.take_length] at hok hms
  have hfb := firstBad_none hok
  refine callF_of (index_c (g := argF) rfl (hL.ext hxW (by simp)) rfl (by omega) p1_c) ?_
  rintro e w7 ⟨rfl, hx7⟩
  refine ⟨L.any argF, rfl, ?_⟩
  cases h1 : L.any argF with
  | true =>
   have hpc : parseCode L = 1 := by unfold parseCode; rw [hfb, h1]; rfl
   exact iteP_t rfl ⟨(none, 0, 0), by rw [hpc]; rfl, hxW.trans hx7, fun h => by rw [hpc] at h; cases h⟩
  | false =>
   refine iteP_f rfl ?_
   refine callF_of (index_c (g := bigF) rfl (hL.ext (hxW.trans hx7) (by simp)) rfl (by omega) p2_c) ?_
   rintro e w8 ⟨rfl, hx8⟩
   refine ⟨L.any bigF, rfl, ?_⟩
   cases h2 : L.any bigF with
   | true =>
    have hpc : parseCode L = 134 := by unfold parseCode; rw [hfb, h1, h2]; rfl
    exact iteP_t rfl ⟨(none, 0, 0), by rw [hpc]; rfl, (hxW.trans hx7).trans hx8, fun h => by rw [hpc] at h; cases h⟩
   | false =>
    have hpc : parseCode L = 0 := by unfold parseCode; rw [hfb, h1, h2]; rfl
    have hx78 := hx7.trans hx8
    exact iteP_f rfl ⟨x, by rw [hpc]; rfl, hxW.trans hx78, fun _ => ⟨ms, hms, hmW.ext hx78 (by simp), fun m hm => (hnW m hm).ext hx78 (by simp)⟩⟩
end Go.Proofs.YtbmegmbnlajbbaaGreatDoor
namespace Go.Fw
open Go Go.Proofs Go.Shelf Go.RowKit Go.Lib Go.Sort
variable {P : Program} {ρ : Ren} {α : Type} [Inhabited α]
theorem sort_h2 (L : SlLaysF0.n6 P ρ) {k : Nat} (aE : ∀ w, (isAgg (ρ.t 24)).run P w = .ok true w) (zE : ∀ w, (Go.sizeOf (ρ.t 24)).run P w = .ok k w) (enc : α → List Value) (hk : ∀ x, (enc x).length = k) (h0 : 0 < k)
  (h1 : ∀ x, ∀ v ∈ enc x, v.oneCell' = true) (cf : α → α → Int) (hO : SWO (ltOf cf)) {g : Nat} (eg : ∀ args w, (callFunc g args).run P w = .ok (.enter g args) w) (e6 : ∀ args w, (callFunc (ρ.f 6) args).run P w = .ok (.enter (ρ.f 6) args) w)
  {w : World} {H : Heap} (hw : w.heap = H) {B : Nat} {T : TypeId} {x : Option Addr × Nat × Nat} {xs : List α}
  (hcmp : ∀ (W : World) y z, Ext (ownM x) H W.heap → CallF P g #[.agg (enc y).toArray, .agg (enc z).toArray] W fun e W' => e = .returned (.int .i64 (cf y z)) ∧ Ext [] W.heap W'.heap) (hM : Mine H B T k x (xs.flatMap enc)) (hlen : xs.length < 4611686018427387904) :
  CallF P (ρ.f 6) #[.slice x.1 x.2.1 x.2.2, .func (.func g) #[] #[]] w fun e w' => e = .returned (.tuple #[]) ∧ ∃ ys : List α, ys.Perm xs ∧ ys.Pairwise (fun a b => ¬ cf b a < 0) ∧ Mine w'.heap B T k x (ys.flatMap enc) ∧ Ext (ownM x) H w'.heap := by
 subst hw
 have hl := hM.len
 rw [length_flatMap_k enc hk] at hl
 have hxl : x.2.1 = xs.length := (Nat.eq_of_mul_eq_mul_right h0 hl).symm
 refine ⟨e6 _ _, ?_⟩
 rcases hM with ⟨rfl, hnil⟩ | ⟨b, c, hx1, hB, hb, hc, hl2, hle, he⟩
 ·clear hxl hl
  have hx0 : xs = [] := by
   have := congrArg List.length hnil
   rw [length_flatMap_k enc hk, List.length_nil] at this
   rcases Nat.mul_eq_zero.1 this with h | h
   ·exact List.eq_nil_of_length_eq_zero h
   ·omega
  refine (AnyF.slices_SortFunc_none L none 0 _ w).mono ?_
  rintro e w' ⟨he, hw'⟩
  subst hw'
  exact ⟨⟨he, [], by rw [hx0], .nil, .inl ⟨rfl, rfl⟩, .refl _ _⟩, .refl _⟩
 ·obtain ⟨xa, xl, xc⟩ := x
  simp only at hx1 hxl hc hl2 hle
  subst hx1 hxl
  have hlt : b < w.heap.size := lt_of_get hb
  have hcl : xs.length * k ≤ c.size := by rw [hc]; exact Nat.mul_le_mul_right k hle
  have hget : ∀ t, t < xs.length * k → c[t]? = (xs.flatMap enc)[t]? := by
   intro t ht
   rw [← he, Array.getElem?_toList, Array.getElem?_extract]
   rw [if_pos (by rw [length_flatMap_k enc hk]; omega)]
   simp
  have hH : HoldsK enc k w b 0 xs.toArray := by
   intro j hj
   simp only [size_flatK, List.size_toArray] at hj
   have h2 := flatK_get enc hk h0 xs.toArray j (by simpa using hj)
   refine ⟨?_, ?_⟩
   ·rw [Nat.zero_add, cell_h rfl hb, hget j hj]
    simpa using h2
   ·exact frozen_h rfl hb
  have hgen : ∀ (m : Nat) (os : Array Obj) (dk : Array α), (sortWorldK enc k w b 0 m dk os).heap = (w.heap.setIfInBounds b (.cells (putCells id 0 (flatK enc k dk) c) T (0, 0))) ++ os := by
   intro m os dk
   unfold sortWorldK grow putRowK putRow mapBlock
   simp only [Sort.ahead]
   congr 1
   apply Array.ext_getElem?
   intro i
   rw [Array.getElem?_modify]
   by_cases hib : b = i
   ·subst hib
    simp only [if_pos, Array.getElem?_setIfInBounds_self_of_lt hlt, hb, Option.map_some]
    rfl
   ·rw [if_neg hib, Array.getElem?_setIfInBounds_ne hib]
  have hextg : ∀ (m : Nat) (os : Array Obj) (dk : Array α), Ext (ownM (some ⟨b, 0, none⟩, xs.length, xc)) w.heap (sortWorldK enc k w b 0 m dk os).heap := by
   intro m os dk
   rw [hgen]
   refine ⟨by simp, fun i hi hn => ?_⟩
   rw [Array.getElem?_append_left (by simpa using hi)]
   exact Array.getElem?_setIfInBounds_ne (by rintro rfl; exact hn (by simp [ownM]))
  have hcon := AnyQ.slices_SortFunc L k aE zE enc hk h1 cf hO g #[] b 0 xc xs.toArray w eg (fun m os dk _ x y => ?_) hH hlt (by simpa using hlen)
  ·simp only [List.size_toArray] at hcon
   refine hcon.mono ?_
   rintro e w' ⟨rfl, d', n, os, hp, hs, rfl⟩
   obtain ⟨hps, _, hpp⟩ := hp
   have hps' : d'.size = xs.length := by simpa using hps
   have hperm : d'.toList.Perm xs := by
    have h3 : (d'.extract 0 xs.length).toList = d'.toList := by
     simp only [Array.toList_extract, List.extract_eq_take_drop, List.drop_zero, Nat.sub_zero]
     exact List.take_of_length_le (by simp [hps'])
    have h4 : ((xs.toArray).extract 0 xs.length).toList = xs := by simp
    rw [h3, h4] at hpp
    exact hpp
   have hsort : d'.toList.Pairwise (fun a b => ¬ cf b a < 0) := by
    rw [List.pairwise_iff_getElem]
    intro i j hi hj hij
    have := hs i j (Nat.zero_le _) hij (by simpa [hps'] using hj)
    simp only [ltOf, decide_eq_false_iff_not] at this
    rw [getElem!_pos d' j (by simpa using hj), getElem!_pos d' i (by simpa using hi)] at this
    simpa using this
   have hheap : (sortWorldK enc k w b 0 n d' os).heap = (w.heap.setIfInBounds b (.cells (putCells id 0 (flatK enc k d') c) T (0, 0))) ++ os := by
    unfold sortWorldK grow putRowK putRow mapBlock
    simp only [Sort.ahead]
    congr 1
    apply Array.ext_getElem?
    intro i
    rw [Array.getElem?_modify]
    by_cases hib : b = i
    ·subst hib
     simp only [if_pos, Array.getElem?_setIfInBounds_self_of_lt hlt, hb, Option.map_some]
     rfl
    ·rw [if_neg hib, Array.getElem?_setIfInBounds_ne hib]
   have hsz : (putCells id 0 (flatK enc k d') c).size = c.size := by simp [putCells]
   have hext : Ext (ownM (some ⟨b, 0, none⟩, xs.length, xc)) w.heap (sortWorldK enc k w b 0 n d' os).heap := by
    rw [hheap]
    refine ⟨by simp, fun i hi hn => ?_⟩
    rw [Array.getElem?_append_left (by simpa using hi)]
    exact Array.getElem?_setIfInBounds_ne (by rintro rfl; exact hn (by simp [ownM]))
   refine ⟨⟨rfl, d'.toList, hperm, hsort, .inr ⟨b, _, rfl, hB, ?_, hsz.trans hc, ?_, hle, ?_⟩, hext⟩, ?_⟩
   ·rw [hheap, Array.getElem?_append_left (by simpa using hlt), Array.getElem?_setIfInBounds_self_of_lt hlt]
   ·rw [length_flatMap_k enc hk]; simp [hps']
   ·apply List.ext_getElem?
    intro t
    rw [Array.getElem?_toList, Array.getElem?_extract, length_flatMap_k enc hk]
    simp only [Array.length_toList, hps']
    by_cases ht : t < xs.length * k
    ·rw [if_pos (by omega)]
     have h5 := flatK_get enc hk h0 d' t (by rw [hps']; exact ht)
     rw [h5]
     have h6 : t < c.size := by omega
     simp only [putCells, Nat.zero_add, Array.getElem?_mapIdx, Array.getElem?_eq_getElem h6, Option.map_some]
     rw [if_pos ⟨Nat.zero_le _, by simp [hps', ht]⟩]
     rfl
    ·rw [if_neg (by omega), List.getElem?_eq_none (by rw [length_flatMap_k enc hk]; simp [hps']; omega)]
   ·unfold sortWorldK grow putRowK putRow mapBlock
    exact ⟨rfl, rfl, rfl, by simp [Sort.ahead]⟩
  ·have h := (hcmp (sortWorldK enc k w b 0 m dk os) x y (hextg m os dk)).2
   exact h.mono fun e W' ⟨⟨he, hx⟩, hc⟩ => ⟨he, grown_of hx hc⟩
end Go.Fw
namespace Go.Proofs.YtbmegmbnlajbbaaGreatDoor
open Go Go.Fw Go.Proofs Go.Sort
theorem shape1_c {W : World} {y z : ME} (hy : NamesW W.heap y) (hz : NamesW W.heap z) : CallF P F_tree_shape_1 #[.agg (encE y).toArray, .agg (encE z).toArray] W fun e W' => e = .returned (.int .i64 (cmpP (nm y.f) (nm z.f))) ∧ Ext [] W.heap W'.heap := by
 refine fn_tree_shape_1 ?_
 unfold T_tree_shape_1
 refine newB_h rfl fun w1 hw1 => ?_
 have hx1 : Ext [] W.heap w1.heap := by rw [hw1]; exact .push _
 have hb1 : w1.heap[W.heap.size]? = some (.cells (encE y).toArray y_tree_entry (0, 0)) := by rw [hw1]; exact push_new
 refine newB_h rfl fun w2 hw2 => ?_
 have hx2 : Ext [] w1.heap w2.heap := by rw [hw2]; exact .push _
 have hb2 : w2.heap[w1.heap.size]? = some (.cells (encE z).toArray y_tree_entry (0, 0)) := by rw [hw2]; exact push_new
 have hx := hx1.trans hx2
 have hyl : y.hdr.2.1 = (nm y.f).length := by have := Mine.len hy; simp at this; omega
 have hzl : z.hdr.2.1 = (nm z.f).length := by have := Mine.len hz; simp at this; omega
 have h8 := (nm_ok y.f).2
 refine ld_h (s := .slc) (t := y.hdr) rfl (hx2.get hb1 (by simp)) rfl ?_
 refine ld_h (s := .slc) (t := z.hdr) rfl hb2 rfl ?_
 refine callF_of (compare_c rfl (Mine.ext hy hx (by simp)).cells hyl (Mine.ext hz hx (by simp)).cells hzl (by omega)) ?_
 rintro e w3 ⟨rfl, hw3⟩
 refine ⟨cmpP (nm y.f) (nm z.f), rfl, ?_⟩
 exact ⟨rfl, by rw [hw3]; exact hx⟩
theorem esort_c {w : World} {H : Heap} {B : Nat} {x : Option Addr × Nat × Nat} {ms : List ME} (hw : w.heap = H) (hM : Mine H B y_tree_entry 4 x (ms.flatMap encE)) (hn : ∀ m ∈ ms, NamesW H m) (hne : ms ≠ []) (hlen : ms.length < 4611686018427387904) :
  CallF P F_slices_SortFunc_S_tree_entry_tree_entry #[.slice x.1 x.2.1 x.2.2, .func (.func F_tree_shape_1) #[] #[]] w fun e w' => e = .returned (.tuple #[]) ∧ ∃ ys : List ME, ys.Perm ms ∧ ys.Pairwise (fun a b => ¬ cmpP (nm b.f) (nm a.f) < 0) ∧ Mine w'.heap B y_tree_entry 4 x (ys.flatMap encE) ∧ Ext (ownM x) H w'.heap := by
 obtain ⟨m0, hm0⟩ := List.exists_mem_of_ne_nil _ hne
 let α := { m : ME // m ∈ ms }
 haveI : Inhabited α := ⟨⟨m0, hm0⟩⟩
 have hflat : ms.flatMap encE = ms.attach.flatMap fun (m : α) => encE m.1 := by
  conv => lhs; rw [← List.attach_map_subtype_val ms]
  rw [List.flatMap_map]
 rw [hflat] at hM
 have h := sort_h2 (α := α) Tryz.sortE (k := 4) (fun w => by kernel_rfl) (fun w => by kernel_rfl) (fun m => encE m.1) (fun m => len_encE m.1) (by omega) (fun m => one_encE) (fun a b => cmpP (nm a.1.f) (nm b.1.f)) (swo_cmpP (α := α) (fun m => nm m.1.f)) (g := F_tree_shape_1) (fun args w => by kernel_rfl) (fun args w => by kernel_rfl)
  (w := w) (H := H) (x := x) (xs := ms.attach) hw (fun W y z hx => by
   have hk : ∀ m : α, NamesW W.heap m.1 := fun m => Mine.ext (hn m.1 m.2) hx (mine_ne (hn m.1 m.2) hM (by decide))
   exact shape1_c (hk y) (hk z)) hM (by rw [List.length_attach]; exact hlen)
 refine h.mono ?_
 rintro e w' ⟨rfl, ys, hp, hs, hm, hx⟩
 refine ⟨rfl, ys.map Subtype.val, ?_, ?_, ?_, hx⟩
 ·have := hp.map Subtype.val
  rw [List.attach_map_subtype_val] at this
  exact this
 ·rw [List.pairwise_map]; exact hs
 ·rw [List.flatMap_map]; exact hm
def Bad5 (L : List Fil) : Prop := ∃ i, ∃ h : i < L.length, nm L[i] = [] ∨ ∃ g ∈ L.take i, nm g = nm L[i]
def Bad4 (L : List Fil) : Prop := ∃ f ∈ L, (nm f).dropLast ≠ [] ∧ ∀ g ∈ L, nm g ≠ (nm f).dropLast
def Bad70 (L : List Fil) : Prop := ∃ f ∈ L, ∃ g ∈ L, nm g = (nm f).dropLast ∧ g.dir = false
def Bad8 (L : List Fil) : Prop := ∃ f ∈ L, 64 < (kids L (nm f).dropLast).length
open Classical in
noncomputable def shapeCode (L : List Fil) : Int := if Bad5 L then 5 else if Bad4 L then 4 else if Bad70 L then 70 else if Bad8 L then 8 else 0
theorem shape_5 {L : List Fil} (h : Bad5 L) : shapeCode L = 5 := by unfold shapeCode; rw [if_pos h]
theorem shape_4 {L : List Fil} (h5 : ¬ Bad5 L) (h : Bad4 L) : shapeCode L = 4 := by unfold shapeCode; rw [if_neg h5, if_pos h]
theorem shape_70 {L : List Fil} (h5 : ¬ Bad5 L) (h4 : ¬ Bad4 L) (h : Bad70 L) : shapeCode L = 70 := by unfold shapeCode; rw [if_neg h5, if_neg h4, if_pos h]
theorem shape_8 {L : List Fil} (h5 : ¬ Bad5 L) (h4 : ¬ Bad4 L) (h70 : ¬ Bad70 L) (h : Bad8 L) : shapeCode L = 8 := by unfold shapeCode; rw [if_neg h5, if_neg h4, if_neg h70, if_pos h]
theorem shape_0 {L : List Fil} (h5 : ¬ Bad5 L) (h4 : ¬ Bad4 L) (h70 : ¬ Bad70 L) (h : ¬ Bad8 L) : shapeCode L = 0 := by unfold shapeCode; rw [if_neg h5, if_neg h4, if_neg h70, if_neg h]
theorem nodup_of {L : List Fil} (h : ¬ Bad5 L) : (L.map nm).Nodup ∧ ∀ f ∈ L, nm f ≠ [] := by
 constructor
 ·rw [List.nodup_iff_pairwise_ne, List.pairwise_map, List.pairwise_iff_getElem]
  intro i j hi hj hij e
  exact h ⟨j, hj, .inr ⟨L[i], List.mem_take_iff_getElem.2 ⟨i, by omega, rfl⟩, e⟩⟩
 ·intro f hf e
  obtain ⟨i, hi, rfl⟩ := List.getElem_of_mem hf
  exact h ⟨i, hi, .inl e⟩
theorem kids_perm {A B : List Fil} (h : A.Perm B) (p : Path) : (kids A p).Perm (kids B p) := h.filter _
theorem kids_len {L : List Fil} (h5 : ¬ Bad5 L) (h8 : ¬ Bad8 L) (p : Path) : (kids (sortF L) p).length ≤ 64 := by
 rw [(kids_perm (sortF_spec (nodup_of h5).1).1 p).length_eq]
 by_cases hk : kids L p = []
 ·rw [hk]; simp
 ·obtain ⟨f, hf⟩ := List.exists_mem_of_ne_nil _ hk
  obtain ⟨h1, h2, h3⟩ := kids_mem hf
  rw [← h3]
  exact Nat.le_of_not_lt fun h => h8 ⟨f, h1, h⟩
end Go.Proofs.YtbmegmbnlajbbaaGreatDoor
namespace Go.Proofs.YtbmegmbnlajbbaaGreatDoor
open Go Go.Fw Go.Proofs Go.Sort
theorem uMT : P.underlying y_M_string_tree_entry = some (.map y_string y_tree_entry) := by kernel_rfl
def rootE : ME := ⟨(none, 0, 0), ⟨[], true, []⟩⟩
def zeroE : ME := ⟨(none, 0, 0), ⟨[], false, []⟩⟩
def evE (m : ME) : Value := .agg (encE m).toArray
theorem zET (w : World) : (zeroValue y_tree_entry).run P w = .ok (evE zeroE) w := by kernel_rfl
theorem bF1 (w : World) : (Instr.build y_api_File #[(1, .bool true)]).run P w = .ok (.agg (encF ⟨[], true, []⟩).toArray) w := by kernel_rfl
abbrev PM := ML (List UInt8) ME
def Places (M : PM) (ms : List ME) : Prop := ∀ p, okP p → mget M (showP p) = if p = [] then some rootE else ms.find? fun m => decide (nm m.f = p)
theorem MOk.map_val {κ ν ν' : Type} [DecidableEq κ] {ok : κ → Prop} {l : ML κ ν} {c : Nat} (h : MOk ok l c) (g : κ × ν × Nat → ν') : MOk ok (l.map fun x => (x.1, g x, x.2.2)) c := by
 refine ⟨?_, ?_, ?_, ?_⟩
 ·have := h.keys; simp only [List.map_map]; exact this
 ·have := h.born; simp only [List.map_map]; exact this
 ·intro x hx; obtain ⟨y, hy, rfl⟩ := List.mem_map.1 hx; exact h.old y hy
 ·intro x hx; obtain ⟨y, hy, rfl⟩ := List.mem_map.1 hx; exact h.fine y hy
def inDir (p : Path) (m : ME) : Bool := decide ((nm m.f).dropLast = p)
structure RowsW (W : Heap) (B : Nat) (K : KM) (ms : List ME) : Prop where
 key : ∀ z ∈ K, ∃ p, okP p ∧ z.1 = showP p
 get : ∀ p, okP p → (match mget K (showP p) with | none => ms.filter (inDir p) = [] | some v => v.2 = ms.filter (inDir p) ∧ v.2 ≠ [])
 row : ∀ z ∈ K, Mine W B y_tree_entry 4 z.2.1.1 (z.2.1.2.flatMap encE)
 apart : ∀ z ∈ K, ∀ z' ∈ K, z.1 ≠ z'.1 → ∀ b ∈ ownM z.2.1.1, b ∉ ownM z'.2.1.1
theorem RowsW.step {H H' : Heap} {B clk : Nat} {K : KM} {ms : List ME} {m : ME} {v : (Option Addr × Nat × Nat) × List ME} {x' : Option Addr × Nat × Nat} (h : RowsW H B K ms) (hM : MOk (fun _ => True) K clk) (hv : (mget K (showP (nm m.f).dropLast)).getD ((none, 0, 0), []) = v)
  (hm : Mine H' B y_tree_entry 4 x' ((v.2 ++ [m]).flatMap encE)) (hx : Ext (ownM v.1) H H') (hs : ∀ c ∈ ownM x', c ∈ ownM v.1 ∨ H.size ≤ c) : RowsW H' B (mupd K (showP (nm m.f).dropLast) (x', v.2 ++ [m]) clk) (ms ++ [m]) := by
 have hokd : okP (nm m.f).dropLast := by rw [List.dropLast_eq_take]; exact (nm_ok m.f).take _
 have hold : ∀ z ∈ K, z.1 ≠ showP (nm m.f).dropLast → Mine H' B y_tree_entry 4 z.2.1.1 (z.2.1.2.flatMap encE) ∧ ∀ b ∈ ownM z.2.1.1, b ∉ ownM x' := by
  intro z hz hne
  have hap : ∀ b ∈ ownM z.2.1.1, b ∉ ownM v.1 := by
   cases hg : mget K (showP (nm m.f).dropLast) with
   | none => rw [hg] at hv; subst hv; simp [ownM]
   | some u =>
    rw [hg] at hv
    obtain ⟨c, hc⟩ := mget_some_mem hg
    have hu : u = v := hv
    subst hu
    exact h.apart z hz _ hc hne
  refine ⟨(h.row z hz).ext hx hap, fun b hb hb' => ?_⟩
  rcases hs b hb' with h' | h'
  ·exact hap b hb h'
  ·have := (mine_lt (h.row z hz) b hb).1; omega
 have hmem : ∀ z ∈ mupd K (showP (nm m.f).dropLast) (x', v.2 ++ [m]) clk, (z.1 = showP (nm m.f).dropLast ∧ z.2.1 = (x', v.2 ++ [m])) ∨ (z.1 ≠ showP (nm m.f).dropLast ∧ z ∈ K) := fun z hz => mem_upd hz
 refine ⟨fun z hz => ?_, fun p hp => ?_, fun z hz => ?_, fun z hz z' hz' hne b hb => ?_⟩
 ·rcases hmem z hz with ⟨h1, _⟩ | ⟨_, h1⟩
  ·exact ⟨_, hokd, h1⟩
  ·exact h.key z h1
 ·rw [mget_upd]
  by_cases e : showP p = showP (nm m.f).dropLast
  ·rw [if_pos e]
   have hpe := show_inj hp hokd e
   subst hpe
   have hgp := h.get _ hokd
   have h2 : v.2 = ms.filter (inDir (nm m.f).dropLast) := by
    cases hg : mget K (showP (nm m.f).dropLast) with
    | none => rw [hg] at hgp hv; subst hv; exact hgp.symm
    | some u => rw [hg] at hgp hv; have hu : u = v := hv; subst hu; exact hgp.1
   simp only
   rw [List.filter_append, ← h2]
   exact ⟨by simp [inDir], by simp⟩
  ·rw [if_neg e]
   have hne : (nm m.f).dropLast ≠ p := by rintro rfl; exact e rfl
   have := h.get p hp
   cases hg : mget K (showP p) with
   | none =>
    rw [hg] at this
    simp only at this ⊢
    rw [List.filter_append, this]
    simp [inDir, hne]
   | some u =>
    rw [hg] at this
    simp only at this ⊢
    refine ⟨?_, this.2⟩
    rw [List.filter_append, this.1]
    simp [inDir, hne]
 ·rcases hmem z hz with ⟨_, h1⟩ | ⟨h0, h1⟩
  ·rw [h1]; exact hm
  ·exact (hold z h1 h0).1
 ·rcases hmem z hz with ⟨e1, h1⟩ | ⟨e1, h1⟩
  ·rcases hmem z' hz' with ⟨e2, _⟩ | ⟨e2, h2⟩
   ·exact absurd (e1.trans e2.symm) hne
   ·rw [h1] at hb
    exact fun h3 => (hold z' h2 e2).2 b h3 hb
  ·rcases hmem z' hz' with ⟨e2, h2⟩ | ⟨e2, h2⟩
   ·rw [h2]; exact (hold z h1 e1).2 b hb
   ·intro h3; exact h.apart z h1 z' h2 hne b hb h3
theorem find_none_of {ms : List ME} {p : Path} : (ms.find? fun m => decide (nm m.f = p)) = none ↔ ∀ m ∈ ms, nm m.f ≠ p := by
 rw [List.find?_eq_none]
 simp
theorem find_some_of {ms : List ME} {p : Path} {m : ME} (h : (ms.find? fun m => decide (nm m.f = p)) = some m) : m ∈ ms ∧ nm m.f = p := by
 have h1 := List.mem_of_find?_eq_some h
 have h2 := List.find?_some h
 exact ⟨h1, by simpa using h2⟩
theorem nodup_inj {α β : Type} {g : α → β} : ∀ {L : List α}, (L.map g).Nodup → ∀ {a b : α}, a ∈ L → b ∈ L → g a = g b → a = b
 | [], _, _, _, ha, _, _ => by simp at ha
 | x :: L, h, a, b, ha, hb, e => by
  rw [List.map_cons, List.nodup_cons] at h
  rcases List.mem_cons.1 ha with h1 | h1 <;> rcases List.mem_cons.1 hb with h2 | h2
  ·rw [h1, h2]
  ·subst h1; exact absurd (List.mem_map.2 ⟨b, h2, e.symm⟩) h.1
  ·subst h2; exact absurd (List.mem_map.2 ⟨a, h1, e⟩) h.1
  ·exact nodup_inj h.2 h1 h2 e
theorem filter_kids {ms : List ME} {p : Path} (hne : ∀ m ∈ ms, nm m.f ≠ []) : (ms.filter (inDir p)).map (·.f) = kids (ms.map (·.f)) p := by
 unfold kids
 rw [List.filter_map]
 congr 1
 apply List.filter_congr
 intro m hm
 simp [inDir, kidP, hne m hm]
theorem take_map {ms : List ME} {i : Nat} : (ms.take i).map (·.f) = (ms.map (·.f)).take i := List.map_take
structure Rows3 (W : Heap) (B : Nat) (K K3 : KM) (seen : Array Nat) : Prop where
 vls : vl evK K3 = vl evK K
 from_ : ∀ z ∈ K3, ∃ z0 ∈ K, z0.1 = z.1 ∧ z0.2.1.1 = z.2.1.1 ∧ z.2.1.2.Perm z0.2.1.2
 row : ∀ z ∈ K3, Mine W B y_tree_entry 4 z.2.1.1 (z.2.1.2.flatMap encE)
 done : ∀ z ∈ K3, z.2.2 ∈ seen → z.2.1.2.length ≤ 64 ∧ z.2.1.2.Pairwise fun a b => ¬ cmpP (nm b.f) (nm a.f) < 0
theorem sorted_kids {es fs : List ME} {L : List Fil} {p : Path} (hp : es.Perm fs) (hfs : fs.map (·.f) = kids L p) (hnd : (L.map nm).Nodup) (hs : es.Pairwise fun a b => ¬ cmpP (nm b.f) (nm a.f) < 0) : es.map (·.f) = kids (sortF L) p := by
 have hsp := sortF_spec hnd
 have hperm : (es.map (·.f)).Perm (kids L p) := by rw [← hfs]; exact hp.map _
 have hnk : ((kids L p).map nm).Nodup := (List.filter_sublist.map nm).nodup hnd
 have hne : ((es.map (·.f)).map nm).Nodup := (hperm.map nm).nodup_iff.2 hnk
 refine rise_same ?_ (hsp.2.sublist List.filter_sublist) (hperm.trans (kids_perm hsp.1 p).symm)
 unfold RiseF
 rw [List.pairwise_map]
 rw [List.nodup_iff_pairwise_ne, List.pairwise_map, List.pairwise_map] at hne
 refine (hs.and hne).imp fun {a b} h => ?_
 have h1 := cmpP_neg (p := nm a.f) (q := nm b.f)
 have h2 : cmpP (nm a.f) (nm b.f) ≠ 0 := fun e => h.2 (cmpP_eq.1 e)
 have h3 := h.1
 omega
set_option maxHeartbeats 32000000 in
theorem tshape_c {w : World} {H : Heap} {a : Option Addr} {n nc : Nat} {ms : List ME} (hw : w.heap = H) (hL : Cells H a (ms.flatMap encE)) (hn : n = ms.length) (hm : ms.length ≤ 65536) (hN : ∀ m ∈ ms, NamesW H m) :
  CallF P F_tree_shape #[.slice a n nc] w fun e w' => ∃ v, e = .returned (.tuple #[.map v, .int .i64 (shapeCode (ms.map (·.f)))]) ∧ Ext [] H w'.heap ∧ (shapeCode (ms.map (·.f)) = 0 → ∃ mk, v = some mk ∧ KidsW w'.heap mk (sortF (ms.map (·.f)))) := by
 subst hn
 refine fn_tree_shape ?_
 unfold T_tree_shape
 refine genL_of (s := .map) (some H.size) _ (makeMap_h hw) ?_
 refine genQ_of (s := .any) _ (bF1 _) ?_
 refine genQ_of (s := .any) (evE rootE) (bE (none, 0, 0) _ _ _ _) ?_
 have hm1 : (H.push (.map #[] 0))[H.size]? = some (.map (ents keyS (vl evE ([] : PM))) 0) := push_new
 refine genU_of _ (update_v Kstr uMT (w := { w with heap := H.push (.map #[] 0) }) rfl hm1 MOk.nil (k := showP []) trivial rootE rfl) ?_
 generalize hW0 : ({ w with heap := (H.push (.map #[] 0)).setIfInBounds H.size (.map (ents keyS (vl evE (mupd ([] : PM) (showP []) rootE 0))) (mclk ([] : PM) (showP []) 0)) } : World) = W0
 have hh0 : W0.heap = (H.push (.map #[] 0)).setIfInBounds H.size (.map (ents keyS (vl evE (mupd ([] : PM) (showP []) rootE 0))) (mclk ([] : PM) (showP []) 0)) := by rw [← hW0]
 have hx0 : Ext [] H W0.heap := by rw [hh0]; exact (Ext.push _).set_own (.inl (Nat.le_refl _))
 have hp0 : W0.heap[H.size]? = some (.map (ents keyS (vl evE (mupd ([] : PM) (showP []) rootE 0))) (mclk ([] : PM) (showP []) 0)) := by rw [hh0]; exact set_new hm1
 have hok0 : MOk (fun _ => True) (mupd ([] : PM) (showP []) rootE 0) (mclk ([] : PM) (showP []) 0) := MOk.nil.upd trivial _
 have hnil : okP [] := ⟨by simp, by simp⟩
 have hpl0 : Places (mupd ([] : PM) (showP []) rootE 0) [] := by
  intro p hp
  rw [mget_upd]
  by_cases e : p = []
  ·subst e; rw [if_pos rfl, if_pos rfl]
  ·rw [if_neg (fun h => e (show_inj hp hnil h)), if_neg e]; rfl
 have hlm : (ms.map (·.f)).length = ms.length := by simp
 have hHs0 : H.size < W0.heap.size := lt_of_get hp0
 refine loopP_of (fun (s : Int) W => ∃ (i : Nat) (M : PM) (c : Nat), s = (i : Int) ∧ i ≤ ms.length ∧ Ext [] H W.heap ∧ W.heap[H.size]? = some (.map (ents keyS (vl evE M)) c) ∧ MOk (fun _ => True) M c ∧ Places M (ms.take i) ∧ (∀ j (h : j < (ms.map (·.f)).length), j < i → nm (ms.map (·.f))[j] ≠ [] ∧ ∀ g ∈ (ms.map (·.f)).take j, nm g ≠ nm (ms.map (·.f))[j]))
  (fun s _ => (ms.length - s).toNat) ⟨0, _, _, rfl, Nat.zero_le _, hx0, hp0, hok0, by simpa using hpl0, fun j _ h => by omega⟩ ?_
 rintro _ W ⟨i, M, c, rfl, hi, hxW, hpW, hoM, hPl, hgood⟩
 refine iteP_dec (fun hlt => ?_) (fun hge => ?_)
 ·have hil : i < ms.length := by omega
  have hget := List.getElem?_eq_getElem hil
  have hmem : ms[i] ∈ ms := List.getElem_mem hil
  have hfi : (ms.map (·.f))[i]'(by simpa using hil) = (ms[i]).f := by simp
  generalize ms[i] = m at hget hmem hfi
  have hsm := (nm_ok m.f).small
  refine elem_ld (i := i) len_encE (by omega) rfl (hL.ext hxW (by simp)) rfl hget rfl ?_
  refine varE m rfl fun w5 hw5 => ?_
  have hx5 : Ext [] W.heap w5.heap := by rw [hw5]; exact .push _
  have hb5 : w5.heap[W.heap.size]? = some (.cells (encE m).toArray y_tree_entry (0, 0)) := by rw [hw5]; exact push_new
  have hnm := (hN m hmem)
  have hnl : m.hdr.2.1 = (nm m.f).length := by have := Mine.len hnm; simp at this; omega
  have hcap := mine_cap hnm
  refine ld_h (s := .slc) (t := m.hdr) rfl hb5 rfl ?_
  refine callF_of (show_c rfl (Mine.ext hnm (hxW.trans hx5) (by simp)).cells hnl hcap (by omega)) ?_
  rintro e w6 ⟨rfl, hx6⟩
  refine ⟨strOf (showP (nm m.f)), rfl, ?_⟩
  have hx06 := hx5.trans hx6
  have hp6 := hx06.get hpW (by simp)
  have hlk := lookup_v Kstr uMT zET (w := w6) rfl hp6 hoM (k := showP (nm m.f)) trivial
  have hval : ((mget M (showP (nm m.f))).map evE).getD (evE zeroE) = evE ((mget M (showP (nm m.f))).getD zeroE) := by cases mget M (showP (nm m.f)) <;> rfl
  rw [hval] at hlk
  refine genT_of (l := [.any, .bool]) (evE ((mget M (showP (nm m.f))).getD zeroE), (mget M (showP (nm m.f))).isSome) hlk ?_
  refine varE ((mget M (showP (nm m.f))).getD zeroE) rfl fun w8 hw8 => ?_
  have hx8 : Ext [] w6.heap w8.heap := by rw [hw8]; exact .push _
  have hx08 := hx06.trans hx8
  have hpm := hPl (nm m.f) (nm_ok m.f)
  cases hs : (mget M (showP (nm m.f))).isSome with
  | true =>
   refine iteP_t rfl ?_
   have h5 : Bad5 (ms.map (·.f)) := by
    refine ⟨i, by simpa using hil, ?_⟩
    rw [hfi]
    by_cases e : nm m.f = []
    ·exact .inl e
    ·right
     rw [hpm, if_neg e] at hs
     obtain ⟨m', hm'⟩ := Option.isSome_iff_exists.1 hs
     obtain ⟨h1, h2⟩ := find_some_of hm'
     exact ⟨m'.f, by rw [← take_map]; exact List.mem_map.2 ⟨m', h1, rfl⟩, h2⟩
   exact ⟨none, by rw [shape_5 h5], hxW.trans hx08, fun h => by rw [shape_5 h5] at h; cases h⟩
  | false =>
   refine iteP_f rfl ?_
   have hno : nm m.f ≠ [] ∧ ∀ m' ∈ ms.take i, nm m'.f ≠ nm m.f := by
    rw [hpm] at hs
    by_cases e : nm m.f = []
    ·rw [if_pos e] at hs; simp at hs
    ·rw [if_neg e] at hs
     exact ⟨e, find_none_of.1 (by simpa using hs)⟩
   refine drewP_h rfl fun w9 hw9 => ?_
   have hx9 : Ext [] w8.heap w9.heap := by rw [hw9]; exact .refl _ _
   have hb9 := hx9.get (hx8.get (hx6.get hb5 (by simp)) (by simp)) (by simp)
   refine ld_h (s := .slc) (t := m.hdr) rfl hb9 rfl ?_
   refine ldA_all rfl hb9 rfl ?_
   have hx09 := hx08.trans hx9
   refine callF_of (show_c rfl (Mine.ext hnm (hxW.trans hx09) (by simp)).cells hnl hcap (by omega)) ?_
   rintro e w10 ⟨rfl, hx10⟩
   refine ⟨strOf (showP (nm m.f)), rfl, ?_⟩
   refine ⟨ldA_all rfl (hx10.get hb9 (by simp)) rfl rfl, ?_⟩
   have hx010 := hx09.trans hx10
   have hp10 := hx010.get hpW (by simp)
   refine genU_of _ (update_v Kstr uMT (w := w10) rfl hp10 hoM (k := showP (nm m.f)) trivial m rfl) ?_
   refine addI_to ((i + 1 : Nat) : Int) (by omega) (by omega) (by omega) ?_
   refine ⟨⟨i + 1, _, _, rfl, by omega, (hxW.trans hx010).set_own (.inl (Nat.le_refl _)), set_new hp10, hoM.upd trivial _, fun p hp => ?_, fun j hj hji => ?_⟩, by omega⟩
   ·rw [mget_upd, List.take_add_one, hget, Option.toList_some, List.find?_append]
    by_cases e : showP p = showP (nm m.f)
    ·have hpe := show_inj hp (nm_ok m.f) e
     subst hpe
     rw [if_pos e, if_neg hno.1, find_none_of.2 hno.2]
     simp
    ·rw [if_neg e, hPl p hp]
     have hne : nm m.f ≠ p := by rintro rfl; exact e rfl
     by_cases e0 : p = []
     ·rw [if_pos e0, if_pos e0]
     ·rw [if_neg e0, if_neg e0]
      simp [hne]
   ·by_cases e : j = i
    ·subst e
     rw [hfi]
     refine ⟨hno.1, fun g hg => ?_⟩
     rw [← take_map] at hg
     obtain ⟨m', hm', rfl⟩ := List.mem_map.1 hg
     exact hno.2 m' hm'
    ·exact hgood j hj (by omega)
 ·obtain rfl : i = ms.length := by omega
  have h5 : ¬ Bad5 (ms.map (·.f)) := by
   rintro ⟨j, hj, h⟩
   obtain ⟨g1, g2⟩ := hgood j hj (by omega)
   rcases h with h | ⟨g, hg, e⟩
   ·exact g1 h
   ·exact g2 g hg e
  rw [List.take_length] at hPl
  obtain ⟨hnd, hne⟩ := nodup_of h5
  have hnem : ∀ m ∈ ms, nm m.f ≠ [] := fun m hm => hne _ (List.mem_map.2 ⟨m, hm, rfl⟩)
  have hsW := hxW.1
  have hpml := lt_of_get hpW
  refine genL_of (s := .map) (some W.heap.size) { W with heap := W.heap.push (.map #[] 0) } (makeMap_h rfl) ?_
  have hxm : Ext [] W.heap (W.heap.push (.map #[] 0)) := .push _
  refine loopP_of (fun (s : Bool × Int) W2 => ∃ (i : Nat) (K : KM) (c2 : Nat), s.2 = (i : Int) ∧ i ≤ ms.length ∧ Ext [] W.heap W2.heap ∧ W2.heap[W.heap.size]? = some (.map (ents keyS (vl evK K)) c2) ∧ MOk (fun _ => True) K c2 ∧ RowsW W2.heap (W.heap.size + 1) K (ms.take i) ∧
    (s.1 = true ↔ ∃ f ∈ (ms.map (·.f)).take i, ∃ g ∈ ms.map (·.f), nm g = (nm f).dropLast ∧ g.dir = false) ∧ (∀ f ∈ (ms.map (·.f)).take i, (nm f).dropLast = [] ∨ ∃ g ∈ ms.map (·.f), nm g = (nm f).dropLast))
   (fun s _ => (ms.length - s.2).toNat) ⟨0, [], 0, rfl, Nat.zero_le _, hxm, push_new, .nil, ⟨by simp, fun p hp => by simp [mget], by simp, by simp⟩, by simp, by simp⟩ ?_
  rintro ⟨flat, _⟩ W2 ⟨i, K, c2, rfl, hi, hx2, hk2, hoK, hR, hfl, hab⟩
  have hxH2 := hxW.trans hx2
  have hp2 := hx2.get hpW (by simp)
  have hkl := lt_of_get hk2
  have hx2s := hx2.1
  refine iteP_dec (fun hlt => ?_) (fun hge => ?_)
  ·have hil : i < ms.length := by simp only at hlt; omega
   have hget := List.getElem?_eq_getElem hil
   have hmem : ms[i] ∈ ms := List.getElem_mem hil
   generalize ms[i] = m at hget hmem
   have hgf : (ms.map (·.f))[i]? = some m.f := by rw [List.getElem?_map, hget]; rfl
   have hsm := (nm_ok m.f).small
   have hok8 := (nm_ok m.f).2
   have hmne := hnem m hmem
   have hpos := List.length_pos_iff.2 hmne
   refine elem_ld (i := i) len_encE (by omega) rfl (hL.ext hxH2 (by simp)) rfl hget rfl ?_
   refine varE m rfl fun w15 hw15 => ?_
   have hx15 : Ext [] W2.heap w15.heap := by rw [hw15]; exact .push _
   have hb15 : w15.heap[W2.heap.size]? = some (.cells (encE m).toArray y_tree_entry (0, 0)) := by rw [hw15]; exact push_new
   have hnm := (hN m hmem)
   have hnl : m.hdr.2.1 = (nm m.f).length := by have := Mine.len hnm; simp at this; omega
   have hcap := mine_cap hnm
   refine ld_h (s := .slc) (t := m.hdr) rfl hb15 rfl ?_
   refine ld_h (s := .slc) (t := m.hdr) rfl hb15 rfl ?_
   refine subI_to ((m.hdr.2.1 - 1 : Nat) : Int) (by omega) (by omega) (by omega) ?_
   refine genQ_of (s := .slc) (if m.hdr.2.2 = 0 then m.hdr.1 else m.hdr.1.map (·.add (0 * 1)), (m.hdr.2.1 - 1) - 0, m.hdr.2.2 - 0) (run_slice_slc uSstr szStr .no (.yes rfl) (Nat.zero_le _) (show m.hdr.2.1 - 1 ≤ m.hdr.2.2 by omega)) ?_
   have hcut := (Mine.cut (Mine.ext hnm (hxH2.trans hx15) (by simp)) (k := m.hdr.2.1 - 1) (by omega)).cells
   rw [strRow_take] at hcut
   have hdl : (nm m.f).take (m.hdr.2.1 - 1) = (nm m.f).dropLast := by rw [List.dropLast_eq_take, hnl]
   have hcut : Cells w15.heap (if m.hdr.2.2 = 0 then m.hdr.1 else m.hdr.1.map (·.add (0 * 1))) (strRow ((nm m.f).take (m.hdr.2.1 - 1))) := hcut
   rw [hdl] at hcut
   have hql : (nm m.f).dropLast.length = m.hdr.2.1 - 1 := by rw [List.length_dropLast]; omega
   have hokd : okP (nm m.f).dropLast := by rw [List.dropLast_eq_take]; exact (nm_ok m.f).take _
   have hsmd := hokd.small
   refine callF_of (show_c rfl hcut (by rw [hql]; simp) (by simp only; omega) (by omega)) ?_
   rintro e w16 ⟨rfl, hx16⟩
   refine ⟨strOf (showP (nm m.f).dropLast), rfl, ?_⟩
   have hx216 := hx15.trans hx16
   have hp16 := hx216.get hp2 (by simp)
   have hlk := lookup_v Kstr uMT zET (w := w16) rfl hp16 hoM (k := showP (nm m.f).dropLast) trivial
   have hval : ((mget M (showP (nm m.f).dropLast)).map evE).getD (evE zeroE) = evE ((mget M (showP (nm m.f).dropLast)).getD zeroE) := by cases mget M (showP (nm m.f).dropLast) <;> rfl
   rw [hval] at hlk
   refine genT_of (l := [.any, .bool]) (evE ((mget M (showP (nm m.f).dropLast)).getD zeroE), (mget M (showP (nm m.f).dropLast)).isSome) hlk ?_
   refine varE ((mget M (showP (nm m.f).dropLast)).getD zeroE) rfl fun w18 hw18 => ?_
   have hx18 : Ext [] w16.heap w18.heap := by rw [hw18]; exact .push _
   have hb18 : w18.heap[w16.heap.size]? = some (.cells (encE ((mget M (showP (nm m.f).dropLast)).getD zeroE)).toArray y_tree_entry (0, 0)) := by rw [hw18]; exact push_new
   have hx218 := hx216.trans hx18
   have hpm := hPl _ hokd
   have htk : (ms.map (·.f)).take (i + 1) = (ms.map (·.f)).take i ++ [m.f] := by rw [List.take_add_one, hgf]; rfl
   cases hs : (mget M (showP (nm m.f).dropLast)).isSome with
   | false =>
    refine iteP_t rfl ?_
    have h4 : Bad4 (ms.map (·.f)) := by
     rw [hpm] at hs
     by_cases e : (nm m.f).dropLast = []
     ·rw [if_pos e] at hs; simp at hs
     ·rw [if_neg e] at hs
      have hnf := find_none_of.1 (by simpa using hs)
      refine ⟨m.f, List.mem_map.2 ⟨m, hmem, rfl⟩, e, fun g hg => ?_⟩
      obtain ⟨m', hm', rfl⟩ := List.mem_map.1 hg
      exact hnf m' hm'
    exact ⟨none, by rw [shape_4 h5 h4], hxH2.trans hx218, fun h => by rw [shape_4 h5 h4] at h; cases h⟩
   | true =>
    refine iteP_f rfl ?_
    obtain ⟨m0, hm0⟩ := Option.isSome_iff_exists.1 hs
    have hm0' := hm0
    rw [hpm] at hm0'
    have hab' : (nm m.f).dropLast = [] ∨ ∃ g ∈ ms.map (·.f), nm g = (nm m.f).dropLast := by
     by_cases e : (nm m.f).dropLast = []
     ·exact .inl e
     ·rw [if_neg e] at hm0'
      obtain ⟨h1, h2⟩ := find_some_of hm0'
      exact .inr ⟨m0.f, List.mem_map.2 ⟨m0, h1, rfl⟩, h2⟩
    have hflat : m0.f.dir = false ↔ ∃ g ∈ ms.map (·.f), nm g = (nm m.f).dropLast ∧ g.dir = false := by
     by_cases e : (nm m.f).dropLast = []
     ·rw [if_pos e] at hm0'
      cases hm0'
      constructor
      ·intro h; cases h
      ·rintro ⟨g, hg, h1, _⟩
       rw [e] at h1
       exact absurd h1 (hne g hg)
     ·rw [if_neg e] at hm0'
      obtain ⟨h1, h2⟩ := find_some_of hm0'
      constructor
      ·intro h; exact ⟨m0.f, List.mem_map.2 ⟨m0, h1, rfl⟩, h2, h⟩
      ·rintro ⟨g, hg, h3, h4⟩
       have : m0.f = g := nodup_inj hnd (List.mem_map.2 ⟨m0, h1, rfl⟩) hg (h2.trans h3.symm)
       rw [this]; exact h4
    refine joinP_of (fun s' W' => W' = w18 ∧ (s' = true ↔ ∃ f ∈ (ms.map (·.f)).take (i + 1), ∃ g ∈ ms.map (·.f), nm g = (nm f).dropLast ∧ g.dir = false)) ?_ ?_
    ·cases hfb : flat with
     | true =>
      refine iteP_t rfl ⟨rfl, ⟨fun _ => ?_, fun _ => rfl⟩⟩
      obtain ⟨f, hf, h⟩ := hfl.1 (by simpa using hfb)
      exact ⟨f, by rw [htk]; exact List.mem_append_left _ hf, h⟩
     | false =>
      refine iteP_f rfl ?_
      refine ld_h (s := .bool) (t := m0.f.dir) rfl hb18 (by rw [hm0]; rfl) ?_
      refine ⟨rfl, ?_⟩
      rw [Bool.not_eq_true', hflat]
      constructor
      ·intro h; exact ⟨m.f, by rw [htk]; simp, h⟩
      ·rintro ⟨f, hf, h⟩
       rw [htk] at hf
       rcases List.mem_append.1 hf with hf | hf
       ·have := hfl.2 ⟨f, hf, h⟩
        simp only at this
        rw [hfb] at this; cases this
       ·simp at hf; subst hf; exact h
    rintro s' W' ⟨hW', hs'⟩
    subst hW'
    have hk18 := hx218.get hk2 (by simp)
    obtain ⟨v, hv⟩ : ∃ v, (mget K (showP (nm m.f).dropLast)).getD ((none, 0, 0), []) = v := ⟨_, rfl⟩
    have hlk2 := lookup_no (w := W') Kstr uME zME rfl hk18 hoK (k := showP (nm m.f).dropLast) trivial
    have hv2 : ((mget K (showP (nm m.f).dropLast)).map evK).getD (.slice none 0 0) = slcV v.1 := by
     rw [← hv]
     cases mget K (showP (nm m.f).dropLast) <;> rfl
    rw [hv2] at hlk2
    refine genQ_of (s := .slc) v.1 hlk2 ?_
    have hb1518 := hx18.get (hx16.get hb15 (by simp)) (by simp)
    refine ldA_all rfl hb1518 rfl ?_
    have hRow : Mine W'.heap (W.heap.size + 1) y_tree_entry 4 v.1 (v.2.flatMap encE) := by
     cases hg : mget K (showP (nm m.f).dropLast) with
     | none => rw [hg] at hv; subst hv; exact .inl ⟨rfl, rfl⟩
     | some u =>
      rw [hg] at hv
      have hu : u = v := hv
      subst hu
      obtain ⟨c, hc⟩ := mget_some_mem hg
      exact (hR.row _ hc).ext hx218 (by simp)
    have hvl : v.2.length ≤ ms.length := by
     have := hR.get _ hokd
     cases hg : mget K (showP (nm m.f).dropLast) with
     | none => rw [hg] at hv; subst hv; simp
     | some u =>
      rw [hg] at hv this
      have hu : u = v := hv
      subst hu
      rw [this.1]
      have h1 := List.length_filter_le (inDir (nm m.f).dropLast) (ms.take i)
      have h2 : (ms.take i).length ≤ ms.length := by simp; omega
      omega
    have hs18 := hx218.1
    refine app_ent (i := m) rfl hRow (by omega) (by omega) fun x' w21 hm21 hx21 hs21 hl21 => ?_
    have hkne : W.heap.size ∉ ownM v.1 := fun h => by have := ownM_ge hRow _ h; omega
    have hk21 := hx21.get hk18 hkne
    refine genU_of _ (update_v Kstr uME (w := w21) rfl hk21 hoK (k := showP (nm m.f).dropLast) trivial (x', v.2 ++ [m]) rfl) ?_
    have hx221 : Ext (ownM v.1) W2.heap w21.heap := (hx218.mono (by simp)).trans hx21
    have hs221 : ∀ c ∈ ownM x', c ∈ ownM v.1 ∨ W2.heap.size ≤ c := fun c hc => by
     rcases hs21 c hc with h | h
     ·exact .inl h
     ·right; omega
    have hstep := hR.step hoK hv hm21 hx221 hs221
    have hxk : Ext [W.heap.size] w21.heap (w21.heap.setIfInBounds W.heap.size (.map (ents keyS (vl evK (mupd K (showP (nm m.f).dropLast) (x', v.2 ++ [m]) c2))) (mclk K (showP (nm m.f).dropLast) c2))) := Ext.set _ (by simp)
    refine addI_to ((i + 1 : Nat) : Int) (by simp) (by omega) (by omega) ?_
    refine ⟨⟨i + 1, _, _, rfl, by omega, ?_, set_new hk21, hoK.upd trivial _, ⟨?_, ?_, ?_, ?_⟩, hs', ?_⟩, by simp only; omega⟩
    ·exact (hx2.own hx221 (fun c hc hlt => by have := ownM_ge hRow c hc; omega)).set_own (.inl (Nat.le_refl _))
    ·exact hstep.key
    ·rw [List.take_add_one, hget]; exact hstep.get
    ·intro z hz
     exact (hstep.row z hz).ext hxk (fun b hb h => by simp at h; subst h; have := ownM_ge (hstep.row z hz) _ hb; omega)
    ·exact hstep.apart
    ·rw [htk]
     intro f hf
     rcases List.mem_append.1 hf with hf | hf
     ·exact hab f hf
     ·simp at hf; subst hf; exact hab'
  ·obtain rfl : i = ms.length := by simp only at hge; omega
   rw [List.take_length] at hR
   have htl : (ms.map (·.f)).take ms.length = ms.map (·.f) := by rw [← hlm, List.take_length]
   rw [htl] at hfl hab
   have h4 : ¬ Bad4 (ms.map (·.f)) := by
    rintro ⟨f, hf, h1, h2⟩
    rcases hab f hf with h | ⟨g, hg, h⟩
    ·exact h1 h
    ·exact h2 g hg h
   cases hfb : flat with
   | true =>
    have h70 : Bad70 (ms.map (·.f)) := hfl.1 (by simpa using hfb)
    exact iteP_t rfl ⟨none, by rw [shape_70 h5 h4 h70], hxH2, fun h => by rw [shape_70 h5 h4 h70] at h; cases h⟩
   | false =>
    have h70 : ¬ Bad70 (ms.map (·.f)) := fun h => by
     have := hfl.2 h
     simp only at this
     rw [hfb] at this; cases this
    refine iteP_f rfl ?_
    refine genL_of (s := .ptr) (some ⟨W2.heap.size, 0, none⟩) { W2 with heap := W2.heap.push (.mapIter (some W.heap.size) c2 #[] c2) } (range_h uME rfl hk2) ?_
    have hxr : Ext [] W2.heap (W2.heap.push (.mapIter (some W.heap.size) c2 #[] c2)) := .push _
    have nrow : ∀ {z : List UInt8 × ((Option Addr × Nat × Nat) × List ME) × Nat}, z ∈ K → ∃ p, okP p ∧ z.1 = showP p ∧ z.2.1.2 = ms.filter (inDir p) ∧ z.2.1.2 ≠ [] := by
     intro z hz
     obtain ⟨p, hp, e⟩ := hR.key z hz
     have hg := mget_of_mem hoK.keys (k := z.1) (v := z.2.1) (c := z.2.2) hz
     have h := hR.get p hp
     rw [← e, hg] at h
     exact ⟨p, hp, e, h.1, h.2⟩
    refine loopP_ix (fun k (_ : Unit) W3 => ∃ (seen : Array Nat) (last : Nat) (K3 : KM), Ext [] H W3.heap ∧ W2.heap.size < W3.heap.size ∧ W3.heap[W.heap.size]? = some (.map (ents keyS (vl evK K3)) c2) ∧ W3.heap[W2.heap.size]? = some (.mapIter (some W.heap.size) c2 seen last) ∧ c2 ≤ last ∧ MOk (fun _ => True) K3 c2 ∧ Rows3 W3.heap (W.heap.size + 1) K K3 seen ∧ k = (K3.filter fun y => !seen.contains y.2.2).length)
     (K.filter fun y => !(#[] : Array Nat).contains y.2.2).length ?_ ?_
    ·exact ⟨#[], c2, K, hxH2.trans hxr, by simp, push_old hk2, push_new, Nat.le_refl _, hoK, ⟨rfl, fun z hz => ⟨z, hz, rfl, rfl, .refl _⟩, fun z hz => (hR.row z hz).ext hxr (by simp), fun z _ h => by simp at h⟩, rfl⟩
    rintro k _ W3 ⟨seen, last, K3, hx3, hs3, hk3, hi3, hcl, hoK3, hR3, rfl⟩ Kk hKk
    rcases next_v (P := P) (ty := y_tuple_bcd8b0) rfl hk3 hi3 (fun x hx => hoK3.old x hx) hcl with ⟨hall, W4, hnx, hc4, hh4⟩ | ⟨x, hx, hns, W4, hnx, hc4, hh4⟩
    ·refine genL_of (s := .any) _ W4 hnx ?_ hc4
     refine exV_of (s := .bool) false rfl rfl ?_
     refine iteP_f rfl ?_
     have hget3 : ∀ {p v}, okP p → mget K3 (showP p) = some v → v.2.length ≤ 64 ∧ v.2.Pairwise (fun a b => ¬ cmpP (nm b.f) (nm a.f) < 0) ∧ v.2.Perm (ms.filter (inDir p)) ∧ Mine W3.heap (W.heap.size + 1) y_tree_entry 4 v.1 (v.2.flatMap encE) := by
      intro p v hp hg
      obtain ⟨c, hc⟩ := mget_some_mem hg
      obtain ⟨z0, hz0, e1, _, hpm⟩ := hR3.from_ _ hc
      obtain ⟨p0, hp0', e0, h0, _⟩ := nrow hz0
      have : p0 = p := show_inj hp0' hp (by rw [← e0, e1])
      subst this
      obtain ⟨d1, d2⟩ := hR3.done _ hc (hall _ hc)
      exact ⟨d1, d2, by rw [← h0]; exact hpm, hR3.row _ hc⟩
     have hnone : ∀ {p}, okP p → mget K3 (showP p) = none → ms.filter (inDir p) = [] := by
      intro p hp hg
      have h1 : (mget K3 (showP p)).map evK = (mget K (showP p)).map evK := by rw [← mget_vl, ← mget_vl, hR3.vls]
      rw [hg] at h1
      have h2 : mget K (showP p) = none := by
       cases h : mget K (showP p) with
       | none => rfl
       | some u => rw [h] at h1; simp at h1
      have := hR.get p hp
      rw [h2] at this
      exact this
     have h8 : ¬ Bad8 (ms.map (·.f)) := by
      rintro ⟨f, hf, h⟩
      have hokp : okP (nm f).dropLast := by rw [List.dropLast_eq_take]; exact (nm_ok f).take _
      rw [← filter_kids hnem, List.length_map] at h
      cases hg : mget K3 (showP (nm f).dropLast) with
      | none => rw [hnone hokp hg] at h; simp at h
      | some v =>
       obtain ⟨d1, _, d3, _⟩ := hget3 hokp hg
       rw [← d3.length_eq] at h
       omega
     refine ⟨some W.heap.size, by rw [shape_0 h5 h4 h70 h8], by rw [hh4]; exact hx3, fun _ => ⟨W.heap.size, rfl, K3, c2, by rw [hh4]; exact hk3, hoK3, fun p hp => ?_⟩⟩
     cases hg : mget K3 (showP p) with
     | none =>
      have h1 := hnone hp hg
      have h2 : kids (ms.map (·.f)) p = [] := by rw [← filter_kids hnem, h1]; rfl
      have h3 := kids_perm (sortF_spec hnd).1 p
      rw [h2] at h3
      exact h3.eq_nil
     | some v =>
      obtain ⟨d1, d2, d3, d4⟩ := hget3 hp hg
      refine ⟨sorted_kids d3 (filter_kids hnem) hnd d2, ?_, fun m hm => ?_⟩
      ·rw [hh4]; exact d4.mono (Nat.zero_le _)
      ·have hmm : m ∈ ms := (List.mem_filter.1 (d3.mem_iff.1 hm)).1
       rw [hh4]; exact Mine.ext (hN m hmm) hx3 (by simp)
    ·refine genL_of (s := .any) _ W4 hnx ?_ hc4
     refine exV_of (s := .bool) true rfl rfl ?_
     refine iteP_t rfl ?_
     have hilt := lt_of_get hi3
     have hx34 : Ext [W2.heap.size] W3.heap W4.heap := by rw [hh4]; exact Ext.set _ (by simp)
     have hi4 : W4.heap[W2.heap.size]? = some (.mapIter (some W.heap.size) c2 (seen.push x.2.2) c2) := by rw [hh4]; exact Array.getElem?_setIfInBounds_self_of_lt hilt
     have hk4 := hx34.get hk3 (by simp; omega)
     refine genQ_of (s := .any) _ (entry_v (last := c2) rfl hk4 hi4 hx hoK3) ?_
     refine exV_of (s := .slc) x.2.1.1 rfl rfl ?_
     have hrow3 := hR3.row x hx
     have hrow4 : Mine W4.heap (W.heap.size + 1) y_tree_entry 4 x.2.1.1 (x.2.1.2.flatMap encE) := hrow3.ext hx34 (fun b hb h => by
      simp at h; subst h
      obtain ⟨_, c', T', fr', hcell⟩ := mine_lt hrow3 _ hb
      rw [hi3] at hcell; cases hcell)
     have hxl : x.2.1.1.2.1 = x.2.1.2.length := by have := hrow3.len; rw [length_flatMap_k encE len_encE] at this; omega
     obtain ⟨z0, hz0, e1, e2, hpm⟩ := hR3.from_ x hx
     obtain ⟨p0, hp0', e0, h0, h0n⟩ := nrow hz0
     have hH34 : Ext [] H W4.heap := hx3.own hx34 (by intro c hc hlt; simp at hc; omega)
     refine iteP_dec (fun hbig => ?_) (fun hsmall => ?_)
     ·have h8 : Bad8 (ms.map (·.f)) := by
       obtain ⟨m, hm⟩ := List.exists_mem_of_ne_nil _ h0n
       rw [h0] at hm
       obtain ⟨h1, h2⟩ := List.mem_filter.1 hm
       refine ⟨m.f, List.mem_map.2 ⟨m, h1, rfl⟩, ?_⟩
       have : (nm m.f).dropLast = p0 := by simpa [inDir] using h2
       rw [this, ← filter_kids hnem, List.length_map, ← h0, ← hpm.length_eq]
       omega
      exact ⟨none, by rw [shape_8 h5 h4 h70 h8], hH34, fun h => by rw [shape_8 h5 h4 h70 h8] at h; cases h⟩
     ·have hes : ∀ m ∈ x.2.1.2, NamesW W4.heap m := fun m hm => by
       have hm2 := hpm.mem_iff.1 hm
       rw [h0] at hm2
       exact Mine.ext (hN m (List.mem_filter.1 hm2).1) hH34 (by simp)
      have hne2 : x.2.1.2 ≠ [] := fun h => h0n (by rw [h] at hpm; exact hpm.nil_eq.symm)
      refine callF_of (l := []) (esort_c rfl hrow4 hes hne2 (by omega)) ?_
      rintro e W5 ⟨rfl, ys, hys, hso, hm5, hx45⟩
      refine ⟨(), rfl, ?_⟩
      have hii : W2.heap.size ∉ ownM x.2.1.1 := fun h => by
       obtain ⟨_, c', T', fr', hcell⟩ := mine_lt hrow4 _ h
       rw [hi4] at hcell; cases hcell
      have hkk : W.heap.size ∉ ownM x.2.1.1 := fun h => by have := ownM_ge hrow4 _ h; omega
      have hi5 := hx45.get hi4 hii
      have hk5 := hx45.get hk4 hkk
      have s5 := hx45.1
      have s4 := hx34.1
      obtain ⟨K4, hK4⟩ : ∃ K4 : KM, K4 = K3.map fun z => (z.1, (if z.2.2 = x.2.2 then (z.2.1.1, ys) else z.2.1), z.2.2) := ⟨_, rfl⟩
      have hvl : vl evK K4 = vl evK K3 := by
       rw [hK4]
       unfold vl
       rw [List.map_map]
       apply List.map_congr_left
       intro z _
       simp only [Function.comp]
       split <;> rfl
      have hoK4 : MOk (fun _ => True) K4 c2 := by rw [hK4]; exact MOk.map_val hoK3 _
      have hcount : (K4.filter fun y => !(seen.push x.2.2).contains y.2.2).length = (K3.filter fun y => !(seen.push x.2.2).contains y.2.2).length := by
       rw [hK4, List.filter_map, List.length_map]; rfl
      refine hKk _ _ _ (by rw [hcount]; exact left_lt hx hns) ⟨seen.push x.2.2, c2, K4, hH34.own hx45 (fun c hc hlt => by have := ownM_ge hrow4 c hc; omega), by omega, by rw [hvl]; exact hk5, hi5, Nat.le_refl _, hoK4, ⟨hvl.trans hR3.vls, fun z hz => ?_, fun z hz => ?_, fun z hz hin => ?_⟩, rfl⟩
      ·rw [hK4] at hz
       obtain ⟨y, hy, rfl⟩ := List.mem_map.1 hz
       obtain ⟨y0, hy0, f1, f2, f3⟩ := hR3.from_ y hy
       by_cases e : y.2.2 = x.2.2
       ·have hyx : y = x := Go.Fw.born_inj hoK3 hy hx e
        subst hyx
        exact ⟨y0, hy0, f1, by simp only [if_pos]; exact f2, by simp only [if_pos]; exact hys.trans f3⟩
       ·exact ⟨y0, hy0, f1, by simp only [if_neg e]; exact f2, by simp only [if_neg e]; exact f3⟩
      ·rw [hK4] at hz
       obtain ⟨y, hy, rfl⟩ := List.mem_map.1 hz
       by_cases e : y.2.2 = x.2.2
       ·have hyx : y = x := Go.Fw.born_inj hoK3 hy hx e
        subst hyx
        simp only [if_pos]
        exact hm5
       ·simp only [if_neg e]
        have hr4 : Mine W4.heap (W.heap.size + 1) y_tree_entry 4 y.2.1.1 (y.2.1.2.flatMap encE) := (hR3.row y hy).ext hx34 (fun b hb h => by
         simp at h; subst h
         obtain ⟨_, c', T', fr', hcell⟩ := mine_lt (hR3.row y hy) _ hb
         rw [hi3] at hcell; cases hcell)
        refine hr4.ext hx45 ?_
        obtain ⟨y0, hy0, f1, f2, _⟩ := hR3.from_ y hy
        have hne1 : y0.1 ≠ z0.1 := fun h => by
         rw [f1, e1] at h
         exact e (by rw [Go.Fw.key_inj hoK3 hy hx h])
        have := hR.apart y0 hy0 z0 hz0 hne1
        rw [f2, e2] at this
        exact this
      ·rw [hK4] at hz
       obtain ⟨y, hy, rfl⟩ := List.mem_map.1 hz
       by_cases e : y.2.2 = x.2.2
       ·have hyx : y = x := Go.Fw.born_inj hoK3 hy hx e
        subst hyx
        simp only [if_pos]
        exact ⟨by rw [hys.length_eq]; omega, hso⟩
       ·simp only [if_neg e]
        refine hR3.done y hy ?_
        rcases Array.mem_push.1 hin with h | h
        ·exact h
        ·exact absurd h e
end Go.Proofs.YtbmegmbnlajbbaaGreatDoor
namespace Go.Proofs.YtbmegmbnlajbbaaGreatDoor
open Go Go.Fw Go.Proofs Go.Sort
noncomputable def chkCode (L : List Fil) : Int := if parseCode L ≠ 0 then parseCode L else shapeCode L
def treeB (L : List Fil) : List (List UInt8) × List UInt8 := dirB (sortF L) 9 []
theorem treeB_def {L : List Fil} : treeB L = dirB (sortF L) 9 [] := rfl
attribute [irreducible] treeB
def PutAns (pre : Int) (q : Int) (r : Bl.SM) (bl : List (List UInt8) × List UInt8) (code : Int) (d : List UInt8) (r' : Bl.SM) : Prop :=
 (pre ≠ 0 → code = pre ∧ d = Bl.nought ∧ r' = r) ∧ (pre = 0 → Bl.PutRes q r bl.1 code r' ∧ d = if code = 0 then bl.2 else Bl.nought)
theorem zc_slc : zc P y_S_S_uint8 = #[.slice none 0 0] := by kernel_rfl
theorem zc_map : zc P y_M_string_S_tree_entry = #[.map none] := by kernel_rfl
theorem zc_fn : (zc P y_func_9d2e5c).size = 1 := by kernel_rfl
theorem sz_fn : P.cellsOf y_func_9d2e5c = 1 := by kernel_rfl
theorem parse_0 {L : List Fil} (h : parseCode L = 0) : ∀ f ∈ L, f.data.length ≤ 1024 := by
 unfold parseCode at h
 split at h
 ·rename_i h1; exact absurd h h1
 ·split at h
  ·cases h
  ·split at h
   ·cases h
   ·rename_i h2
    intro f hf
    have : bigF f = false := by
     rw [← Bool.not_eq_true]
     exact fun hb => h2 (List.any_eq_true.2 ⟨f, hf, hb⟩)
    simpa [bigF] using this
theorem shape_ok {L : List Fil} (h : shapeCode L = 0) : ¬ Bad5 L ∧ ¬ Bad8 L := by
 unfold shapeCode at h
 by_cases h5 : Bad5 L
 ·rw [if_pos h5] at h; cases h
 ·rw [if_neg h5] at h
  by_cases h4 : Bad4 L
  ·rw [if_pos h4] at h; cases h
  ·rw [if_neg h4] at h
   by_cases h70 : Bad70 L
   ·rw [if_pos h70] at h; cases h
   ·rw [if_neg h70] at h
    by_cases h8 : Bad8 L
    ·rw [if_pos h8] at h; cases h
    ·exact ⟨h5, h8⟩
theorem treeB_len {L : List Fil} (h5 : ¬ Bad5 L) (hd : ∀ f ∈ L, f.data.length ≤ 1024) : (treeB L).1.length ≤ 1 + 18 * L.length := by
 obtain ⟨hp, hr⟩ := sortF_spec (nodup_of h5).1
 have h := dirB_len hr (fun f hf => hd f (hp.mem_iff.1 hf)) 9 []
 have h2 := List.length_filter_le (fun f => withinP (nm f) [] && decide ((([] : Path)).length < (nm f).length)) (sortF L)
 have h3 := hp.length_eq
 rw [treeB_def]
 omega
theorem zero_ret {w : World} {H : Heap} {b : Nat} {R : Array Value → World → Prop} (hw : w.heap = H) (hb : H[b]? = some (.cells (zc P y_api_Digest) y_api_Digest (0, 0))) (hR : ∀ w', Ext [b] H w'.heap → R (byteCells Bl.nought).toArray w') :
  genQ P (Instr.build y_api_Digest #[]) .any w fun (t : Value) => genU P (storeVar y_api_Digest (⟨b, 0, none⟩ : Addr) t) w fun w2 => ldA P 32 (⟨b, 0, none⟩ : Addr) w2 fun t4 => R t4 w2 := by
 refine genQ_of (s := .any) (arr Bl.nought) (Bl.b27 _) ?_
 refine stD0 Bl.len_nought hw hb zcD fun w2 hw2 => ?_
 have hb2 : w2.heap[b]? = some (.cells (byteCells Bl.nought).toArray y_api_Digest (0, 0)) := by rw [hw2]; exact set_new hb
 refine ldA_all rfl hb2 (by simp [Bl.len_nought]) ?_
 exact hR w2 (by rw [hw2]; exact Ext.set _ (by simp))
set_option maxHeartbeats 1000000 in
theorem tbuild_c {w : World} {H : Heap} {fp : List Nat} {p : Nat} {q : Int} {r : Bl.SM} {c : Nat} {a : Option Addr} {n nc : Nat} {L : List Fil} (hw : w.heap = H) (hS : Bl.Store H fp p q r c) (hfp : ∀ b ∈ fp, b < H.size) (hRo : Bl.Rounds H) (h0 : 0 ∉ fp)
  (hL : Cells H a (L.flatMap encF)) (hn : n = L.length) (hm : L.length ≤ 65536) (hb : Bl.total r < 1000000000000) (hq : 0 ≤ q) (hq2 : q ≤ 9223372036854775807) (hlen : ∀ k L, Bl.vget r k = some L → L.length < 1099511627776) :
  CallF P F_tree_Build #[.pointer (some ⟨p, 0, none⟩), .slice a n nc] w fun e w' => ∃ code d r' c' fp', e = .returned (.tuple #[arr d, .int .i64 code]) ∧ d.length = 32 ∧ Bl.Store w'.heap fp' p q r' c' ∧ Ext fp H w'.heap ∧ (∀ b ∈ fp', b < w'.heap.size) ∧ (∀ b ∈ fp', b ∈ fp ∨ H.size ≤ b) ∧
   PutAns (chkCode L) q r (treeB L) code d r' ∧ Bl.total r' ≤ Bl.total r + 4096 * (1 + 18 * L.length) := by
 refine fn_tree_Build ?_
 unfold T_tree_Build
 have hpl := hS.lt
 have hH0 : 0 < H.size := by obtain ⟨_, _, _, h, _⟩ := hRo; exact lt_of_get h
 refine newB_h hw fun w1 hw1 => ?_
 have hx1 : Ext [] H w1.heap := by rw [hw1]; exact .push _
 have hd1 : w1.heap[H.size]? = some (.cells (zc P y_api_Digest) y_api_Digest (0, 0)) := by rw [hw1]; exact push_new
 refine iteP_f rfl ?_
 refine callF_of (tparse_c rfl (hL.ext hx1 (by simp)) hn hm) ?_
 rintro e w3 ⟨x, rfl, hx3, h3⟩
 refine ⟨(x, parseCode L), rfl, ?_⟩
 have hd3 := hx3.get hd1 (by simp)
 have hx03 := hx1.trans hx3
 have hn0 : ∀ {w' : World} {H' : Heap}, H.size ≤ H'.size → Ext [] H H' → Ext [H.size] H' w'.heap → Ext fp H w'.heap := fun _ hxa hxb => (hxa.mono (by simp)).own hxb (fun c hc hlt => by simp at hc; omega)
 have bad : ∀ {H' : Heap} {w' : World} {code : Int}, code ≠ 0 → chkCode L = code → Ext [] H H' → Ext [H.size] H' w'.heap → ∃ code' d r' c' fp', Ending.returned (.tuple #[arr Bl.nought, .int .i64 code]) = .returned (.tuple #[arr d, .int .i64 code']) ∧ d.length = 32 ∧ Bl.Store w'.heap fp' p q r' c' ∧ Ext fp H w'.heap ∧ (∀ b ∈ fp', b < w'.heap.size) ∧ (∀ b ∈ fp', b ∈ fp ∨ H.size ≤ b) ∧
   PutAns (chkCode L) q r (treeB L) code' d r' ∧ Bl.total r' ≤ Bl.total r + 4096 * (1 + 18 * L.length) := by
  intro H' w' code h0' hc hxa hxb
  have hxx : Ext fp H w'.heap := (hxa.mono (by simp)).own hxb (fun c hc hlt => by simp at hc; omega)
  have hsz := hxx.1
  refine ⟨code, Bl.nought, r, c, fp, rfl, Bl.len_nought, (hS.ext hxa (by simp)).ext hxb (fun b hb h => by simp at h; have := hfp b hb; omega), hxx, fun b hb => by have := hfp b hb; omega, fun b hb => .inl hb, ⟨fun _ => ⟨hc.symm, rfl, rfl⟩, fun h => absurd (hc.symm.trans h) h0'⟩, by omega⟩
 refine iteP_ne (fun hc => ?_) (fun hc => ?_)
 ·exact zero_ret rfl hd3 fun w4 hx4 => bad hc (by simp only at hc; rw [chkCode, if_pos hc]) hx03 hx4
 simp only at hc
 have hchk : chkCode L = shapeCode L := by rw [chkCode, if_neg (by simpa using hc)]
 obtain ⟨ms, rfl, hm3, hN3⟩ := h3 hc
 simp only [List.length_map] at *
 have hxl : x.2.1 = ms.length := by
  have := hm3.len
  rw [length_flatMap_k encE len_encE] at this
  omega
 refine callF_of (tshape_c (ms := ms) rfl hm3.cells hxl hm hN3) ?_
 rintro e w5 ⟨v, rfl, hx5, h5⟩
 refine ⟨(v, shapeCode (ms.map (·.f))), rfl, ?_⟩
 have hx05 := hx03.trans hx5
 have hd5 := hx5.get hd3 (by simp)
 refine newB_h rfl fun w6 hw6 => ?_
 have hx6 : Ext [] w5.heap w6.heap := by rw [hw6]; exact .push _
 have hb6 : w6.heap[w5.heap.size]? = some (.cells #[.map none] y_M_string_S_tree_entry (0, 0)) := by rw [hw6, zc_map]; exact push_new
 refine stC_h rfl hb6 (by simp) fun w7 hw7 => ?_
 have hx7 : Ext [] w5.heap w7.heap := by rw [hw7]; exact hx6.set_own (.inl (Nat.le_refl _))
 have hb7 : w7.heap[w5.heap.size]? = some (.cells #[.map v] y_M_string_S_tree_entry (0, 0)) := by rw [hw7]; exact set_new hb6
 have hx07 := hx05.trans hx7
 have hd7 := hx7.get hd5 (by simp)
 refine iteP_ne (fun hs => ?_) (fun hs => ?_)
 ·exact zero_ret rfl hd7 fun w8 hx8 => bad hs hchk hx07 hx8
 simp only at hs
 obtain ⟨mk, rfl, hK5⟩ := h5 hs
 obtain ⟨n5, n8⟩ := shape_ok hs
 have hdl := parse_0 hc
 obtain ⟨hperm, hrise⟩ := sortF_spec (nodup_of n5).1
 refine newB_h rfl fun w9 hw9 => ?_
 have hx9 : Ext [] w7.heap w9.heap := by rw [hw9]; exact .push _
 have hb9 : w9.heap[w7.heap.size]? = some (.cells #[slcV (none, 0, 0)] y_S_S_uint8 (0, 0)) := by rw [hw9, zc_slc]; exact push_new
 refine newB_h rfl fun w10 hw10 => ?_
 have hx10 : Ext [] w9.heap w10.heap := by rw [hw10]; exact .push _
 have hf10 : w10.heap[w9.heap.size]? = some (.cells (zc P y_func_9d2e5c) y_func_9d2e5c (0, 0)) := by rw [hw10]; exact push_new
 refine genQ_of (s := .any) (dirFn w5.heap.size w9.heap.size w7.heap.size) rfl ?_
 have s1 := lt_of_get hd1
 have s5 := hx03.1
 have s6 := lt_of_get hb7
 have s9 := lt_of_get hb9
 have s10 := lt_of_get hf10
 have sx5 := hx5.1
 have sx3 := hx3.1
 have hx010 := (hx07.trans hx9).trans hx10
 refine storeVar_h (v := dirFn w5.heap.size w9.heap.size w7.heap.size) (by rw [sz_fn]; rfl) (by simp [Value.cells, dirFn]) (by intro v hv; simp [Value.cells, dirFn] at hv; subst hv; rfl) rfl hf10 (by rw [zc_fn]; simp [Value.cells, dirFn]) fun w11 hw11 => ?_
 have hset : setCells (zc P y_func_9d2e5c) 0 (dirFn w5.heap.size w9.heap.size w7.heap.size).cells.toList = #[dirFn w5.heap.size w9.heap.size w7.heap.size] := by
  rw [setCells_all (by rw [zc_fn]; rfl)]; rfl
 rw [hset] at hw11
 have hx1011 : Ext [w9.heap.size] w10.heap w11.heap := by rw [hw11]; exact Ext.set _ (by simp)
 have hx911 : Ext [] w9.heap w11.heap := by rw [hw11]; exact hx10.set_own (.inl (Nat.le_refl _))
 have hf11 : w11.heap[w9.heap.size]? = some (.cells #[dirFn w5.heap.size w9.heap.size w7.heap.size] y_func_9d2e5c (0, 0)) := by rw [hw11]; exact set_new hf10
 refine ld_h (s := .any) (t := dirFn w5.heap.size w9.heap.size w7.heap.size) rfl hf11 rfl ?_
 have hx711 := hx9.trans hx911
 have hx511 := hx7.trans hx711
 have hx011 := hx05.trans hx511
 have hD11 : DirSt w11.heap w5.heap.size w9.heap.size w7.heap.size mk w11.heap.size (sortF (ms.map (·.f))) (none, 0, 0) [] :=
  ⟨hx711.get hb7 (by simp), hf11, hx911.get hb9 (by simp), hK5.keep hx511 (by simp), .nil, hRo.ext hx011 (by simp), by omega⟩
 have s11 := hx911.1
 have hlen1 := treeB_len n5 hdl
 simp only [List.length_map] at hlen1
 refine callV_func (args := #[.string (strOf (showP []))]) ?_
 refine (dir_c (sortF (ms.map (·.f))) (fun f hf => hdl f (hperm.mem_iff.1 hf)) hrise (fun p => kids_len n5 n8 p) 9 (w := w11) (p := []) rfl hD11 (by omega) (Nat.le_refl _) (by simp [okP]) (by simp) (by rw [treeB_def] at hlen1; rw [List.length_nil]; omega)).mono ?_
 rintro e w12 ⟨x2, rfl, hD12, hx12, hs12⟩
 rw [← treeB_def] at hD12 ⊢
 have h32 : (treeB (ms.map (·.f))).2.length = 32 := by rw [treeB_def]; exact dirB_32
 generalize treeB (ms.map (·.f)) = T at *
 refine ⟨arr T.2, rfl, ?_⟩
 have hbl : BlobsW w12.heap w11.heap.size x2 T.1 := hD12.blobs
 refine newB_h rfl fun w13 hw13 => ?_
 have hx13 : Ext [] w12.heap w13.heap := by rw [hw13]; exact .push _
 have hd13 : w13.heap[w12.heap.size]? = some (.cells (zc P y_api_Digest) y_api_Digest (0, 0)) := by rw [hw13]; exact push_new
 refine stD0 (k := T.2) h32 rfl hd13 zcD fun w14 hw14 => ?_
 have hx14 : Ext [] w12.heap w14.heap := by rw [hw14]; exact hx13.set_own (.inl (Nat.le_refl _))
 have hd14 : w14.heap[w12.heap.size]? = some (.cells (byteCells T.2).toArray y_api_Digest (0, 0)) := by rw [hw14]; exact set_new hd13
 refine ld_h (s := .slc) (t := x2) rfl (hx14.get hD12.b (by simp)) rfl ?_
 have hx012 : Ext [] H w12.heap := hx011.own hx12 (fun b hb hlt => by
  rcases List.mem_cons.1 hb with h | h
  ·omega
  ·simp [ownM] at h)
 have hx014 := hx012.trans hx14
 have s12 := hx12.1
 have s14 := hx14.1
 have hS14 := hS.ext hx014 (by simp)
 have htot : Bl.total r + 4096 * T.1.length < 1125899906842624 := by omega
 refine callF_of (Bl.putall_c rfl hS14 (fun b hb => by have := hfp b hb; have := hx014.1; omega) (hRo.ext hx014 (by simp)) h0 ((hbl.ext hx14 (by simp)).rows) htot hq hq2 hlen) ?_
 rintro e w15 ⟨code, r', c', fp', rfl, hS15, hx15, hf1, hf2, hP, ht⟩
 refine ⟨code, rfl, ?_⟩
 have s014 := hx014.1
 have nfp : ∀ {b : Nat}, H.size ≤ b → b ∉ fp := fun h hb => by have := hfp _ hb; omega
 have hd14' : w14.heap[H.size]? = some (.cells (zc P y_api_Digest) y_api_Digest (0, 0)) := hx14.get (hx12.get (hx711.get hd7 (by simp)) (by simp [ownM]; omega)) (by simp)
 have hd15 := hx15.get hd14' (nfp (Nat.le_refl _))
 have he15 := hx15.get hd14 (nfp (by omega))
 have hx015 : Ext fp H w15.heap := (hx014.mono (by simp)).trans hx15
 have s15 := hx15.1
 have fin : ∀ {w' : World} {d : List UInt8}, Ext [H.size] w15.heap w'.heap → d.length = 32 → d = (if code = 0 then T.2 else Bl.nought) → ∃ code' d' r'' c'' fp'', Ending.returned (.tuple #[arr d, .int .i64 code]) = .returned (.tuple #[arr d', .int .i64 code']) ∧ d'.length = 32 ∧ Bl.Store w'.heap fp'' p q r'' c'' ∧ Ext fp H w'.heap ∧ (∀ b ∈ fp'', b < w'.heap.size) ∧ (∀ b ∈ fp'', b ∈ fp ∨ H.size ≤ b) ∧
   PutAns (chkCode (ms.map (·.f))) q r T code' d' r'' ∧ Bl.total r'' ≤ Bl.total r + 4096 * (1 + 18 * ms.length) := by
  intro w' d hxb hdl' hd'
  have s' := hxb.1
  refine ⟨code, d, r', c', fp', rfl, hdl', hS15.ext hxb (fun b hb h => ?_), hx015.own hxb (fun c hc hlt => by simp at hc; omega), fun b hb => by have := hf1 b hb; omega, fun b hb => ?_, ⟨fun h => absurd (hchk.trans hs) h, fun _ => ⟨hP, hd'⟩⟩, by omega⟩
  ·simp at h; subst h
   rcases hf2 _ hb with h | h
   ·exact nfp (Nat.le_refl _) h
   ·omega
  ·rcases hf2 _ hb with h | h
   ·exact .inl h
   ·right; omega
 refine iteP_ne (fun h1 => ?_) (fun h1 => ?_)
 ·exact zero_ret rfl hd15 fun w16 hx16 => fin hx16 Bl.len_nought (by rw [if_neg h1])
 ·refine ldA_all rfl he15 (by simp [h32]) ?_
  refine stD0 (k := T.2) h32 rfl hd15 zcD fun w17 hw17 => ?_
  have hx17 : Ext [H.size] w15.heap w17.heap := by rw [hw17]; exact Ext.set _ (by simp)
  have hd17 : w17.heap[H.size]? = some (.cells (byteCells T.2).toArray y_api_Digest (0, 0)) := by rw [hw17]; exact set_new hd15
  refine ldA_all rfl hd17 (by simp [h32]) ?_
  subst h1
  exact fin hx17 h32 (by rw [if_pos rfl])
end Go.Proofs.YtbmegmbnlajbbaaGreatDoor
namespace Go.Proofs.YtbmegmbnlajbbaaGreatDoor
open Go Go.Fw Go.Proofs Go.Sort
end Go.Proofs.YtbmegmbnlajbbaaGreatDoor
namespace Go.Proofs.YtbmegmbnlajbbaaGreatDoor
open Go Go.Fw Go.Proofs Go.Sort
theorem lenF (S : List Fil) : (S.flatMap encF).length = S.length * 3 := by rw [length_flatMap_k encF len_encF]
abbrev NR := (Option Addr × Nat × Nat) × Path
def encR (y : NR) : List Value := [slcV y.1]
theorem row_flat (ys : List NR) : ys.flatMap encR = ys.map fun y => slcV y.1 := by
 induction ys with
 | nil => rfl
 | cons y ys ih => rw [List.flatMap_cons, ih]; rfl
def PathW (H : Heap) (y : NR) : Prop := Mine H 0 y_string 1 y.1 (strRow y.2)
end Go.Proofs.YtbmegmbnlajbbaaGreatDoor
namespace Go.Proofs.YtbmegmbnlajbbaaGreatDoor
open Go Go.Fw Go.Proofs Go.Sort
def PathsW (H : Heap) (B : Nat) (x : Option Addr × Nat × Nat) (ps : List Path) : Prop :=
 ∃ ys : List NR, Mine H B y_S_string 1 x (ys.flatMap encR) ∧ ys.map (·.2) = ps ∧ ∀ y ∈ ys, PathW H y
theorem PathsW.nil {H : Heap} {B : Nat} : PathsW H B (none, 0, 0) [] := ⟨[], .inl ⟨rfl, rfl⟩, rfl, by simp⟩
theorem lenR (ys : List NR) : (ys.flatMap encR).length = ys.length := by rw [row_flat]; simp
theorem PathsW.len {H : Heap} {B : Nat} {x : Option Addr × Nat × Nat} {ps : List Path} (h : PathsW H B x ps) : x.2.1 = ps.length := by
 obtain ⟨ys, h1, h2, _⟩ := h
 have := h1.len
 rw [lenR] at this
 rw [← h2]; simp; omega
theorem PathsW.ext {H H' : Heap} {B : Nat} {x : Option Addr × Nat × Nat} {ps : List Path} (h : PathsW H B x ps) (hx : Ext [] H H') : PathsW H' B x ps := by
 obtain ⟨ys, h1, h2, h3⟩ := h
 exact ⟨ys, h1.ext hx (by simp), h2, fun y hy => Mine.ext (h3 y hy) hx (by simp)⟩
theorem PathsW.cap {H : Heap} {B : Nat} {x : Option Addr × Nat × Nat} {ps : List Path} (h : PathsW H B x ps) : x.2.1 ≤ x.2.2 := by
 obtain ⟨ys, h1, _⟩ := h
 exact mine_cap h1
theorem PathW.len {H : Heap} {z : Option Addr × Nat × Nat} {p : Path} (h : PathW H (z, p)) : z.2.1 = p.length := by
 have := Mine.len h
 simp at this; omega
structure Seen (H : Heap) (a : Option Addr) (x : Option Addr × Nat × Nat) (ys : List NR) (L : List Fil) : Prop where
 row : Cells H a (L.flatMap encF)
 cells : Cells H x.1 (ys.flatMap encR)
 len : x.2.1 = ys.length
 cap : x.2.1 ≤ x.2.2
 path : ∀ y ∈ ys, PathW H y
 eq : ys.map (·.2) = L.map nm
theorem Seen.ext {H H' : Heap} {a : Option Addr} {x : Option Addr × Nat × Nat} {ys : List NR} {L : List Fil} (h : Seen H a x ys L) (hx : Ext [] H H') : Seen H' a x ys L :=
 ⟨h.row.ext hx (by simp), h.cells.ext hx (by simp), h.len, h.cap, fun y hy => Mine.ext (h.path y hy) hx (by simp), h.eq⟩
end Go.Proofs.YtbmegmbnlajbbaaGreatDoor
namespace Go.Proofs.YtbmegmbnlajbbaaGreatDoor
open Go Go.Fw Go.Proofs Go.Sort
theorem Seen.none {H : Heap} {a : Option Addr} {x : Option Addr × Nat × Nat} {ys : List NR} {L : List Fil} (h : Seen H a x ys L) {i : Nat} {p : Path} (hno : ∀ y ∈ ys.take i, y.2 ≠ p) : ∀ g ∈ L.take i, nm g ≠ p := by
 intro g hg e
 have h1 : (ys.take i).map (·.2) = (L.take i).map nm := by rw [List.map_take, h.eq, List.map_take]
 have : p ∈ (ys.take i).map (·.2) := by rw [h1]; exact List.mem_map.2 ⟨g, hg, e⟩
 obtain ⟨y, hy, e2⟩ := List.mem_map.1 this
 exact hno y hy e2
theorem Seen.small {H : Heap} {a : Option Addr} {x : Option Addr × Nat × Nat} {ys : List NR} {L : List Fil} (h : Seen H a x ys L) : ∀ y ∈ ys, y.2.length ≤ 8 := by
 intro y hy
 have : y.2 ∈ L.map nm := by rw [← h.eq]; exact List.mem_map.2 ⟨y, hy, rfl⟩
 obtain ⟨g, _, e⟩ := List.mem_map.1 this
 rw [← e]; exact (nm_ok g).2
theorem Seen.count {H : Heap} {a : Option Addr} {x : Option Addr × Nat × Nat} {ys : List NR} {L : List Fil} (h : Seen H a x ys L) : ys.length = L.length := by
 have := congrArg List.length h.eq
 simpa using this
end Go.Proofs.YtbmegmbnlajbbaaGreatDoor
namespace Go.Proofs.YtbmegmbnlajbbaaGreatDoor
open Go Go.Fw Go.Proofs Go.Sort
theorem chk_shape {L : List Fil} (h : parseCode L = 0) : chkCode L = shapeCode L := by unfold chkCode; rw [if_neg (by simpa using h)]
end Go.Proofs.YtbmegmbnlajbbaaGreatDoor
namespace Go.Proofs.YtbmegmbnlajbbaaGreatDoor
open Go Go.Fw Go.Proofs Go.Sort
end Go.Proofs.YtbmegmbnlajbbaaGreatDoor
namespace Go.Proofs.YtbmegmbnlajbbaaGreatDoor
open Go Go.Fw Go.Proofs Go.Sort
theorem fFl : (P.fieldsOf y_api_File).toList.map (fun f => (f.name, f.type, f.offset)) = [("Path", y_string, 0), ("Dir", y_bool, 1), ("Data", y_string, 2)] := by kernel_rfl
theorem uFl : P.underlying y_api_File = some (.struct (P.fieldsOf y_api_File)) := by kernel_rfl
theorem heldF : P.stoodInHeld y_api_File = false := by kernel_rfl
theorem guardF : P.eqGuardType P.depth y_api_File = false := by kernel_rfl
theorem uBoolF : P.underlying y_bool = some .bool := by kernel_rfl
theorem partF {cs : Array Value} {t : TypeId} {o : Nat} {v : Value} {w : World} (ha : (isAgg t).run P w = .ok false w) (hc : cs[o]? = some v) : (part t cs o).run P w = .ok v w := by
 simp [part, ha, hc]
theorem beqLF {a b : List UInt8} : (a == b) = decide (a = b) := by rw [Bool.eq_iff_iff]; simp
theorem eqFil {f : Fil} {w : World} : (Op.equalIn 10000 y_api_File (.agg (encF f).toArray) (.agg (encF f).toArray)).run P w = .ok true w := by
 rw [run_equalIn_agg w 9999 y_api_File _ _ uFl heldF]
 have hf := fFl
 generalize (P.fieldsOf y_api_File).toList = fs at hf
 have hl : fs.length = 3 := by simpa using congrArg List.length hf
 obtain ⟨f0, f1, f2, rfl⟩ : ∃ a b c, fs = [a, b, c] := by
  match fs, hl with
  | [a, b, c], _ => exact ⟨a, b, c, rfl⟩
 simp only [List.map_cons, List.map_nil, List.cons.injEq, Prod.mk.injEq, and_true] at hf
 obtain ⟨⟨n0, t0, o0⟩, ⟨n1, t1, o1⟩, n2, t2, o2⟩ := hf
 have e0 : ∀ w, (part f0.type (encF f).toArray f0.offset).run P w = .ok (.string (strOf f.path)) w := fun w => by rw [t0, o0]; exact partF (by kernel_rfl) rfl
 have e1 : ∀ w, (part f1.type (encF f).toArray f1.offset).run P w = .ok (.bool f.dir) w := fun w => by rw [t1, o1]; exact partF (by kernel_rfl) rfl
 have e2 : ∀ w, (part f2.type (encF f).toArray f2.offset).run P w = .ok (.string (strOf f.data)) w := fun w => by rw [t2, o2]; exact partF (by kernel_rfl) rfl
 have q0 : (Op.equalIn 9999 f0.type (.string (strOf f.path)) (.string (strOf f.path))).run P w = .ok true w := by rw [t0, run_equalIn_string w 9998 _ _ _ uStr, strOf_toList, beqLF]; simp
 have q1 : (Op.equalIn 9999 f1.type (.bool f.dir) (.bool f.dir)).run P w = .ok true w := by rw [t1, run_equalIn_bool' w 9998 _ _ _ uBoolF]; simp
 have q2 : (Op.equalIn 9999 f2.type (.string (strOf f.data)) (.string (strOf f.data))).run P w = .ok true w := by rw [t2, run_equalIn_string w 9998 _ _ _ uStr, strOf_toList, beqLF]; simp
 simp only [Op.eqFields, n0, n1, n2, ne_eq, String.reduceEq, not_false_eq_true, if_true, Sem.run_bind, e0, e1, e2, Result.andThen_ok, q0, q1, q2, Bool.not_true, Bool.false_eq_true, if_false, Sem.run_pure]
theorem neFil {x y : Operand} {f : Fil} {w : World} : (eqM .neq y_api_File x y (.agg (encF f).toArray) (.agg (encF f).toArray)).run P w = .ok (.bool false) w := by
 simp only [eqM, Sem.run_bind, run_eqGuard_agg w .neq y_api_File x y _ _ guardF, Result.andThen_ok, run_neq_struct w, eqFil, Bool.not_true]
theorem rfiles_c {w : World} {H : Heap} {a b : Option Addr} {n nc m mc : Nat} {L : List Fil} (hw : w.heap = H) (hA : Cells H a (L.flatMap encF)) (hn : n = L.length) (hB : Cells H b (L.flatMap encF)) (hm : m = L.length) (hL : L.length ≤ 1099511627776) :
  CallF P F_r07_Files #[.slice a n nc, .slice b m mc] w fun e w' => e = .returned (.bool true) ∧ w'.heap = H := by
 subst hn hm
 refine fn_r07_Files ?_
 unfold T_r07_Files
 refine iteP_f (by simp) ?_
 refine loopP_of (fun (s : Int) W => ∃ i : Nat, s = (i : Int) ∧ i ≤ L.length ∧ W.heap = H) (fun s _ => (L.length - s).toNat) ⟨0, rfl, Nat.zero_le _, hw⟩ ?_
 rintro _ W ⟨i, rfl, hi, hW⟩
 refine iteP_dec (fun hlt => ?_) (fun hge => ⟨rfl, hW⟩)
 have hil : i < L.length := by omega
 have hget := List.getElem?_eq_getElem hil
 generalize L[i] = f at hget
 refine drewP_h hW fun W1 hW1 => ?_
 refine Bl.elem_ix (i := i) len_encF (by omega) hA rfl hget rfl fun ba oa ca Ta fra _ hba hsa hca _ => ?_
 refine Bl.elem_ix (i := i) len_encF (by omega) hB rfl hget rfl fun b2 o2 c2 T2 fr2 _ hb2 hs2 hc2 _ => ?_
 have ext3 : ∀ {c : Array Value} {o : Nat}, o + 3 ≤ c.size → (∀ j, j < 3 → c[o + j]? = (encF f)[j]?) → c.extract o (o + 3) = (encF f).toArray := by
  intro c o hs hc
  apply Array.ext_getElem?
  intro j
  rw [Array.getElem?_extract]
  by_cases hj : j < 3
  ·rw [if_pos (by omega), hc j hj]; simp
  ·rw [if_neg (by omega), Array.getElem?_eq_none (by simp [len_encF]; omega)]
 refine ldA_h hW1 hba hsa ?_
 rw [ext3 hsa hca]
 refine ldA_h hW1 hb2 hs2 ?_
 rw [ext3 hs2 hc2]
 refine genQ_of (s := .bool) false neFil ?_
 refine iteP_f rfl ?_
 refine addI_to ((i + 1 : Nat) : Int) (by simp) (by omega) (by omega) ?_
 exact ⟨⟨i + 1, rfl, by omega, hW1⟩, by omega⟩
theorem few_c {w : World} {H : Heap} {b : Nat} {a : Option Addr} {n nc k : Nat} {T : TypeId} {fr : Nat × Nat} {L : List Fil} (hw : w.heap = H) (hb : H[b]? = some (.cells #[.slice a n nc] T fr)) (hA : Cells H a (L.flatMap encF)) (hn : n = L.length) (hL : L.length ≤ 9223372036854775807) :
  CallF P F_l07_Few #[.slice (some ⟨b, 0, none⟩) 1 k] w fun e w' => ∃ t, e = .returned (.bool t) ∧ w'.heap = H := by
 subst hn
 refine fn_l07_Few ?_
 unfold T_l07_Few
 refine loopP_of (fun (s : Int × Int) W => (s.2 = 0 ∨ s.2 = 1) ∧ W.heap = H) (fun s _ => (1 - s.2).toNat) ⟨.inl rfl, hw⟩ ?_
 rintro ⟨t, i⟩ W ⟨hi, hW⟩
 refine iteP_dec (fun hlt => ?_) (fun hge => ⟨_, rfl, hW⟩)
 have hlt : i < 1 := hlt
 have hi : i = 0 ∨ i = 1 := hi
 obtain rfl : i = 0 := by omega
 refine loopP_of (fun (s : Int × Int) W => ∃ j : Nat, s.2 = (j : Int) ∧ j ≤ L.length ∧ W.heap = H) (fun s _ => (L.length - s.2).toNat) ⟨0, rfl, Nat.zero_le _, hW⟩ ?_
 rintro ⟨t2, _⟩ W2 ⟨j, rfl, hj, hW2⟩
 refine ixS_1 0 rfl (by omega) ?_
 refine ld_h (s := .slc) (t := (a, L.length, nc)) hW2 hb rfl ?_
 refine iteP_dec (fun hlt2 => ?_) (fun hge2 => ?_)
 ·have hjl : j < L.length := by simp only at hlt2; omega
  have hget := List.getElem?_eq_getElem hjl
  generalize L[j] = f at hget
  refine ixS_1 0 rfl (by omega) ?_
  refine ld_h (s := .slc) (t := (a, L.length, nc)) hW2 hb rfl ?_
  refine Bl.elem_ix (i := j) len_encF (by omega) hA rfl hget rfl fun ba oa ca Ta fra _ hba hsa hca _ => ?_
  simp only [add_none]
  refine ld_h (s := .str) (t := strOf f.data) hW2 hba (hca 2 (by omega)) ?_
  refine ⟨_, rfl, _, rfl, ?_⟩
  refine addI_to ((j + 1 : Nat) : Int) (by simp) (by omega) (by omega) ?_
  exact ⟨⟨j + 1, rfl, by omega, hW2⟩, by omega⟩
 ·refine addI_to 1 (by simp) (by omega) (by omega) ?_
  exact ⟨⟨.inr rfl, hW2⟩, by simp⟩
end Go.Proofs.YtbmegmbnlajbbaaGreatDoor
namespace Go.Proofs.YtbmegmbnlajbbaaGreatDoor
open Go Go.Fw Go.Proofs Go.Sort
theorem vget_le {r : Bl.SM} {c : Nat} (h : MOk (fun L : List UInt8 => L.length = 32) r c) {k L : List UInt8} (hv : Bl.vget r k = some L) : L.length ≤ Bl.total r := by
 have h1 := Bl.total_upd h (k := k) (c' := 0) (v := ((none, 0, 0), []))
 have h2 : Bl.olen r k = L.length := by unfold Bl.olen; rw [hv]
 simp only [List.length_nil] at h1
 omega
theorem uSFs : P.underlying y_S_S_api_File = some (.slice y_S_api_File) := by kernel_rfl
theorem EFs : Elem P y_S_api_File 1 24 := elem_of (z := .slice none 0 0) (by kernel_rfl) rfl
end Go.Proofs.YtbmegmbnlajbbaaGreatDoor
namespace Go.Proofs.YtbmegmbnlajbbaaGreatDoor
open Go Go.Fw Go.Proofs Go.Sort
def dgS (s : Rest) : List UInt8 × Rest := match s with | none => (Bl.nought, none) | some R => if 32 ≤ R.length then (R.take 32, some (R.drop 32)) else (Bl.nought, none)
theorem dgS_32 {s : Rest} : (dgS s).1.length = 32 := by
 unfold dgS
 cases s with
 | none => exact Bl.len_nought
 | some R =>
  simp only
  split
  ·simp; omega
  ·exact Bl.len_nought
theorem slA {b : Nat} {w : World} : (Instr.sliceAt y_api_Digest (Value.pointer (some (⟨b, 0, none⟩ : Addr))) none none none).run P w = .ok (.slice (some ⟨b, 0, none⟩) 32 32) w := by
 rw [run_slice_arr (l := 0) (h := 32) Bl.u27 sz8 .no .no (by omega) (by omega)]
 simp [Addr.add]
theorem copyD {w : World} {H : Heap} {b : Nat} {c : Array Value} {T : TypeId} {y : Option Addr × Nat × Nat} {k : List UInt8} (hk : k.length ≤ 32) (hw : w.heap = H) (hb : H[b]? = some (.cells c T (0, 0))) (hs : c.size = 32) (hy : Cells H y.1 (byteCells k)) (hl : y.2.1 = k.length) {K : Int → World → Prop}
  (hK : ∀ n w', w'.heap = H.setIfInBounds b (.cells (setCells c 0 (byteCells k)) T (0, 0)) → K n w') :
  genL P (Builtin.copy_ #[y_S_uint8, y_S_uint8] y_int #[(Value.slice (some ⟨b, 0, none⟩) 32 32), (Value.slice y.1 y.2.1 y.2.2)]) (.int .i64) w K := by
 obtain ⟨w4, hrun, hcm4, hw4⟩ := copy_h (P := P) (w := w) (st := y_S_uint8) (xt := y_S_uint8) (ty := y_int) (od := 0) (dl := 32) (dc := 32) (sa := y.1) (sl := y.2.1) (sc := y.2.2) (vs := byteCells k) uS8 sz8 hw hy (by rw [hl]; simp; omega) one_byteCells hb (by rw [hs]; simpa using hk)
 exact genL_of _ w4 hrun (hK _ w4 hw4) hcm4
theorem zcD0 : zc P y_api_Digest = (byteCells Bl.nought).toArray := by kernel_rfl
theorem idig_c {w : World} {H : Heap} {b : Nat} {F : List Nat} {s : Rest} (hw : w.heap = H) (hI : InW H b F s) (hF : ∀ c ∈ F, c < H.size) :
  CallF P F_wire_In_Digest #[.pointer (some ⟨b, 0, none⟩)] w fun e w' => e = .returned (arr (dgS s).1) ∧ InW w'.heap b F (dgS s).2 ∧ Ext [b] H w'.heap := by
 have hbl := hI.lt
 refine fn_wire_In_Digest ?_
 unfold T_wire_In_Digest
 refine newB_h hw fun w1 hw1 => ?_
 have hx1 : Ext [] H w1.heap := by rw [hw1]; exact .push _
 have hb1 : w1.heap[H.size]? = some (.cells (zc P y_api_Digest) y_api_Digest (0, 0)) := by rw [hw1]; exact push_new
 refine newB_h rfl fun w2 hw2 => ?_
 have hx2 : Ext [] w1.heap w2.heap := by rw [hw2]; exact .push _
 have hb2 : w2.heap[w1.heap.size]? = some (.cells (zc P y_api_Digest) y_api_Digest (0, 0)) := by rw [hw2]; exact push_new
 refine drewP_h rfl fun w3 hw3 => ?_
 have hx3 : Ext [] H w3.heap := by rw [hw3]; exact hx1.trans hx2
 have hb3 : w3.heap[w1.heap.size]? = some (.cells (zc P y_api_Digest) y_api_Digest (0, 0)) := by rw [hw3]; exact hb2
 have hd3 : w3.heap[H.size]? = some (.cells (zc P y_api_Digest) y_api_Digest (0, 0)) := by rw [hw3]; exact hx2.get hb1 (by simp)
 have s1 := lt_of_get hb1
 have s3 := lt_of_get hb3
 have hI3 := hI.ext hx3 (by simp) (by simp)
 refine genQ_of (s := .slc) (some ⟨w1.heap.size, 0, none⟩, 32, 32) slA ?_
 have htake : CallF P F_wire_In_take #[.pointer (some ⟨b, 0, none⟩), .int .i64 32] w3 fun e w' => Ext [b] w3.heap w'.heap ∧ InW w'.heap b F (dgS s).2 ∧ ∃ y k, e = .returned (slcV y) ∧ Cells w'.heap y.1 (byteCells k) ∧ y.2.1 = k.length ∧ k.length ≤ 32 ∧ (∀ c ∈ ownM y, c ∈ F) ∧ setCells (zc P y_api_Digest) 0 (byteCells k) = (byteCells (dgS s).1).toArray := by
  have hnil : setCells (zc P y_api_Digest) 0 (byteCells []) = (byteCells Bl.nought).toArray := by rw [zcD0]; rfl
  cases s with
  | none =>
   obtain ⟨x, e, h1, h2, h3, h4⟩ := id hI3
   refine fn_wire_In_take ?_
   unfold T_wire_In_take
   refine joinP_in ?_
   refine iteP_f rfl ?_
   simp only [withAddr_some, add_none]
   refine ld_h (s := .int .i64) (t := e) rfl h1 rfl ?_
   refine iteP_t (by simpa using h4) ?_
   exact ⟨.refl _ _, hI3, (none, 0, 0), [], rfl, .inl rfl, rfl, by simp, by simp [ownM], hnil⟩
  | some R =>
   refine (itake_c (n := 32) rfl hI3 (by omega)).mono ?_
   rintro e w' ⟨hx, ⟨hl, rfl, h3⟩ | ⟨hl, y, rfl, hC, hy, ho, h3⟩⟩
   ·have e1 : dgS (some R) = (Bl.nought, none) := by unfold dgS; simp only; rw [if_neg (by omega)]
    rw [e1]
    exact ⟨hx, h3, (none, 0, 0), [], rfl, .inl rfl, rfl, by simp, by simp [ownM], hnil⟩
   ·have e1 : dgS (some R) = (R.take 32, some (R.drop 32)) := by unfold dgS; simp only; rw [if_pos hl]
    rw [e1]
    have hl32 : (R.take 32).length = 32 := by simp; omega
    exact ⟨hx, h3, y, R.take 32, rfl, hC, by rw [hl32, hy], by omega, ho, setCells_all (by rw [zcD]; simp [hl32])⟩
 refine callF_of htake ?_
 rintro e w4 ⟨hx4, hI4, y, k, rfl, hC, hyl, hk, ho, hset⟩
 refine ⟨y, rfl, ⟨genQ_of (s := .slc) (some ⟨w1.heap.size, 0, none⟩, 32, 32) slA rfl, ?_⟩⟩
 have hb4 := hx4.get hb3 (by simp; omega)
 have hd4 := hx4.get hd3 (by simp; omega)
 refine copyD hk rfl hb4 zcD hC hyl fun n w5 hw5 => ?_
 rw [hset] at hw5
 have hx5 : Ext [w1.heap.size] w4.heap w5.heap := by rw [hw5]; exact Ext.set _ (by simp)
 have hb5 : w5.heap[w1.heap.size]? = some (.cells (byteCells (dgS s).1).toArray y_api_Digest (0, 0)) := by rw [hw5]; exact set_new hb4
 refine ldA_all rfl hb5 (by simp [dgS_32]) ?_
 have hd5 := hx5.get hd4 (by simp; omega)
 refine stD0 (k := (dgS s).1) dgS_32 rfl hd5 zcD fun w6 hw6 => ?_
 have hx6 : Ext [H.size] w5.heap w6.heap := by rw [hw6]; exact Ext.set _ (by simp)
 have hd6 : w6.heap[H.size]? = some (.cells (byteCells (dgS s).1).toArray y_api_Digest (0, 0)) := by rw [hw6]; exact set_new hd5
 refine ldA_all rfl hd6 (by simp [dgS_32]) ?_
 refine ⟨rfl, ?_, ?_⟩
 ·refine (hI4.ext hx5 (by simp; omega) fun c hc h => ?_).ext hx6 (by simp; omega) fun c hc h => ?_
  ·simp at h; subst h; have := hF _ hc; omega
  ·simp at h; subst h; have := hF _ hc; omega
 ·have h03 : Ext [b] H w3.heap := hx3.mono (by simp)
  exact ((h03.trans hx4).own hx5 (fun c hc hlt => by simp at hc; omega)).own hx6 (fun c hc hlt => by simp at hc; omega)
end Go.Proofs.YtbmegmbnlajbbaaGreatDoor
