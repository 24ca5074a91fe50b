/- Paths are shown and compared. -/
import Derived.Test.YtbmegmbnlajbbaaGreatUc
namespace Go.Proofs.YtbmegmbnlajbbaaGreat
open Go Go.Fw Go.Proofs

def joinP : Path → List UInt8
  | [] => []
  | x :: xs => x ++ xs.flatMap fun L => 47 :: L
def showP (p : Path) : List UInt8 := 47 :: joinP p
def tlen (p : Path) : Nat := (p.map (·.length)).sum
theorem tlen_flat : ∀ {p : Path}, (p.flatMap fun L => (47 : UInt8) :: L).length = tlen p + p.length
  | [] => rfl
  | x :: p => by
    have := tlen_flat (p := p)
    simp only [List.flatMap_cons, List.length_append, List.length_cons, tlen, List.map_cons, List.sum_cons] at this ⊢
    omega
theorem tlen_join {x : List UInt8} {p : Path} : (joinP (x :: p)).length = tlen (x :: p) + p.length := by
  simp only [joinP, List.length_append, tlen_flat, tlen, List.map_cons, List.sum_cons]
  omega
theorem show_flat {x : List UInt8} {p : Path} : showP (x :: p) = (x :: p).flatMap fun L => 47 :: L := by simp [showP, joinP]
theorem tlen_take {p : Path} {i : Nat} (h : i < p.length) : tlen (p.take (i + 1)) = tlen (p.take i) + (p[i]).length := by
  unfold tlen
  rw [List.take_add_one, List.getElem?_eq_getElem h, List.map_append, List.sum_append]
  simp
theorem tlen_take_le {p : Path} {i : Nat} : tlen (p.take i) ≤ tlen p := by
  conv => rhs; rw [← List.take_append_drop i p]
  unfold tlen
  rw [List.map_append, List.sum_append]
  omega

set_option maxHeartbeats 4000000 in
theorem join_c {w : World} {H : Heap} {a : Option Addr} {n nc : Nat} {p : Path} (hw : w.heap = H) (hL : Cells H a (strRow p)) (hn : n = p.length) (hnc : n ≤ nc) (hlen : tlen p + p.length ≤ 1099511627776) :
    CallF P F_strings_Join #[.slice a n nc, .string (ByteArray.mk #[47])] w fun e w' => e = .returned (.string (strOf (joinP p))) ∧ Ext [] H w'.heap := by
  refine fn_strings_Join ?_
  unfold T_strings_Join
  have hsep : (ByteArray.mk #[47] : ByteArray) = strOf [47] := rfl
  have hsz : ((ByteArray.mk #[47] : ByteArray).size : Int) = 1 := rfl
  match p, hL, hn, hlen with
  | [], hL, hn, hlen =>
    subst hn
    exact iteP_t rfl ⟨rfl, by rw [hw]; exact .refl _ _⟩
  | [x], hL, hn, hlen =>
    subst hn
    refine iteP_f rfl ?_
    refine iteP_t rfl ?_
    refine strIx (i := 0) hw hL rfl (by simp) rfl ?_
    exact ⟨by simp [joinP], by rw [hw]; exact .refl _ _⟩
  | x :: y :: p, hL, hn, hlen =>
    generalize hq : x :: y :: p = q at *
    have hql : q.length = p.length + 2 := by rw [← hq]; simp
    have hjl : (joinP q).length = tlen q + (q.length - 1) := by rw [← hq, tlen_join]; simp
    refine iteP_f (by simp; omega) ?_
    refine iteP_f (by simp; omega) ?_
    refine joinP_of (fun (s : Int) W => s = ((q.length - 1 : Nat) : Int) ∧ W = w) ?_ ?_
    · refine iteP_t rfl ?_
      refine joinP_in ?_
      refine subI_to ((q.length - 1 : Nat) : Int) (by omega) (by omega) (by omega) ?_
      refine quoI_n 9223372036854775807 (q.length - 1) rfl rfl (by omega) (by omega) ?_
      have hdiv : 2 ≤ 9223372036854775807 / (q.length - 1) := by
        rw [Nat.le_div_iff_mul_le (by omega)]; omega
      refine iteP_dec (fun h => absurd h (by rw [hsz]; omega)) (fun _ => ?_)
      refine subI_to ((q.length - 1 : Nat) : Int) (by omega) (by omega) (by omega) ?_
      refine mulI_to ((q.length - 1 : Nat) : Int) (by rw [hsz]; omega) (by omega) (by omega) ?_
      refine addI_to ((q.length - 1 : Nat) : Int) (by omega) (by omega) (by omega) ?_
      exact ⟨rfl, rfl⟩
    rintro _ w ⟨rfl, rfl⟩
    refine loopP_of (fun (s : Int × Int) W => ∃ i : Nat, s = (((q.length - 1 + tlen (q.take i) : Nat) : Int), (i : Int)) ∧ i ≤ q.length ∧ W = w) (fun s _ => (q.length - s.2).toNat) ⟨0, by simp [tlen], Nat.zero_le _, rfl⟩ ?_
    rintro _ w ⟨i, rfl, hi, rfl⟩
    refine iteP_dec (fun hlt => ?_) (fun hge => ?_)
    · have hil : i < q.length := by simp only at hlt; omega
      have ht1 := tlen_take hil
      have ht2 := tlen_take_le (p := q) (i := i + 1)
      refine joinP_in ?_
      refine strIx hw hL hn hil rfl ?_
      refine joinP_in ?_
      refine subI_to (9223372036854775807 - ((q.length - 1 + tlen (q.take i) : Nat) : Int)) rfl (by omega) (by omega) ?_
      refine iteP_dec (fun h => absurd h (by simp only [strOf_size]; omega)) (fun _ => ?_)
      refine addI_to ((q.length - 1 + tlen (q.take (i + 1)) : Nat) : Int) (by simp only [strOf_size]; omega) (by omega) (by omega) ?_
      refine addI_to ((i + 1 : Nat) : Int) (by omega) (by omega) (by omega) ?_
      exact ⟨⟨i + 1, rfl, by omega, rfl⟩, by simp only; omega⟩
    have hie : i = q.length := by simp only at hge; omega
    subst hie
    rw [List.take_length]
    refine newB_h hw fun w1 hw1 => ?_
    rw [zcB] at hw1
    have hb1 : w1.heap[H.size]? = some (.cells #[.pointer none, .slice none 0 0] y_strings_Builder (0, 0)) := by rw [hw1]; exact push_new
    have hx1 : Ext [] H w1.heap := by rw [hw1]; exact .push _
    refine callF_of (l := []) (grow_c rfl hb1 (by omega) (by omega)) ?_
    rintro e w2 ⟨rfl, hB2, hx2⟩
    refine ⟨(), rfl, ?_⟩
    have hlo : H.size < w1.heap.size := lt_of_get hb1
    have hs2 := hx2.1
    have hx02 : Ext [] H w2.heap := hx1.own hx2 (by intro b hb hlt; simp at hb; omega)
    have h0q : 0 < q.length := by omega
    refine strIx (i := 0) rfl (hL.ext hx02 (by simp)) hn h0q rfl ?_
    have hq0 : q[0] = x := by simp only [← hq, List.getElem_cons_zero]
    have hqd : q.drop 1 = y :: p := by rw [← hq]; rfl
    have htx : x.length ≤ tlen q := by rw [← hq]; simp [tlen]
    rw [hq0]
    refine callF_of (writestring_c rfl hB2 hs2 (by simp; omega)) ?_
    rintro e w3 ⟨rfl, hB3, F3, hx3, hF3⟩
    refine ⟨((x.length : Int), .nilIface), rfl, ?_⟩
    have hx03 : Ext [] H w3.heap := hx02.own hx3 (by intro b hb hlt; rcases hF3 b hb with h | h <;> omega)
    have hs3 := hx3.1
    have hdr := (hL.ext hx03 (by simp)).drop 1 nc (by simp; omega)
    rw [strRow_drop] at hdr
    refine genQ_of (s := .slc) (if nc = 1 then a else a.map (·.add (1 * 1)), n - 1, nc - 1) (run_slice_slc (l := 1) (h := n) uSstr szStr (.yes rfl) .no (by omega) (by omega)) ?_
    rw [List.nil_append] at hB3
    have hdl : (q.drop 1).length = n - 1 := by simp; omega
    refine loopP_of (fun (s : Int) W => ∃ i : Nat, s = (i : Int) ∧ i ≤ n - 1 ∧ Ext [] H W.heap ∧ w1.heap.size ≤ W.heap.size ∧ Bd W.heap w1.heap.size H.size (x ++ ((q.drop 1).take i).flatMap fun L => 47 :: L)) (fun s _ => ((n - 1 : Nat) - s).toNat) ⟨0, rfl, Nat.zero_le _, hx03, by omega, by simpa using hB3⟩ ?_
    rintro _ W ⟨i, rfl, hi, hxW, hsW, hBW⟩
    have hjl2 : (joinP q).length = x.length + ((q.drop 1).flatMap fun L => (47 : UInt8) :: L).length := by rw [← hq]; simp [joinP]
    refine iteP_dec (fun hlt => ?_) (fun hge => ?_)
    · have hil : i < (q.drop 1).length := by simp only at hlt; omega
      have htk : ((q.drop 1).take (i + 1)).flatMap (fun L => (47 : UInt8) :: L) = ((q.drop 1).take i).flatMap (fun L => 47 :: L) ++ (47 :: (q.drop 1)[i]) := by
        rw [List.take_add_one, List.getElem?_eq_getElem hil, List.flatMap_append]; simp
      have htl : (((q.drop 1).take (i + 1)).flatMap fun L => (47 : UInt8) :: L).length ≤ ((q.drop 1).flatMap fun L => (47 : UInt8) :: L).length := by
        conv => rhs; rw [← List.take_append_drop (i + 1) (q.drop 1), List.flatMap_append, List.length_append]
        omega
      rw [htk] at htl
      simp only [List.length_append, List.length_cons] at htl
      have hdrW : Cells W.heap (if nc = 1 then a else a.map (·.add (1 * 1))) (strRow (q.drop 1)) := by
        have := (hL.ext hxW (by simp)).drop 1 nc (by simp; omega)
        rwa [strRow_drop] at this
      refine strIx rfl hdrW hdl.symm hil rfl ?_
      rw [hsep]
      refine callF_of (writestring_c rfl hBW hsW (by simp only [List.length_append, List.length_cons, List.length_nil]; omega)) ?_
      rintro e w4 ⟨rfl, hB4, F4, hx4, hF4⟩
      refine ⟨(1, .nilIface), rfl, ?_⟩
      have hx04 : Ext [] H w4.heap := hxW.own hx4 (by intro b hb hlt; rcases hF4 b hb with h | h <;> omega)
      refine callF_of (writestring_c rfl hB4 (Nat.le_trans hsW hx4.1) (by simp only [List.length_append, List.length_cons, List.length_nil]; omega)) ?_
      rintro e w5 ⟨rfl, hB5, F5, hx5, hF5⟩
      refine ⟨(((q.drop 1)[i].length : Int), .nilIface), rfl, ?_⟩
      refine addI_to ((i + 1 : Nat) : Int) (by omega) (by omega) (by omega) ?_
      refine ⟨⟨i + 1, rfl, by omega, hx04.own hx5 (by intro b hb hlt; rcases hF5 b hb with h | h <;> omega), Nat.le_trans hsW (Nat.le_trans hx4.1 hx5.1), ?_⟩, by omega⟩
      rw [htk]
      simpa using hB5
    · have hie : i = (q.drop 1).length := by simp only at hge; omega
      subst hie
      rw [List.take_length] at hBW
      have hjj : x ++ (q.drop 1).flatMap (fun L => (47 : UInt8) :: L) = joinP q := by rw [← hq]; rfl
      rw [hjj] at hBW
      refine callF_of (string_c rfl hBW (by intro h; rw [h] at hjl; simp at hjl; omega) (by omega)) ?_
      rintro e w6 ⟨rfl, F6, hx6, hF6⟩
      refine ⟨strOf (joinP q), rfl, ?_⟩
      exact ⟨rfl, hxW.own hx6 (by intro b hb hlt; have := hF6 b hb; omega)⟩
theorem show_c {w : World} {H : Heap} {a : Option Addr} {n nc : Nat} {p : Path} (hw : w.heap = H) (hL : Cells H a (strRow p)) (hn : n = p.length) (hnc : n ≤ nc) (hlen : tlen p + p.length ≤ 1099511627776) :
    CallF P F_vpath_Show #[.slice a n nc] w fun e w' => e = .returned (.string (strOf (showP p))) ∧ Ext [] H w'.heap := by
  refine fn_vpath_Show ?_
  unfold T_vpath_Show
  refine callF_of (join_c hw hL hn hnc hlen) ?_
  rintro e w1 ⟨rfl, hx⟩
  refine ⟨strOf (joinP p), rfl, ?_⟩
  have hjl : (joinP p).length ≤ tlen p + p.length := by
    cases p with
    | nil => simp [joinP]
    | cons x p => rw [tlen_join]; simp
  exact catS_h (A := [47]) (by simp; omega) ⟨rfl, hx⟩
theorem rshow_c {w : World} {H : Heap} {a : Option Addr} {n nc : Nat} {p : Path} (hw : w.heap = H) (hL : Cells H a (strRow p)) (hn : n = p.length) (hlen : tlen p + p.length ≤ 1099511627776) :
    CallF P F_r04_Show #[.slice a n nc] w fun e w' => e = .returned (.string (strOf (showP p))) ∧ w' = w := by
  refine fn_r04_Show ?_
  unfold T_r04_Show
  cases p with
  | nil =>
    subst hn
    exact iteP_t rfl ⟨rfl, rfl⟩
  | cons x p =>
    rw [show_flat]
    generalize hq : x :: p = q at *
    have hql : q.length = p.length + 1 := by rw [← hq]; simp
    refine iteP_f (by simp; omega) ?_
    refine loopP_of (fun (s : ByteArray × Int) W => ∃ i : Nat, s = (strOf ((q.take i).flatMap fun L => 47 :: L), (i : Int)) ∧ i ≤ q.length ∧ W = w) (fun s _ => (q.length - s.2).toNat) ⟨0, rfl, Nat.zero_le _, rfl⟩ ?_
    rintro _ w ⟨i, rfl, hi, rfl⟩
    refine iteP_dec (fun hlt => ?_) (fun hge => ?_)
    · have hil : i < q.length := by simp only at hlt; omega
      have ht1 := tlen_take hil
      have ht2 := tlen_take_le (p := q) (i := i + 1)
      have hfl : ((q.take i).flatMap fun L => (47 : UInt8) :: L).length = tlen (q.take i) + i := by rw [tlen_flat]; simp; omega
      refine catS_h (B := [47]) (by rw [hfl]; simp; omega) ?_
      refine strIx hw hL hn hil rfl ?_
      refine catS_h (by rw [List.length_append, hfl]; simp; omega) ?_
      refine addI_to ((i + 1 : Nat) : Int) (by omega) (by omega) (by omega) ?_
      refine ⟨⟨i + 1, ?_, by omega, rfl⟩, by simp only; omega⟩
      rw [List.take_add_one, List.getElem?_eq_getElem hil, List.flatMap_append]; simp
    · have hie : i = q.length := by simp only at hge; omega
      subst hie
      rw [List.take_length]
      exact ⟨rfl, rfl⟩
end Go.Proofs.YtbmegmbnlajbbaaGreat
