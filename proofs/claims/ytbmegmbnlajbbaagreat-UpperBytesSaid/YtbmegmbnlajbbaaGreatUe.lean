/- A path's text is cut into pieces. -/
import Derived.Test.YtbmegmbnlajbbaaGreatUd
import Derived.Test.YtbmegmbnlajbbaaGreatFwY
namespace Go.Proofs.YtbmegmbnlajbbaaGreat
open Go Go.Fw Go.Proofs

def pieces : List UInt8 → List (List UInt8)
  | [] => []
  | c :: L => if c = 47 then [] :: pieces L else match pieces L with | [] => [[c]] | p :: ps => if L.head? = some 47 then [c] :: ps else (c :: p) :: ps
theorem pieces_sep : ∀ {p r : List UInt8}, (47 : UInt8) ∉ p → pieces (p ++ 47 :: r) = p :: pieces r
  | [], r, _ => by simp [pieces]
  | c :: p, r, h => by
    have hc : c ≠ 47 := fun e => h (by simp [e])
    have ih := pieces_sep (p := p) (r := r) (fun hm => h (by simp [hm]))
    rw [List.cons_append, pieces, if_neg hc, ih]
    cases p with
    | nil => simp
    | cons d p =>
      have hd : d ≠ 47 := fun e => h (by simp [e])
      simp [hd]
theorem pieces_last : ∀ {p : List UInt8}, (47 : UInt8) ∉ p → p ≠ [] → pieces p = [p]
  | [], _, h => absurd rfl h
  | [c], h, _ => by
    have hc : c ≠ 47 := fun e => h (by simp [e])
    simp [pieces, hc]
  | c :: d :: p, h, _ => by
    have hc : c ≠ 47 := fun e => h (by simp [e])
    have hd : d ≠ 47 := fun e => h (by simp [e])
    have ih := pieces_last (p := d :: p) (fun hm => h (by simp [hm])) (by simp)
    rw [pieces, if_neg hc, ih]
    simp [hd]
theorem split47 (L : List UInt8) : (47 : UInt8) ∉ L ∨ ∃ p r, L = p ++ 47 :: r ∧ (47 : UInt8) ∉ p := by
  induction L with
  | nil => left; simp
  | cons c L ih =>
    by_cases hc : c = 47
    · right; exact ⟨[], L, by simp [hc], by simp⟩
    · rcases ih with h | ⟨p, r, h1, h2⟩
      · left; simp [h, Ne.symm hc]
      · right; exact ⟨c :: p, r, by simp [h1], by simp [h2, Ne.symm hc]⟩
theorem ix_none : ∀ {L : List UInt8}, (47 : UInt8) ∉ L → Lib.indexByte L 47 = -1
  | [], _ => rfl
  | c :: L, h => by
    have hc : ¬ c = 47 := fun e => h (by simp [e])
    have ih := ix_none (L := L) (fun hm => h (by simp [hm]))
    simp [Lib.indexByte, hc, ih]
theorem ix_some : ∀ {p r : List UInt8}, (47 : UInt8) ∉ p → Lib.indexByte (p ++ 47 :: r) 47 = (p.length : Int)
  | [], r, _ => by simp [Lib.indexByte]
  | c :: p, r, h => by
    have hc : ¬ c = 47 := fun e => h (by simp [e])
    have ih := ix_some (p := p) (r := r) (fun hm => h (by simp [hm]))
    simp only [List.cons_append, Lib.indexByte, ih]
    have h1 : (c == (47 : UInt8)) = false := by simp [hc]
    have h2 : ((p.length : Int) == -1) = false := by simp
    rw [h1, h2]
    simp
theorem cut_c {w : World} (L : List UInt8) (hlen : L.length ≤ 1099511627776) : CallF P F_strings_Cut #[.string (strOf L), .string (ByteArray.mk #[47])] w fun e w' =>
    ∃ p r b, e = .returned (.tuple #[.string (strOf p), .string (strOf r), .bool b]) ∧ w'.heap = w.heap ∧ (((47 : UInt8) ∉ L ∧ p = L ∧ r = []) ∨ (L = p ++ 47 :: r ∧ (47 : UInt8) ∉ p)) := by
  have hsep : (ByteArray.mk #[47] : ByteArray) = strOf [47] := rfl
  refine fn_strings_Cut ?_
  unfold T_strings_Cut
  have hix : CallF P F_internal_stringslite_Index #[.string (strOf L), .string (ByteArray.mk #[47])] w fun e w' => e = .returned (.int .i64 (Lib.indexByte L 47)) ∧ w' = w := by
    refine fn_internal_stringslite_Index ?_
    unfold T_internal_stringslite_Index
    refine joinP_in ?_
    refine joinP_in ?_
    refine iteP_f rfl ?_
    refine iteP_of (p := L = [47]) (by rw [mk_toList, strOf_toList, beq_iff_eq]; exact eq_comm) (fun h => ⟨by rw [h]; rfl, rfl⟩) (fun _ => ?_)
    refine iteP_t rfl ?_
    rw [hsep]
    refine ixStr_h (L := [47]) 0 rfl (by simp) ?_
    have h2 : CallF P F_internal_stringslite_IndexByte #[.string (strOf L), .int .u8 47] w fun e w' => e = .returned (.int .i64 (Lib.indexByte L 47)) ∧ w' = w := by
      refine fn_internal_stringslite_IndexByte ?_
      unfold T_internal_stringslite_IndexByte
      refine callF_ext (l := [.int .i64]) (Lib.indexByte L 47) ?_ ⟨rfl, rfl⟩
      rw [x_internal_bytealg_IndexByteString (e := Extern.BytealgIndexByte.indexByte) (by kernel_rfl), Lib.run_indexByteString]
      rfl
    refine callF_of h2 ?_
    rintro e w' ⟨rfl, rfl⟩
    exact ⟨_, rfl, rfl, rfl⟩
  have hcut : CallF P F_internal_stringslite_Cut #[.string (strOf L), .string (ByteArray.mk #[47])] w fun e w' =>
    ∃ p r b, e = .returned (.tuple #[.string (strOf p), .string (strOf r), .bool b]) ∧ w'.heap = w.heap ∧ (((47 : UInt8) ∉ L ∧ p = L ∧ r = []) ∨ (L = p ++ 47 :: r ∧ (47 : UInt8) ∉ p)) := by
    refine fn_internal_stringslite_Cut ?_
    unfold T_internal_stringslite_Cut
    refine callF_of hix ?_
    rintro e w' ⟨rfl, rfl⟩
    refine ⟨_, rfl, ?_⟩
    rcases split47 L with h | ⟨p, r, rfl, h⟩
    · rw [ix_none h]
      refine iteP_f rfl ?_
      exact ⟨L, [], false, rfl, rfl, .inl ⟨h, rfl, rfl⟩⟩
    · rw [ix_some h]
      refine iteP_t (by simp) ?_
      refine drewP_h rfl fun w2 hw2 => ?_
      simp only [List.length_append, List.length_cons] at hlen
      refine addI_to ((p.length + 1 : Nat) : Int) (by rw [hsep, strOf_size]; simp) (by omega) (by omega) ?_
      refine genQ_of (s := .str) _ (slStr_h (l := 0) (h := p.length) uStr .no (.yes rfl) (Nat.zero_le _) (by simp)) ?_
      refine genQ_of (s := .str) _ (slStr_h (l := p.length + 1) (h := (p ++ 47 :: r).length) uStr (.yes rfl) .no (by simp) (Nat.le_refl _)) ?_
      refine ⟨p, r, true, ?_, hw2, .inr ⟨rfl, h⟩⟩
      rw [List.take_left, List.drop_zero, List.take_length, show p ++ 47 :: r = (p ++ [47]) ++ r by simp, List.drop_left' (by simp)]
  refine callF_of hcut ?_
  rintro e w' ⟨p, r, b, rfl, h1, h2⟩
  refine ⟨(strOf p, strOf r, b), rfl, ?_⟩
  exact ⟨p, r, b, rfl, h1, h2⟩

theorem seq_pieces {w : World} {H : Heap} {b : Nat} {L : List UInt8} (hw : w.heap = H) (hb : H[b]? = some (.cells #[.string (strOf L)] y_string (0, 0))) (hlen : L.length ≤ 1099511627776) :
    SeqA P (.func (.func F_vpath_pieces_1) #[] #[.pointer (some ⟨b, 0, none⟩)]) (fun ys => ys = pieces L) (fun pre y => ∃ rest, pieces L = pre ++ y :: rest) (fun x => #[.string (strOf x)]) [b] [b] w := by
  refine ⟨_, _, rfl, fun l I J w1 M hx1 hMM hst hIA h0 hY => ?_⟩
  have hb1 := (hw ▸ hx1).get hb (by simp)
  have hblt := lt_of_get hb1
  refine fn_vpath_pieces_1 ?_
  unfold T_vpath_pieces_1
  simp only [withAddr_some]
  have hlt : ∀ (R : List UInt8), R.length = R.length := fun _ => rfl
  refine loopP_ix (fun n _ W => ∃ pre R, I pre W ∧ W.heap[b]? = some (.cells #[.string (strOf R)] y_string (0, 0)) ∧ pieces L = pre ++ pieces R ∧ R.length ≤ 1099511627776 ∧ w1.heap.size ≤ W.heap.size ∧ n = R.length) L.length ⟨[], L, h0, hb1, by simp, hlen, Nat.le_refl _, rfl⟩ ?_
  rintro n _ W ⟨pre, R, hI, hbW, hpc, hRl, hsz, rfl⟩ K hK
  refine ld_h (s := .str) (t := strOf R) rfl hbW rfl ?_
  refine iteP_of (p := R ≠ []) (by rw [Bool.not_eq_true', ← Bool.not_eq_true, beqStr]) (fun hne => ?_) (fun he => ?_)
  · refine ld_h (s := .str) (t := strOf R) rfl hbW rfl ?_
    refine callF_of (cut_c R hRl) ?_
    rintro e W2 ⟨p, r, bb, rfl, hh2, hcase⟩
    refine ⟨(strOf p, strOf r, bb), rfl, ?_⟩
    have hpr : pieces R = p :: pieces r ∧ r.length < R.length := by
      rcases hcase with ⟨h1, rfl, rfl⟩ | ⟨rfl, h2⟩
      · refine ⟨by rw [pieces_last h1 hne]; rfl, ?_⟩
        cases p with
        | nil => exact absurd rfl hne
        | cons a p => simp
      · exact ⟨pieces_sep h2, by simp; omega⟩
    have hx2 : Ext [] W.heap W2.heap := by rw [hh2]; exact .refl _ _
    have hI2 := hst _ _ _ hI (.new hsz hx2)
    have hb2 : W2.heap[b]? = some (.cells #[.string (strOf R)] y_string (0, 0)) := by rw [hh2]; exact hbW
    refine callV_yield ((hY pre p W2 ⟨pieces r, by rw [hpc, hpr.1]⟩ hI2).mono ?_)
    rintro e W3 ⟨hK3, ⟨rfl, hI3⟩ | ⟨rfl, hJ3⟩⟩
    · refine ⟨true, rfl, ?_⟩
      refine iteP_f rfl ?_
      have hb3 := hK3.get hb2 hblt (fun h => (hMM _ h).2 (by simp))
      refine stC_h rfl hb3 (by simp) fun W4 hW4 => ?_
      have hx4 : Ext [b] W3.heap W4.heap := by rw [hW4]; exact Ext.set _ (by simp)
      refine hK _ _ _ hpr.2 ⟨pre ++ [p], r, hIA _ _ _ hI3 hx4, by rw [hW4]; exact set_new hb3, by rw [hpc, hpr.1]; simp, by omega, ?_, rfl⟩
      have := hx4.1; have := hK3.1; rw [hh2] at this; omega
    · refine ⟨false, rfl, ?_⟩
      exact iteP_t rfl ⟨⟨_, rfl⟩, .inr hJ3⟩
  · have he : R = [] := Classical.not_not.1 he
    subst he
    refine ⟨⟨_, rfl⟩, .inl ⟨pieces L, rfl, ?_⟩⟩
    rw [hpc]
    simpa [pieces] using hI
end Go.Proofs.YtbmegmbnlajbbaaGreat
