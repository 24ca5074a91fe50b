/- The upper branch: Get. -/
import Derived.Test.YtbmegmbnlajbbaaGreatUj
namespace Go.Proofs.YtbmegmbnlajbbaaGreat
open Go Go.Fw Go.Proofs Go.Sort

def getL (L : List Ino) (p : Path) : Option Ino := if p ≠ [] ∧ checkP p = 0 then L.find? (fun i => decide (i.names = p)) else none
def gotI (o : Option Ino) : List Value := match o with | some i => encI i | none => raw [] 0 false []
theorem len_gotI {o : Option Ino} : (gotI o).length = 4 := by cases o <;> rfl
theorem one_gotI {o : Option Ino} : oneCells (gotI o) := by cases o; exact one_raw; exact one_encI
theorem st_get {M : IM} {c : Nat} {L : List Ino} (hM : MOk (fun _ => True) M c) (h : St M L) {p : Path} (hp : okP p) : mget M (showP p) = L.find? (fun i => decide (i.names = p)) := by
  cases hf : L.find? (fun i => decide (i.names = p)) with
  | some i =>
    have h1 := List.mem_of_find?_eq_some hf
    have h2 : i.names = p := by simpa using List.find?_some hf
    obtain ⟨x, hx, rfl⟩ := List.mem_map.1 (h.perm.mem_iff.2 h1)
    have h3 := h.key x hx
    rw [h2] at h3
    rw [← h3]
    exact mget_of_mem hM.keys (c := x.2.2) (by exact hx)
  | none =>
    refine mget_none_of fun x hx e => ?_
    have h1 : x.2.1 ∈ L := h.perm.mem_iff.1 (List.mem_map.2 ⟨x, hx, rfl⟩)
    have h2 := h.key x hx
    have h3 : x.2.1.names = p := show_inj (h.good.ok _ h1).1 hp (by rw [← h2, e])
    have := List.find?_eq_none.1 hf _ h1
    exact this (by simpa using h3)
/-- An inode's variable is set. -/
theorem stI {w : World} {H : Heap} {b : Nat} {c : Array Value} {vs : List Value} {K : World → Prop} (hw : w.heap = H) (hb : H[b]? = some (.cells c y_api_Inode (0, 0))) (hc : c.size = 4) (h4 : vs.length = 4) (h1 : oneCells vs) (hK : ∀ w', w'.heap = H.setIfInBounds b (.cells vs.toArray y_api_Inode (0, 0)) → K w') :
    genU P (storeVar y_api_Inode (⟨b, 0, none⟩ : Addr) (.agg vs.toArray)) w K := by
  have hcs : (Value.agg vs.toArray).cells = vs.toArray := rfl
  refine storeVar_h (v := .agg vs.toArray) (by rw [szI, hcs]; simp [h4]) (by rw [hcs]; simp [h4]) (by rw [hcs]; exact h1) hw hb (by rw [hcs]; simp [h4, hc]) fun w' hw' => ?_
  refine hK w' ?_
  rw [hw', hcs, setCells_all (by simp [h4, hc])]
theorem zI_eq : zI = .agg (raw [] 0 false []).toArray := rfl
set_option maxHeartbeats 4000000 in
theorem get_c {w : World} {H : Heap} {p m : Nat} {nn bb : Int} {L : List Ino} {a : Option Addr} {n nc : Nat} {q : Path} (hw : w.heap = H) (hU : Up H p m nn bb L) (hL : Cells H a (strRow q)) (hn : n = q.length) (hnc : n ≤ nc) (hf : Fit q) (hq : q.length ≤ 9223372036854775807) :
    CallF P F_upper_Upper_Get #[.pointer (some ⟨p, 0, none⟩), .slice a n nc] w fun e w' => e = .returned (.tuple #[.agg (gotI (getL L q)).toArray, .bool (getL L q).isSome]) ∧ Ext [] H w'.heap := by
  refine fn_upper_Upper_Get ?_
  unfold T_upper_Upper_Get
  rw [zcI]
  refine newB_h hw fun w1 hw1 => ?_
  have hx1 : Ext [] H w1.heap := by rw [hw1]; exact .push _
  have hb1 : w1.heap[H.size]? = some (.cells (raw [] 0 false []).toArray y_api_Inode (0, 0)) := by rw [hw1]; exact push_new
  have none_way : ∀ {w : World}, getL L q = none → Ext [] H w.heap → w.heap[H.size]? = some (.cells (raw [] 0 false []).toArray y_api_Inode (0, 0)) → genQ P (Instr.build y_api_Inode #[]) .any w fun (t20 : Value) => genU P (storeVar y_api_Inode (⟨H.size, 0, none⟩ : Addr) t20) w fun w_2 => ldA P 4 (⟨H.size, 0, none⟩ : Addr) w_2 fun t4 =>
      (Ending.returned (Value.tuple #[(Value.agg t4), (Value.bool false)]) = .returned (.tuple #[.agg (gotI (getL L q)).toArray, .bool (getL L q).isSome]) ∧ Ext [] H w_2.heap) := by
    intro w hg hx hb
    refine genQ_of (s := .any) zI (bI w) ?_
    rw [zI_eq]
    refine stI rfl hb rfl rfl one_raw fun w2 hw2 => ?_
    refine ldA_all rfl (by rw [hw2]; exact set_new hb) rfl ?_
    rw [hg]
    exact ⟨rfl, by rw [hw2]; exact hx.set_own (.inl (Nat.le_refl _))⟩
  refine joinP_in ?_
  refine iteP_f rfl ?_
  refine iteP_eq (fun h0 => none_way (by unfold getL; rw [if_neg]; intro h; exact h.1 (List.eq_nil_of_length_eq_zero (by omega))) hx1 hb1) (fun h0 => ?_)
  refine callF_of (check_c rfl (hL.ext hx1 (by simp)) hn hf (by omega)) ?_
  rintro e w4 ⟨rfl, hw4⟩
  subst w4
  refine ⟨_, rfl, ?_⟩
  refine iteP_ne (fun h => none_way (by unfold getL; rw [if_neg fun h2 => h h2.2]) hx1 hb1) (fun hok => ?_)
  have hqok := check_ok.1 hok
  have hne : q ≠ [] := by rintro rfl; simp at hn; omega
  have hgl : getL L q = L.find? (fun i => decide (i.names = q)) := by unfold getL; rw [if_pos ⟨hne, hok⟩]
  obtain ⟨M, c, h1, h2, h3, h4⟩ := hU
  have hget := st_get h3 h4 hqok
  rw [← hgl] at hget
  have hval : ((mget M (showP q)).map valI).getD zI = .agg (gotI (getL L q)).toArray := by rw [hget]; cases getL L q <;> rfl
  have look : ∀ {w : World}, w.heap[m]? = some (.map (ents keyS (vl valI M)) c) → (Instr.lookup y_M_string_api_Inode (.map (some m)) (.string (strOf (showP q))) true).run P w = .ok (.tuple #[.agg (gotI (getL L q)).toArray, .bool (getL L q).isSome]) w := by
    intro w hm
    have h := lookup_v Kstr uM zMI rfl hm h3 (k := showP q) trivial
    rw [hval, hget] at h
    exact h
  have hsmall := hqok.small
  have fin : ∀ {w : World}, Ext [] H w.heap → w.heap[H.size]? = some (.cells (raw [] 0 false []).toArray y_api_Inode (0, 0)) → ∀ {b6 : Nat}, H.size ≤ b6 → b6 ≠ H.size → w.heap[b6]? = some (.cells (raw [] 0 false []).toArray y_api_Inode (0, 0)) →
      genU P (storeVar y_api_Inode (⟨b6, 0, none⟩ : Addr) (.agg (gotI (getL L q)).toArray)) w fun w_10 => ldA P 4 (⟨b6, 0, none⟩ : Addr) w_10 fun t31 => genU P (storeVar y_api_Inode (⟨H.size, 0, none⟩ : Addr) (Value.agg t31)) w_10 fun w_11 => ldA P 4 (⟨H.size, 0, none⟩ : Addr) w_11 fun t4_3 =>
      (Ending.returned (Value.tuple #[(Value.agg t4_3), (Value.bool (getL L q).isSome)]) = .returned (.tuple #[.agg (gotI (getL L q)).toArray, .bool (getL L q).isSome]) ∧ Ext [] H w_11.heap) := by
    intro w hx hb b6 hb6 hne6 h6
    refine stI rfl h6 rfl len_gotI one_gotI fun w2 hw2 => ?_
    refine ldA_all rfl (by rw [hw2]; exact set_new h6) (by simp [len_gotI]) ?_
    have hb2 : w2.heap[H.size]? = some (.cells (raw [] 0 false []).toArray y_api_Inode (0, 0)) := by rw [hw2]; exact set_old hb (Ne.symm hne6)
    refine stI rfl hb2 rfl len_gotI one_gotI fun w3 hw3 => ?_
    refine ldA_all rfl (by rw [hw3]; exact set_new hb2) (by simp [len_gotI]) ?_
    exact ⟨rfl, by rw [hw3, hw2]; exact (hx.set_own (.inl hb6)).set_own (.inl (Nat.le_refl _))⟩
  refine drewP_h rfl fun w7 hw7 => ?_
  have hx17 : Ext [] w1.heap w7.heap := by rw [hw7]; exact .refl _ _
  have hx07 := hx1.trans hx17
  simp only [withAddr_some, add_none, Nat.zero_add]
  refine ld_h (s := .map) (t := some m) rfl (hx07.get h1 (by simp)) rfl ?_
  constructor
  · refine callF_of (show_c rfl (hL.ext hx07 (by simp)) hn hnc (by omega)) ?_
    rintro e w8 ⟨rfl, hx8⟩
    refine ⟨strOf (showP q), rfl, ?_⟩
    have hx08 := hx07.trans hx8
    refine ⟨ld_h (s := .map) (t := some m) rfl (hx08.get h1 (by simp)) rfl rfl, ?_⟩
    refine genT_of (l := [.any, .bool]) (.agg (gotI (getL L q)).toArray, (getL L q).isSome) (look (hx08.get h2 (by simp))) ?_
    refine newB_h rfl fun w9 hw9 => ?_
    have hx89 : Ext [] w8.heap w9.heap := by rw [hw9]; exact .push _
    have hx09 := hx08.trans hx89
    refine ⟨genT_of (l := [.any, .bool]) (.agg (gotI (getL L q)).toArray, (getL L q).isSome) (look (hx09.get h2 (by simp))) rfl, ?_⟩
    refine ⟨ld_h (s := .map) (t := some m) rfl (hx09.get h1 (by simp)) rfl rfl, ?_⟩
    exact fin hx09 ((hx17.trans (hx8.trans hx89)).get hb1 (by simp)) (by have := hx08.1; omega) (by have := lt_of_get hb1; have := (hx17.trans hx8).1; omega) (by rw [hw9]; exact push_new)
  · refine newB_h rfl fun w12 hw12 => ?_
    have hx712 : Ext [] w7.heap w12.heap := by rw [hw12]; exact .push _
    have hx012 := hx07.trans hx712
    refine ⟨ld_h (s := .map) (t := some m) rfl (hx012.get h1 (by simp)) rfl rfl, ?_⟩
    refine callF_of (show_c rfl (hL.ext hx012 (by simp)) hn hnc (by omega)) ?_
    rintro e w13 ⟨rfl, hx13⟩
    refine ⟨strOf (showP q), rfl, ?_⟩
    have hx013 := hx012.trans hx13
    refine ⟨ld_h (s := .map) (t := some m) rfl (hx013.get h1 (by simp)) rfl rfl, ?_⟩
    refine genT_of (l := [.any, .bool]) (.agg (gotI (getL L q)).toArray, (getL L q).isSome) (look (hx013.get h2 (by simp))) ?_
    exact fin hx013 ((hx17.trans (hx712.trans hx13)).get hb1 (by simp)) (by have := hx07.1; omega) (by have := lt_of_get hb1; have := hx17.1; omega) (hx13.get (by rw [hw12]; exact push_new) (by simp))
end Go.Proofs.YtbmegmbnlajbbaaGreat
