/- The contract of BlobApart. -/
import Derived.Test.YtkolbfjheleoaaaDoorSp
import Derived.Test.YtkolbfjheleoaaaDoorSl
namespace Go.Proofs.YtkolbfjheleoaaaDoor
open Go Go.Fw Go.Proofs

/-- What a put gives, to a store that is whole: of its keys. -/
theorem put_keys {q : Int} {r r' : SM} {c c' : Nat} {L : List UInt8} {code : Int} (hr : MOk (fun L => L.length = 32) r c) (hr' : MOk (fun L => L.length = 32) r' c') (hw : Whole r) (hq : (total r : Int) ≤ q) (h : PutRes q r [L] code r') :
    r'.length ≤ r.length + 1 ∧ total r' ≤ total r + 4096 ∧ ∀ k, (vget r' k).isSome = true → (vget r k).isSome = true ∨ k = Sha.sum L := by
  obtain ⟨_, _, hcase⟩ := put_whole hr hr' hw hq h
  by_cases hl : 4096 < L.length
  · obtain ⟨rfl, rfl⟩ := put_long h hl
    exact ⟨by omega, by omega, fun k hk => .inl hk⟩
  have hl : L.length ≤ 4096 := by omega
  cases hv : vget r (Sha.sum L) with
  | some old =>
    obtain ⟨rfl, hv'⟩ := put_old h hl hv hq
    have hsame : ∀ k, vget r' k = vget r k := fun k => by
      rw [hv']
      by_cases e : k = Sha.sum L
      · subst e; rw [if_neg fun h => h.2 (hw _ _ hv).1]
      · rw [if_neg fun h => e h.1]
    obtain ⟨ht, hl2⟩ := same_view hr'.keys hr.keys hsame
    exact ⟨by omega, by omega, fun k hk => .inl (by rw [← hsame]; exact hk)⟩
  | none =>
    by_cases hfit : (total r : Int) + L.length ≤ q
    · obtain ⟨rfl, hv'⟩ := put_new h hl hv hfit
      have hmg : mget r (Sha.sum L) = none := by unfold vget at hv; simpa using hv
      obtain ⟨ht', hl'⟩ := same_view (r := r') (s := mupd r (Sha.sum L) ((none, 0, 0), L) c) hr'.keys (hr.upd (k := Sha.sum L) len_sum _).keys fun k => by rw [hv', vget_upd]
      rw [mupd_none hmg] at ht' hl'
      refine ⟨by rw [hl']; simp, ?_, fun k hk => ?_⟩
      · rw [ht']; simp [total]; omega
      · rw [hv'] at hk
        split at hk
        · exact .inr ‹_›
        · exact .inl hk
    · obtain ⟨rfl, rfl⟩ := put_full h hl hv (by omega)
      exact ⟨by omega, by omega, fun k hk => .inl hk⟩
theorem zcbool : zc P y_bool = #[.bool false] := by kernel_rfl
theorem zcptr : zc P y_p_blob_Store = #[.pointer none] := by kernel_rfl
theorem zcint : zc P y_int = #[.int .i64 0] := by kernel_rfl
/-- A box for one value. -/
theorem box_h {w : World} {H : Heap} {T : TypeId} {z : Value} {K : Nat → World → Prop} (hz : zc P T = #[z]) (hw : w.heap = H) (hK : ∀ w', w'.heap = H.push (.cells #[z] T) → K H.size w') : newB (zc P T) T w K := by
  rw [hz]; exact newB_h hw hK
/-- What holds while blobs are put. -/
def Ap1 (H : Heap) (p : Nat) (Ls : List (List UInt8)) (i : Nat) (W : World) : Prop := ∃ r c fp, Ext [] H W.heap ∧ W.heap[H.size]? = some (.cells #[.bool false] y_bool (0, 0)) ∧ Store W.heap fp p 1073741824 r c ∧ (∀ b ∈ fp, H.size < b ∧ b < W.heap.size) ∧ Whole r ∧ total r ≤ 4096 * i ∧ r.length ≤ i ∧
  ∀ k, (vget r k).isSome = true → ∃ L ∈ Ls.take i, k = Sha.sum L
/-- What holds while they are spoilt and dropped. -/
def Ap2 (H1 : Heap) (p : Nat) (fp : List Nat) (r : SM) (Ls : List (List UInt8)) (i : Nat) (W : World) : Prop := ∃ r2 c2, Ext fp H1 W.heap ∧ Store W.heap fp p 1073741824 r2 c2 ∧ total r2 ≤ total r ∧ ∀ k, (vget r2 k).isSome = true → (vget r k).isSome = true ∧ ∀ L ∈ Ls.take i, k ≠ Sha.sum L
theorem none_left {r2 : SM} (h : ∀ k, (vget r2 k).isSome = false) : r2 = [] := by
  cases r2 with
  | nil => rfl
  | cons x l =>
    have := h x.1
    unfold vget at this
    rw [mget_cons_eq rfl] at this
    simp at this

set_option maxHeartbeats 8000000 in
theorem apart_c {w : World} {H : Heap} {a b : Option Addr} {n nc l lc : Nat} {Ls : List (List UInt8)} {Lm : List UInt8} (hw : w.heap = H) (hR : Rounds H) (hL : Rows H a n Ls) (hlen : ∀ L ∈ Ls, L.length < 140737488351233) (hM : Cells H b (byteCells Lm)) (hl : l = Lm.length) (hlc : l ≤ lc) :
    CallF P F_l05_BlobApart #[.slice a n nc, .slice b l lc] w fun e w' => e = .returned (.bool true) ∧ Ext [] H w'.heap := by
  have hH0 : 0 < H.size := by obtain ⟨_, _, _, h, _⟩ := hR; exact lt_of_get h
  refine fn_l05_BlobApart ?_
  unfold T_l05_BlobApart
  refine box_h zcbool hw fun w1 hw1 => ?_
  have hx1 : Ext [] H w1.heap := by rw [hw1]; exact .push _
  have hb1 : w1.heap[H.size]? = some (.cells #[.bool false] y_bool (0, 0)) := by rw [hw1]; exact push_new
  refine callF_of (awake_c rfl (hR.ext hx1 (by simp))) ?_
  rintro e w2 ⟨rfl, hx2⟩
  refine ⟨true, rfl, ?_⟩
  refine iteP_f rfl ?_
  have hx02 := hx1.trans hx2
  have hb2 := hx2.get hb1 (by simp)
  refine iteP_dec (fun hbig => ?_) (fun hsmall => ?_)
  · refine stC_h rfl hb2 (by simp) fun w3 hw3 => ?_
    refine ld_h (s := .bool) (t := true) rfl (by rw [hw3]; exact set_new hb2) rfl ?_
    exact ⟨rfl, by rw [hw3]; exact hx02.set_own (.inl (Nat.le_refl _))⟩
  have hn60 : n ≤ 60 := by omega
  refine callF_of (new59_c 1073741824 rfl) ?_
  rintro e w3 ⟨p, fp0, rfl, hS3, hx3, hfp3⟩
  refine ⟨some ⟨p, 0, none⟩, rfl, ?_⟩
  rw [show max (1073741824 : Int) 0 = 1073741824 from by decide] at hS3
  have hx03 := hx02.trans hx3
  refine loopP_of (fun (s : Int) W => ∃ i : Nat, s = (i : Int) ∧ i ≤ n ∧ Ap1 H p Ls i W) (fun s _ => (n - s).toNat)
    ⟨0, rfl, Nat.zero_le _, [], 0, fp0, hx03, hx3.get hb2 (by simp), hS3, fun b hb => ⟨by have := (hfp3 b hb).1; have := lt_of_get hb2; omega, (hfp3 b hb).2⟩, (by intro k L h; simp [vget, mget] at h), by simp [total], by simp, (by intro k h; simp [vget, mget] at h)⟩ ?_
  rintro _ W ⟨i, rfl, hin, r, c, fp, hx4, hb4, hS4, hfp4, hwh, htot, hrl, hkeys⟩
  have hLn : n = Ls.length := hL.1
  refine iteP_dec (fun hlt => ?_) (fun hge => ?_)
  · have hil : i < Ls.length := by omega
    obtain ⟨bl, ol, cl, Tl, frl, x, rfl, hbl, hcl, hxC, hxl, hxc⟩ := hL.2 i hil
    refine ixS_1 i rfl (by omega) ?_
    refine ld_h (s := .slc) (t := x) rfl (hx4.get hbl (by simp)) hcl ?_
    refine callF_of (put_c (L := Ls[i]) rfl hS4 (fun b hb => (hfp4 b hb).2) (hR.ext hx4 (by simp)) (fun h => by have := (hfp4 0 h).1; omega) (hxC.ext hx4 (by simp)) hxl hxc ?_ (by omega) (by decide) (by decide) hwh.small) ?_
    · intro hne y hy h
      have := (hfp4 _ h).1
      obtain ⟨z, hz, hlt⟩ := hxC.lt (by simpa [byteCells] using hne)
      rw [hy] at hz; cases hz; omega
    rintro e w5 ⟨code, r5, c5, fp5, rfl, hS5, hx5, hfl5, hsub5, hres, htb⟩
    refine ⟨(arr (if code = 0 then Sha.sum Ls[i] else nought), code), rfl, ?_⟩
    refine addI_to ((i + 1 : Nat) : Int) (by omega) (by omega) (by omega) ?_
    have htq : (total r : Int) ≤ 1073741824 := by omega
    obtain ⟨hwh5, _, _⟩ := put_whole hS4.ok hS5.ok hwh htq hres
    obtain ⟨hl5, _, hk5⟩ := put_keys hS4.ok hS5.ok hwh htq hres
    have hnb : H.size ∉ fp := fun h => by have := (hfp4 _ h).1; omega
    refine ⟨⟨i + 1, rfl, by omega, r5, c5, fp5, hx4.own hx5 (by intro b hb hlt; have := (hfp4 b hb).1; omega), hx5.get hb4 hnb, hS5, fun b hb => ⟨?_, hfl5 b hb⟩, hwh5, by omega, by omega, fun k hk => ?_⟩, by omega⟩
    · rcases hsub5 b hb with h | h
      · exact (hfp4 b h).1
      · have := lt_of_get hb4; omega
    · rw [List.take_add_one, List.getElem?_eq_getElem hil]
      rcases hk5 k hk with h | h
      · obtain ⟨L, hL', e⟩ := hkeys k h
        exact ⟨L, List.mem_append_left _ hL', e⟩
      · exact ⟨Ls[i], List.mem_append_right _ (by simp), h⟩
  have hin' : i = n := by omega
  rw [hin', hLn, List.take_length] at hkeys
  have hcount : CallF P F_blob_Store_Count #[.pointer (some ⟨p, 0, none⟩)] W fun e w' => e = .returned (.int .i64 (r.length : Int)) ∧ w' = W := count_c rfl hS4
  refine callF_of hcount ?_
  rintro e W0 ⟨rfl, hW0⟩
  subst W0
  refine ⟨(r.length : Int), rfl, ?_⟩
  clear hcount
  refine callF_of (clonestore_c rfl hS4 (by decide) hwh.small) ?_
  rintro e w5 ⟨pc, fpc, rc, cc, rfl, hC5, hx5, hfpc, hvc⟩
  refine ⟨some ⟨pc, 0, none⟩, rfl, ?_⟩
  refine box_h zcptr rfl fun w6 hw6 => ?_
  have hb6 : w6.heap[w5.heap.size]? = some (.cells #[.pointer none] y_p_blob_Store (0, 0)) := by rw [hw6]; exact push_new
  refine stC_h rfl hb6 (by simp) fun w7 hw7 => ?_
  have hx57 : Ext [] w5.heap w7.heap := by rw [hw7, hw6]; exact (Ext.push _).set_own (.inl (Nat.le_refl _))
  have hb7 : w7.heap[w5.heap.size]? = some (.cells #[.pointer (some ⟨pc, 0, none⟩)] y_p_blob_Store (0, 0)) := by rw [hw7]; exact set_new hb6
  have hx47 := hx5.trans hx57
  refine callF_of (all_c rfl (hS4.ext hx47 (by simp)) (by omega)) ?_
  rintro e w8 ⟨gv, ys, rfl, hx8, hlist, hperm, _⟩
  refine ⟨gv, rfl, ?_⟩
  have hx48 := hx47.trans hx8
  have hS8 := hS4.ext hx48 (by simp)
  have hC8 := hC5.ext (hx57.trans hx8) (by simp)
  have hb8 := hx8.get hb7 (by simp)
  have hr8 := hx48.get hb4 (by simp)
  have hx08 := hx4.trans hx48
  have hfp8 : ∀ b ∈ fp, H.size < b ∧ b < W.heap.size := hfp4
  have hfc8 : ∀ b ∈ fpc, W.heap.size ≤ b ∧ b < w8.heap.size := fun b hb => ⟨(hfpc b hb).1, Nat.lt_of_lt_of_le (hfpc b hb).2 (hx57.trans hx8).1⟩
  have hs5 : W.heap.size ≤ w5.heap.size := hx5.1
  obtain ⟨bl, xl, hgv, hbl, hbc, hxm, h32⟩ := hlist
  have hs7 : w5.heap.size < w7.heap.size := lt_of_get hb7
  generalize hH8 : w8.heap = H8 at *
  -- the first store's blobs go
  refine loopP_of (fun (s : Int) W => ∃ i : Nat, s = (i : Int) ∧ i ≤ n ∧ Ap2 H8 p fp r Ls i W) (fun s _ => (n - s).toNat)
    ⟨0, rfl, Nat.zero_le _, r, c, by rw [hH8]; exact .refl _ _, by rw [hH8]; exact hS8, Nat.le_refl _, fun k hk => ⟨hk, by simp⟩⟩ ?_
  rintro _ W9 ⟨i, rfl, hin, r2, c2, hx9, hS9, ht9, hk9⟩
  have hx09 : Ext [] H W9.heap := hx08.own hx9 (by intro b hb hlt; have := (hfp8 b hb).1; omega)
  refine iteP_dec (fun hlt => ?_) (fun hge => ?_)
  · have hil : i < Ls.length := by omega
    obtain ⟨bl', ol, cl, Tl, frl, x, rfl, hbl', hcl, hxC, hxl, hxc⟩ := hL.2 i hil
    refine ixS_1 i rfl (by omega) ?_
    refine ld_h (s := .slc) (t := x) rfl (hx09.get hbl' (by simp)) hcl ?_
    refine callF_of (refsum_c rfl (hxC.ext hx09 (by simp)) hxl (hlen _ (List.getElem_mem hil))) ?_
    rintro e w10 ⟨rfl, hx10⟩
    refine ⟨arr (Sha.sum Ls[i]), rfl, ?_⟩
    refine var27 rfl len_sum fun w11 hb11 hx11 hs11 => ?_
    have hx911 := hx10.trans hx11
    refine ldA_all rfl hb11 (by simp [byteCells, len_sum]) ?_
    refine callF_of (spoil_c (k := Sha.sum Ls[i]) (t := 1) rfl (hS9.ext hx911 (by simp)) len_sum) ?_
    rintro e w12 ⟨rfl, r3, hS12, hx12, ht12, hl12, hv12⟩
    refine ⟨_, rfl, ?_⟩
    have hfw : w10.heap.size ∉ fp := fun h => by have := (hfp8 _ h).2; have := hx9.1; have := hx10.1; have := hx48.1; omega
    refine ldA_all rfl (hx12.get hb11 hfw) (by simp [byteCells, len_sum]) ?_
    refine callF_of (drop_c (k := Sha.sum Ls[i]) rfl hS12 len_sum (by omega)) ?_
    rintro e w13 ⟨rfl, hS13, hx13⟩
    refine ⟨_, rfl, ?_⟩
    refine addI_to ((i + 1 : Nat) : Int) (by omega) (by omega) (by omega) ?_
    refine ⟨⟨i + 1, rfl, by omega, mdel r3 (Sha.sum Ls[i]), c2, hx9.trans ((hx911.mono (by simp)).trans (hx12.trans hx13)), hS13, ?_, fun k hk => ?_⟩, by omega⟩
    · cases hg : mget r3 (Sha.sum Ls[i]) with
      | none => rw [mdel_none (mget_none hg)]; omega
      | some v => have := total_del hS12.ok hg; omega
    · rw [vget_del] at hk
      split at hk
      · simp at hk
      · rename_i hne
        have hk2 : (vget r2 k).isSome = true := by
          rw [hv12] at hk
          split at hk
          · rename_i hc; exact absurd hc.2 hne
          · exact hk
        refine ⟨(hk9 k hk2).1, fun L hL' => ?_⟩
        rw [List.take_add_one, List.getElem?_eq_getElem hil] at hL'
        rcases List.mem_append.1 hL' with h | h
        · exact (hk9 k hk2).2 L h
        · simp only [Option.toList_some, List.mem_singleton] at h; rw [h]; exact hne
  have hin2 : i = n := by omega
  have hr2 : r2 = [] := none_left fun k => by
    cases hk : (vget r2 k).isSome with
    | false => rfl
    | true =>
      obtain ⟨h1, h2⟩ := hk9 k hk
      obtain ⟨L, hL', e⟩ := hkeys k h1
      rw [hin2, hLn, List.take_length] at h2
      exact absurd e (h2 L hL')
  subst hr2
  -- what was listed is gone through
  have hWs : W.heap.size ≤ W9.heap.size := by have := hx48.1; have := hx9.1; omega
  refine box_h zcint rfl fun w10 hw10 => ?_
  have hb10 : w10.heap[W9.heap.size]? = some (.cells #[.int .i64 0] y_int (0, 0)) := by rw [hw10]; exact push_new
  refine stC_h rfl hb10 (by simp) fun w11 hw11 => ?_
  have hx911 : Ext [] W9.heap w11.heap := by rw [hw11, hw10]; exact (Ext.push _).set_own (.inl (Nat.le_refl _))
  have hk11 : w11.heap[W9.heap.size]? = some (.cells #[.int .i64 0] y_int (0, 0)) := by rw [hw11]; exact set_new hb10
  have hx811 : Ext fp H8 w11.heap := hx9.trans (hx911.mono (by simp))
  have hx011 : Ext [] H w11.heap := hx09.trans hx911
  have hnf : ∀ b, W.heap.size ≤ b → b ∉ fp := fun b hb h => by have := (hfp8 b h).2; omega
  have hC11 : Store w11.heap fpc pc 1073741824 rc cc := hC8.ext hx811 (fun b hb => hnf b (hfc8 b hb).1)
  have hS11 : Store w11.heap fp p 1073741824 [] c2 := hS9.ext hx911 (by simp)
  have hp11 : w11.heap[w5.heap.size]? = some (.cells #[.pointer (some ⟨pc, 0, none⟩)] y_p_blob_Store (0, 0)) := hx811.get hb8 (hnf _ hs5)
  have hr11 : w11.heap[H.size]? = some (.cells #[.bool false] y_bool (0, 0)) := hx811.get hr8 (fun h => by have := (hfp8 _ h).1; omega)
  have hbc11 : w11.heap[bl]? = some (.cells #[slcV xl] y_S_api_Digest (0, 0)) := hx811.get hbc (hnf _ (by have := hx57.1; omega))
  have hxm11 : Mine w11.heap w7.heap.size y_api_Digest 32 xl (ys.flatMap enc32) := hxm.ext hx811 (fun b hb => hnf b (by have := ownM_ge hxm b hb; have := hx57.1; omega))
  have hfp11 : ∀ b ∈ bl :: ownM xl, b < W9.heap.size := by
    intro b hb
    have h9 : H8.size ≤ W9.heap.size := hx9.1
    rcases List.mem_cons.1 hb with rfl | hb
    · have := lt_of_get hbc; omega
    · rcases hxm with ⟨rfl, _⟩ | ⟨b', cc', h1, _, h3, _⟩
      · simp [ownM] at hb
      · simp only [ownM, h1, List.mem_singleton] at hb
        subst hb; have := lt_of_get h3; omega
  have hyl : ys.length = r.length := by rw [hperm.length_eq, List.length_map]
  have hHW9 : H.size < W9.heap.size := by have := lt_of_get hb4; omega
  have hH11 : W9.heap.size < w11.heap.size := lt_of_get hk11
  rw [hgv]
  refine range_of (α := List UInt8) (shs := [.any]) (tv := fun x => arr x) (fp := bl :: ownM xl) (seq_values rfl hbc11 hxm11 h32 (by omega)) [W9.heap.size, H.size] ?_ (fun b hb => by have := hfp11 b hb; omega)
    (fun pre W1 => Ext [W9.heap.size, H.size] w11.heap W1.heap ∧ W1.heap[W9.heap.size]? = some (.cells #[.int .i64 (pre.length : Int)] y_int (0, 0)) ∧ W1.heap[H.size]? = some (.cells #[.bool false] y_bool (0, 0)))
    (fun _ => False) (fun _ _ => False) ?_ (fun _ _ h _ => h.elim) (fun _ _ _ h _ => h.elim) ⟨.refl _ _, hk11, hr11⟩ ?_ ?_ (fun _ h => h.elim) (fun _ _ h => h.elim)
  · intro b hb
    simp only [List.mem_cons, List.not_mem_nil, or_false] at hb
    refine ⟨by rcases hb with rfl | rfl <;> omega, fun h => ?_⟩
    have h1 := hfp11 b h
    have h2 : W.heap.size ≤ b := by
      have := hx57.1
      rcases List.mem_cons.1 h with rfl | h
      · omega
      · have := ownM_ge hxm b h; omega
    have h3 := lt_of_get hb4
    rcases hb with rfl | rfl <;> omega
  · rintro pre W1 W2 ⟨h1, h2, h3⟩ hB
    exact ⟨hB.ext (Nat.le_refl _) h1, hB.cells h2, hB.cells h3⟩
  · rintro pre k W1 ⟨rest, hys⟩ ⟨hxW1, hkW1, hrW1⟩ hsz beg kc kr kx hbeg
    have hk32 : k.length = 32 := h32 k (by rw [hys]; simp)
    have hprel : pre.length < ys.length := by rw [hys]; simp
    refine var_g (P := P) (v := arr k) (size27.trans (by rw [cells_arr, hk32])) (by rw [zc27, cells_arr, hk32]; simp) (by rw [cells_arr, hk32]; omega) oneCells_arr rfl fun W2 hW2 => ?_
    have hx12 : Ext [] W1.heap W2.heap := by rw [hW2]; exact .push _
    refine hbeg W2 _ hx12 fun W3 hB3 hs3 hkc _ _ => ?_
    have hxW3 : Ext [W9.heap.size, H.size] w11.heap W3.heap := hB3.ext (Nat.le_refl _) (hxW1.trans (hx12.mono (by simp)))
    have hkey3 : W3.heap[W1.heap.size]? = some (.cells (arr k).cells y_api_Digest (0, 0)) := hB3.cells (by rw [hW2]; exact push_new)
    have hkW3 := hB3.cells (hx12.get hkW1 (by simp))
    have hrW3 := hB3.cells (hx12.get hrW1 (by simp))
    have hn2 : ∀ b, b ≠ W9.heap.size → b ≠ H.size → b ∉ [W9.heap.size, H.size] := fun b h1 h2 => by simp [h1, h2]
    have hC3 : Store W3.heap fpc pc 1073741824 rc cc := hC11.ext hxW3 fun b hb => hn2 b (by have := (hfc8 b hb).2; have := hx9.1; omega) (by have := (hfc8 b hb).1; have := lt_of_get hb4; omega)
    have hp3 := hxW3.get hp11 (hn2 _ (by have := hx9.1; have := lt_of_get hb8; omega) (by have := lt_of_get hb4; omega))
    have hx03 : Ext [] H W3.heap := hx011.own hxW3 (by intro b hb hlt; simp at hb; omega)
    refine joinP_in ?_
    refine ld_h (s := .ptr) (t := some ⟨pc, 0, none⟩) rfl hp3 rfl ?_
    refine ldA_all (c := (arr k).cells) rfl hkey3 (by rw [cells_arr, hk32]) ?_
    have hkr : (vget r k).isSome = true := by
      have : k ∈ r.map (·.1) := hperm.mem_iff.1 (by rw [hys]; simp)
      obtain ⟨z, hz, rfl⟩ := List.mem_map.1 this
      rw [vget_mem hS4.ok.keys hz]; rfl
    obtain ⟨Lk, hLk⟩ := Option.isSome_iff_exists.1 hkr
    have hvk : vget rc k = some Lk := by rw [hvc, hLk]
    have hsk := hwh k Lk hLk
    have hg0 : got (vget rc k) k = 0 := by rw [hvk]; simp [got, hsk.1]
    refine callF_of (get_c (k := k) rfl hC3 hk32 (hR.ext hx03 (by simp)) (fun L hL' => by rw [hvk] at hL'; cases hL'; omega)) ?_
    rintro e W4 ⟨x4, rfl, hx34, hgot, _⟩
    rw [hg0]
    refine ⟨(x4, 0), rfl, ?_⟩
    obtain ⟨L4, hL4, hO4⟩ := hgot hg0
    rw [hvk, Option.some.injEq] at hL4
    subst hL4
    have hx04 := hx03.trans hx34
    refine joinP_in ?_
    refine drewP_h rfl fun W5 hW5 => ?_
    refine iteP_f rfl ?_
    refine ldA_all (c := (arr k).cells) rfl (by rw [hW5]; exact hx34.get hkey3 (by simp)) (by rw [cells_arr, hk32]) ?_
    refine callF_of (refsum_c (L := Lk) rfl (by rw [hW5]; exact hO4.cells) (sl_len hO4) (by omega)) ?_
    rintro e W6 ⟨rfl, hx56⟩
    have hx46 : Ext [] W4.heap W6.heap := by rw [hW5] at hx56; exact hx56
    have hx36 := hx34.trans hx46
    refine ⟨arr (Sha.sum Lk), rfl, ?_⟩
    refine ⟨ldA_all (c := (arr k).cells) rfl (hx36.get hkey3 (by simp)) (by rw [cells_arr, hk32]) rfl, ?_⟩
    refine genQ_of (s := .bool) _ (neqM_arr u27 u5 c5 g27 len_sum hk32) ?_
    refine iteP_f (by simp [hsk.1]) ?_
    have hk6 := hx36.get hkW3 (by simp)
    have hr6 := hx36.get hrW3 (by simp)
    refine ld_h (s := .int .i64) (t := (pre.length : Int)) rfl hk6 rfl ?_
    refine addI_to ((pre.length + 1 : Nat) : Int) (by omega) (by omega) (by omega) ?_
    refine stC_h rfl hk6 (by simp) fun W7 hW7 => ?_
    have hx37 : Ext [W9.heap.size] W3.heap W7.heap := by rw [hW7]; exact (hx36.mono (by simp)).set_own (.inr (by simp))
    refine hkc W7 (.of hx37 (fun b hb => .inl (by simp only [List.mem_singleton] at hb; simp [hb])) (by simp; omega)) ⟨hxW3.trans (hx37.mono (by simp)), ?_, ?_⟩
    · rw [hW7, List.length_append, List.length_singleton]; exact set_new hk6
    · rw [hW7]; exact set_old hr6 (by omega)
  rintro xs W1 rfl ⟨hxW1, hkW1, hrW1⟩ hD
  have hn2 : ∀ b, b ≠ W9.heap.size → b ≠ H.size → b ∉ [W9.heap.size, H.size] := fun b h1 h2 => by simp [h1, h2]
  have hC1 : Store W1.heap fpc pc 1073741824 rc cc := hC11.ext hxW1 fun b hb => hn2 b (by have := (hfc8 b hb).2; have := hx9.1; omega) (by have := (hfc8 b hb).1; have := lt_of_get hb4; omega)
  have hS1 : Store W1.heap fp p 1073741824 [] c2 := hS11.ext hxW1 fun b hb => hn2 b (by have := (hfp8 b hb).2; omega) (by have := (hfp8 b hb).1; omega)
  have hp1 := hxW1.get hp11 (hn2 _ (by have := hx9.1; have := lt_of_get hb8; omega) (by have := lt_of_get hb4; omega))
  have hx01 : Ext [] H W1.heap := hx011.own hxW1 (by intro b hb hlt; simp at hb; omega)
  have hs1 : w11.heap.size ≤ W1.heap.size := hxW1.1
  have h80 : H8.size ≤ W9.heap.size := hx9.1
  have hfc1 : ∀ b ∈ fpc, W.heap.size ≤ b ∧ b < W9.heap.size := fun b hb => ⟨(hfc8 b hb).1, by have := (hfc8 b hb).2; omega⟩
  have htc : total rc = total r := (same_view hC1.ok.keys hS4.ok.keys hvc).1
  have hHW := lt_of_get hb4
  refine ld_h (s := .ptr) (t := some ⟨pc, 0, none⟩) rfl hp1 rfl ?_
  refine callF_of (put_c (L := Lm) rfl hC1 (fun b hb => by have := (hfc1 b hb).2; omega) (hR.ext hx01 (by simp)) (fun h => by have := (hfc1 0 h).1; omega) (hM.ext hx01 (by simp)) hl hlc ?_ (by omega) (by decide) (by decide) (fun k L h => hwh.small k L (by rw [← hvc]; exact h))) ?_
  · intro hne y hy h
    have := (hfc1 _ h).1
    obtain ⟨z, hz, hlt⟩ := hM.lt (by simpa [byteCells] using hne)
    rw [hy] at hz; cases hz; omega
  rintro e w34 ⟨code, r34, c34, fp34, rfl, _, hx34, _, _, _, _⟩
  refine ⟨(arr (if code = 0 then Sha.sum Lm else nought), code), rfl, ?_⟩
  refine callF_of (nil_put _ _ _) ?_
  rintro e w35 ⟨rfl, hx35⟩
  refine ⟨(arr nought, 7), rfl, ?_⟩
  refine var27 rfl len_nought fun w37 hb37 hx37 _ => ?_
  refine genQ_of (s := .any) (arr nought) (b27 _) ?_
  refine callF_of (nil_get _) ?_
  rintro e w38 ⟨rfl, hx38⟩
  refine ⟨((none, 0, 0), 7), rfl, ?_⟩
  have hxA : Ext fpc W1.heap w38.heap := hx34.trans (((hx35.trans hx37).trans hx38).mono (by simp))
  have hnc : ∀ b, b < W.heap.size ∨ W9.heap.size ≤ b → b ∉ fpc := fun b hb h => by have := hfc1 b h; omega
  have hk38 := hxA.get hkW1 (hnc _ (by omega))
  have hr38 := hxA.get hrW1 (hnc _ (by omega))
  have hD38 := hxA.get hD (hnc _ (by omega))
  have hS38 : Store w38.heap fp p 1073741824 [] c2 := hS1.ext hxA fun b hb => hnc b (.inl (hfp8 b hb).2)
  have hx038 : Ext [] H w38.heap := hx01.own hxA (by intro b hb hlt; have := (hfc1 b hb).1; omega)
  refine ld_h (s := .int .i64) (t := (xs.length : Int)) rfl hk38 rfl ?_
  refine iteP_t (by simp [hyl]) ?_
  refine callF_of (count_c rfl hS38) ?_
  rintro e w39 ⟨rfl, hw39⟩
  subst w39
  refine ⟨0, rfl, ?_⟩
  refine iteP_t rfl ?_
  refine callF_of (bytes_c rfl hS38) ?_
  rintro e w40 ⟨rfl, hw40⟩
  subst w40
  refine ⟨0, rfl, ?_⟩
  refine iteP_t rfl ?_
  refine iteP_t rfl ?_
  refine iteP_t rfl ?_
  refine genQ_of (s := .any) (arr nought) (b27 _) ?_
  refine callF_of (nil_drop _) ?_
  rintro e w41 ⟨rfl, hx41⟩
  refine ⟨7, rfl, ?_⟩
  refine iteP_t rfl ?_
  refine genQ_of (s := .any) (arr nought) (b27 _) ?_
  refine callF_of (nil_spoil _ _ _) ?_
  rintro e w42 ⟨rfl, hx42⟩
  refine ⟨7, rfl, ?_⟩
  refine iteP_t rfl ?_
  refine genQ_of (s := .any) (arr nought) (b27 _) ?_
  refine callF_of (nil_has _) ?_
  rintro e w43 ⟨rfl, hx43⟩
  refine ⟨false, rfl, ?_⟩
  refine iteP_t rfl ?_
  refine callF_of nil_count ?_
  rintro e w44 ⟨rfl, hw44⟩
  subst w44
  refine ⟨0, rfl, ?_⟩
  refine iteP_t rfl ?_
  refine callF_of nil_clone ?_
  rintro e w45 ⟨rfl, hw45⟩
  subst w45
  refine ⟨none, rfl, ?_⟩
  have hx3843 := (hx41.trans hx42).trans hx43
  refine stC_h rfl (hx3843.get hr38 (by simp)) (by simp) fun w46 hw46 => ?_
  have hne : w11.heap.size ≠ H.size := by omega
  have hD46 : w46.heap[w11.heap.size]? = some (.deferred (some [])) := by rw [hw46]; exact set_old (hx3843.get hD38 (by simp)) hne
  refine ⟨hD46, fun w47 hw47 => ?_⟩
  have hh47 : w47.heap = w46.heap.setIfInBounds w11.heap.size (.deferred none) := by rw [hw47, heap_putObj]
  refine ld_h (s := .bool) (t := true) rfl (by rw [hh47]; exact set_old (by rw [hw46]; exact set_new (hx3843.get hr38 (by simp))) (Ne.symm hne)) rfl ?_
  refine ⟨rfl, ?_⟩
  rw [hh47, hw46]
  exact ((hx038.trans hx3843).set_own (.inl (Nat.le_refl _))).set_own (.inl (by omega))
end Go.Proofs.YtkolbfjheleoaaaDoor
