/- The contract of BlobRoom. -/
import Derived.Test.YtkolbfjheleoaaaDoorSj
namespace Go.Proofs.YtkolbfjheleoaaaDoor
open Go Go.Fw Go.Proofs

/-- No blob is spoilt, and none is long. -/
def Whole (r : SM) : Prop := ∀ k L, vget r k = some L → Sha.sum L = k ∧ L.length ≤ 4096
theorem Whole.small {r : SM} (h : Whole r) : Small r := fun k L hv => by have := (h k L hv).2; omega
/-- What a put gives, to a store that is whole. -/
theorem put_whole {q : Int} {r r' : SM} {c c' : Nat} {L : List UInt8} {code : Int} (hr : MOk (fun L => L.length = 32) r c) (hr' : MOk (fun L => L.length = 32) r' c') (hw : Whole r) (hq : (total r : Int) ≤ q) (h : PutRes q r [L] code r') :
    Whole r' ∧ (total r' : Int) ≤ q ∧
    ((4096 < L.length ∧ code = 2 ∧ total r' = total r) ∨
     (L.length ≤ 4096 ∧ (vget r (Sha.sum L)).isSome = true ∧ code = 0 ∧ total r' = total r) ∨
     (L.length ≤ 4096 ∧ (vget r (Sha.sum L)).isSome = false ∧ q < (total r : Int) + L.length ∧ code = 3 ∧ total r' = total r) ∨
     (L.length ≤ 4096 ∧ (vget r (Sha.sum L)).isSome = false ∧ (total r : Int) + L.length ≤ q ∧ code = 0 ∧ total r' = total r + L.length ∧ ∀ k, vget r' k = if k = Sha.sum L then some L else vget r k)) := by
  by_cases hl : 4096 < L.length
  · obtain ⟨rfl, rfl⟩ := put_long h hl
    exact ⟨hw, hq, .inl ⟨hl, rfl, rfl⟩⟩
  have hl : L.length ≤ 4096 := by omega
  cases hv : vget r (Sha.sum L) with
  | some old =>
    obtain ⟨rfl, hv'⟩ := put_old h hl hv hq
    have hsame : ∀ k, vget r' k = vget r k := fun k => by
      rw [hv']
      by_cases e : k = Sha.sum L
      · subst e; rw [if_neg fun h => h.2 (hw _ _ hv).1]
      · rw [if_neg fun h => e h.1]
    obtain ⟨ht, _⟩ := same_view hr'.keys hr.keys hsame
    exact ⟨fun k M hM => hw k M (by rw [← hsame]; exact hM), by rw [ht]; exact hq, .inr (.inl ⟨hl, rfl, rfl, ht⟩)⟩
  | none =>
    by_cases hfit : (total r : Int) + L.length ≤ q
    · obtain ⟨rfl, hv'⟩ := put_new h hl hv hfit
      have ht := total_upd hr (k := Sha.sum L) (v := ((none, 0, 0), L)) (c' := c)
      have h0 : olen r (Sha.sum L) = 0 := by unfold olen; rw [hv]
      obtain ⟨ht', _⟩ := same_view (r := r') (s := mupd r (Sha.sum L) ((none, 0, 0), L) c) hr'.keys (hr.upd (k := Sha.sum L) len_sum _).keys fun k => by rw [hv', vget_upd]
      have ht2 : total r' = total r + L.length := by rw [ht']; simp only at ht; omega
      refine ⟨fun k M hM => ?_, by omega, .inr (.inr (.inr ⟨hl, rfl, hfit, rfl, ht2, hv'⟩))⟩
      rw [hv'] at hM
      split at hM
      · rename_i e; cases hM; exact ⟨e.symm, hl⟩
      · exact hw k M hM
    · obtain ⟨rfl, rfl⟩ := put_full h hl hv (by omega)
      exact ⟨hw, hq, .inr (.inr (.inl ⟨hl, rfl, by omega, rfl, rfl⟩))⟩

theorem neq_bool (x y : Operand) (a b : Bool) (w : World) : (eqM .neq y_bool x y (.bool a) (.bool b)).run P w = .ok (.bool (!(a == b))) w := by
  have h : (Op.equal 4 (.bool a) (.bool b)).run P w = .ok (a == b) w := run_equalIn_bool' w 9999 4 a b (by kernel_rfl)
  simp [eqM, eqGuard, binOp, h]
theorem max_run (a b : Int) (w : World) : (Builtin.max_ #[y_int, y_int] y_int #[.int .i64 a, .int .i64 b]).run P w = .ok (.int .i64 (max a b)) w := by
  rw [run_max_int2]
  congr 2
  split <;> omega
theorem Rows.ext {M : List Nat} {H H' : Heap} {a : Option Addr} {n : Nat} {Ls : List (List UInt8)} (h : Rows H a n Ls) (hx : Ext M H H') (hM : ∀ b, b < H.size → b ∉ M) : Rows H' a n Ls := by
  refine ⟨h.1, fun i hi => ?_⟩
  obtain ⟨b, o, c, T, fr, x, h1, h2, h3, h4, h5, h6⟩ := h.2 i hi
  refine ⟨b, o, c, T, fr, x, h1, hx.get h2 (hM b (lt_of_get h2)), h3, h4.ext hx fun y hy hv => ?_, h5, h6⟩
  obtain ⟨z, hz, hlt⟩ := h4.lt hv
  rw [hy] at hz; cases hz
  exact hM _ hlt

/-- What holds at the head of a round. -/
def Rm (H : Heap) (p : Nat) (q : Int) (i : Nat) (w : World) : Prop := ∃ r c fp, Ext [] H w.heap ∧ Store w.heap fp p q r c ∧ (∀ b ∈ fp, H.size ≤ b ∧ b < w.heap.size) ∧ Whole r ∧ (total r : Int) ≤ q ∧ total r ≤ 4096 * i

set_option maxHeartbeats 8000000 in
theorem room_c {w : World} {H : Heap} {a : Option Addr} {n nc : Nat} {Ls : List (List UInt8)} {quota : Int} (hw : w.heap = H) (hR : Rounds H) (hL : Rows H a n Ls) (hq : quota ≤ 9223372036854775807) (hlen : ∀ L ∈ Ls, L.length < 140737488351233) :
    CallF P F_l05_BlobRoom #[.int .i64 quota, .slice a n nc] w fun e w' => e = .returned (.bool true) ∧ Ext [] H w'.heap := by
  have hH0 : 0 < H.size := by obtain ⟨_, _, _, h, _⟩ := hR; exact lt_of_get h
  refine fn_l05_BlobRoom ?_
  unfold T_l05_BlobRoom
  refine callF_of (awake_c hw hR) ?_
  rintro e w1 ⟨rfl, hx1⟩
  refine ⟨true, rfl, ?_⟩
  refine iteP_f rfl ?_
  refine callF_of (new59_c quota rfl) ?_
  rintro e w2 ⟨p, fp, rfl, hS, hx2, hfp⟩
  refine ⟨some ⟨p, 0, none⟩, rfl, ?_⟩
  refine iteP_f rfl ?_
  generalize hQ : max quota 0 = q at *
  have hq0 : 0 ≤ q := by omega
  have hq1 : q ≤ 9223372036854775807 := by omega
  refine joinP_of (fun _ w => Ext [] H w.heap) ?_ (fun _ w h => ⟨rfl, h⟩)
  refine loopP_of (fun (s : Int) w => ∃ i : Nat, s = (i : Int) ∧ i ≤ 60 ∧ Rm H p q i w) (fun s _ => (60 - s).toNat) ⟨0, rfl, by omega, [], 0, fp, hx1.trans hx2, hS, fun b hb => ⟨Nat.le_trans hx1.1 (hfp b hb).1, (hfp b hb).2⟩, by intro k L h; simp [vget, mget] at h, by simpa [total] using hq0, by simp [total]⟩ ?_
  rintro _ w3 ⟨i, rfl, hi, r, c, fp3, hx3, hS3, hfp3, hwh, htq, ht4⟩
  refine joinP_in ?_
  refine iteP_dec (fun hlt => ?_) (fun _ => hx3)
  refine iteP_dec (fun hlt60 => ?_) (fun _ => hx3)
  have hi60 : i < 60 := by omega
  obtain ⟨hn, hLs⟩ := hL
  have hil : i < Ls.length := by omega
  refine joinP_of (fun _ w => Rm H p q (i + 1) w) ?_ ?_
  rotate_left
  · intro _ w4 h4
    refine addI_to ((i + 1 : Nat) : Int) (by omega) (by omega) (by omega) ?_
    exact ⟨⟨i + 1, rfl, by omega, h4⟩, by omega⟩
  refine joinP_of (fun _ w => Rm H p q (i + 1) w) ?_ (fun _ w h => h)
  obtain ⟨bl, ol, cl, Tl, frl, x, rfl, hbl, hcl, hxC, hxl, hxc⟩ := hLs i hil
  have hLi : Ls[i].length < 140737488351233 := hlen _ (List.getElem_mem hil)
  generalize hLL : Ls[i] = L at *
  refine callF_of (bytes_c rfl hS3) ?_
  rintro e w4 ⟨rfl, rfl⟩
  refine ⟨(total r : Int), rfl, ?_⟩
  refine ixS_1 i rfl (by omega) ?_
  refine ld_h (s := .slc) (t := x) rfl (hx3.get hbl (by simp)) hcl ?_
  refine callF_of (refsum_c rfl (hxC.ext hx3 (by simp)) hxl hLi) ?_
  rintro e w5 ⟨rfl, hx5⟩
  refine ⟨arr (Sha.sum L), rfl, ?_⟩
  refine callF_of (has_c rfl (hS3.ext hx5 (by simp)) len_sum) ?_
  rintro e w6 ⟨rfl, hx6⟩
  refine ⟨(vget r (Sha.sum L)).isSome, rfl, ?_⟩
  have hx36 := hx3.trans (hx5.trans hx6)
  have hS6 := (hS3.ext hx5 (by simp)).ext hx6 (by simp)
  have hfp6 : ∀ b ∈ fp3, H.size ≤ b ∧ b < w6.heap.size := fun b hb => ⟨(hfp3 b hb).1, Nat.lt_of_lt_of_le (hfp3 b hb).2 (hx5.trans hx6).1⟩
  clear hx5 hx6 hS3 hfp3 hx3
  refine ixS_1 i rfl (by omega) ?_
  refine ld_h (s := .slc) (t := x) rfl (hx36.get hbl (by simp)) hcl ?_
  have hnfp : ∀ (F : List Nat), (∀ b ∈ F, H.size ≤ b) → L ≠ [] → ∀ y, x.1 = some y → y.block ∉ F := by
    intro F hF hne y hy h
    have := hF _ h
    obtain ⟨z, hz, hlt⟩ := hxC.lt (by simpa [byteCells] using hne)
    rw [hy] at hz; cases hz; omega
  refine callF_of (put_c (L := L) rfl hS6 (fun b hb => (hfp6 b hb).2) (hR.ext hx36 (by simp)) (fun h => by have := (hfp6 0 h).1; omega) (hxC.ext hx36 (by simp)) hxl hxc (hnfp _ fun b hb => (hfp6 b hb).1) (by omega) hq0 hq1 hwh.small) ?_
  rintro e w7 ⟨code, r2, c2, fp2, rfl, hS7, hx7, hfl7, hsub7, hres, htb⟩
  refine ⟨(arr (if code = 0 then Sha.sum L else nought), code), rfl, ?_⟩
  obtain ⟨hwh2, htq2, hcase⟩ := put_whole hS6.ok hS7.ok hwh htq hres
  have hx37 : Ext [] H w7.heap := hx36.own hx7 (by intro b hb hlt; have := (hfp6 b hb).1; omega)
  have hg7 : ∀ b ∈ fp2, H.size ≤ b := fun b hb => by rcases hsub7 b hb with h | h; exact (hfp6 b h).1; exact Nat.le_trans hx36.1 h
  refine var27 rfl (by split; exact len_sum; exact len_nought) fun w8 hb8 hx8 hs8 => ?_
  have hx38 := hx37.trans hx8
  have hS8 := hS7.ext hx8 (by simp)
  have hfp8 : ∀ b ∈ fp2, H.size ≤ b ∧ b < w8.heap.size := fun b hb => ⟨hg7 b hb, Nat.lt_of_lt_of_le (hfl7 b hb) hx8.1⟩
  have hvn : w7.heap.size ∉ fp2 := fun h => absurd (hfl7 _ h) (by omega)
  refine callF_of (bytes_c rfl hS8) ?_
  rintro e w9 ⟨rfl, rfl⟩
  refine ⟨(total r2 : Int), rfl, ?_⟩
  refine genQ_of (s := .int .i64) (max quota 0) (max_run _ _ _) ?_
  rw [hQ]
  refine iteP_f (by simp; omega) ?_
  refine ixS_1 i rfl (by omega) ?_
  refine ld_h (s := .slc) (t := x) rfl (hx38.get hbl (by simp)) hcl ?_
  have hend : Rm H p q (i + 1) w9 := ⟨r2, c2, fp2, hx38, hS8, hfp8, hwh2, htq2, by omega⟩
  have hxl' : (x.2.1 : Int) = (L.length : Int) := by rw [hxl]
  refine iteP_dec (fun hbig => ?_) (fun hsmall => ?_)
  · have hbig : 4096 < L.length := by omega
    have hc2 : code = 2 ∧ total r2 = total r := by
      rcases hcase with ⟨_, h1, h2⟩ | ⟨h, _⟩ | ⟨h, _⟩ | ⟨h, _⟩
      · exact ⟨h1, h2⟩
      · omega
      · omega
      · omega
    obtain ⟨rfl, htt⟩ := hc2
    refine joinP_in ?_
    refine iteP_f rfl ?_
    refine callF_of (bytes_c rfl hS8) ?_
    rintro e w10 ⟨rfl, rfl⟩
    refine ⟨(total r2 : Int), rfl, ?_⟩
    refine iteP_f (by simp [htt]) ?_
    exact hend
  have hsm : L.length ≤ 4096 := by omega
  refine joinP_of (fun b w => w = w9 ∧ b = (code == 0)) ?_ ?_
  · cases hhad : (vget r (Sha.sum L)).isSome with
    | true =>
      refine iteP_t rfl ?_
      refine ⟨rfl, ?_⟩
      rcases hcase with ⟨h, _⟩ | ⟨_, _, rfl, _⟩ | ⟨_, h, _⟩ | ⟨_, h, _⟩
      · omega
      · rfl
      · rw [hhad] at h; cases h
      · rw [hhad] at h; cases h
    | false =>
      refine iteP_f rfl ?_
      refine ixS_1 i rfl (by omega) ?_
      refine ld_h (s := .slc) (t := x) rfl (hx38.get hbl (by simp)) hcl ?_
      refine genQ_of (s := .int .i64) (max quota 0) (max_run _ _ _) ?_
      rw [hQ]
      refine subI_to (q - total r) rfl (by omega) (by omega) ?_
      refine ⟨rfl, ?_⟩
      rcases hcase with ⟨h, _⟩ | ⟨_, h, _⟩ | ⟨_, _, h, rfl, _⟩ | ⟨_, _, h, rfl, _⟩
      · omega
      · rw [hhad] at h; cases h
      · simp; omega
      · simp; omega
  rintro _ _ ⟨rfl, rfl⟩
  refine joinP_in ?_
  refine genQ_of (s := .bool) _ (neq_bool _ _ _ _ _) ?_
  refine iteP_f (by simp) ?_
  have hmid : (code ≠ 0 → code = 3 ∧ total r2 = total r) ∧ (code = 0 → (vget r (Sha.sum L)).isSome = false → total r2 = total r + L.length ∧ (total r : Int) + L.length ≤ q ∧ ∀ k, vget r2 k = if k = Sha.sum L then some L else vget r k) := by
    rcases hcase with ⟨h, _⟩ | ⟨_, h, rfl, _⟩ | ⟨_, h, _, rfl, h2⟩ | ⟨_, h, h1, rfl, h2, h3⟩
    · omega
    · exact ⟨fun h => absurd rfl h, fun _ h' => by rw [h] at h'; cases h'⟩
    · exact ⟨fun _ => ⟨rfl, h2⟩, fun h => absurd h (by decide)⟩
    · exact ⟨fun h => absurd rfl h, fun _ _ => ⟨h2, h1, h3⟩⟩
  by_cases hcz : code = 0
  · subst hcz
    refine iteP_f rfl ?_
    refine iteP_t rfl ?_
    cases hhad : (vget r (Sha.sum L)).isSome with
    | true => exact iteP_f rfl hend
    | false =>
      obtain ⟨ht2, hfit, hv2⟩ := hmid.2 rfl hhad
      refine iteP_t rfl ?_
      refine joinP_of (fun _ w => ∃ r3 c3, Ext [] H w.heap ∧ Store w.heap fp2 p q r3 c3 ∧ (∀ b ∈ fp2, H.size ≤ b ∧ b < w.heap.size) ∧ Whole r3 ∧ total r3 = total r) ?_ ?_
      · refine drewP_h rfl fun w17 hw17 => ?_
        have hS17 : Store w17.heap fp2 p q r2 c2 := by rw [hw17]; exact hS8
        have hx17 : Ext [] H w17.heap := by rw [hw17]; exact hx38
        have hb17 : w17.heap[w7.heap.size]? = some (.cells (byteCells (Sha.sum L)).toArray y_api_Digest (0, 0)) := by rw [hw17]; exact hb8
        have hfp17 : ∀ b ∈ fp2, H.size ≤ b ∧ b < w17.heap.size := by rw [hw17]; exact hfp8
        refine ixS_1 i rfl (by omega) ?_
        refine ld_h (s := .slc) (t := x) rfl (hx17.get hbl (by simp)) hcl ?_
        refine addI_to ((total r2 : Nat) : Int) (by omega) (by omega) (by omega) ?_
        refine callF_of (bytes_c rfl hS17) ?_
        rintro e w18 ⟨rfl, rfl⟩
        refine ⟨(total r2 : Int), rfl, ?_⟩
        refine ⟨ld_h (s := .slc) (t := x) rfl (hx17.get hbl (by simp)) hcl rfl, ?_⟩
        refine iteP_f (by simp) ?_
        refine ldA_all rfl hb17 (by simp [byteCells, len_sum]) ?_
        refine callF_of (drop_c rfl hS17 len_sum (by omega)) ?_
        rintro e w19 ⟨rfl, hS19, hx19⟩
        have hv2s : (vget r2 (Sha.sum L)).isSome = true := by rw [hv2, if_pos rfl]; rfl
        rw [hv2s]
        refine ⟨0, rfl, ?_⟩
        refine iteP_f rfl ?_
        have hvr : vget r (Sha.sum L) = none := by simpa using hhad
        have hview : ∀ k, vget (mdel r2 (Sha.sum L)) k = vget r k := by
          intro k
          rw [vget_del]
          by_cases e : k = Sha.sum L
          · rw [if_pos e, e, hvr]
          · rw [if_neg e, hv2, if_neg e]
        obtain ⟨htd, _⟩ := same_view hS19.ok.keys hS6.ok.keys hview
        refine callF_of (bytes_c rfl hS19) ?_
        rintro e w20 ⟨rfl, rfl⟩
        refine ⟨(total (mdel r2 (Sha.sum L)) : Int), rfl, ?_⟩
        refine iteP_f (by simp [htd]) ?_
        refine ldA_all rfl (hx19.get hb17 hvn) (by simp [byteCells, len_sum]) ?_
        refine callF_of (has_c rfl hS19 len_sum) ?_
        rintro e w21 ⟨rfl, hx21⟩
        refine ⟨false, by rw [hview, hvr]; rfl, ?_⟩
        refine iteP_f rfl ?_
        exact ⟨mdel r2 (Sha.sum L), c2, (hx17.own hx19 (by intro b hb hlt; have := (hfp17 b hb).1; omega)).trans hx21, hS19.ext hx21 (by simp), fun b hb => ⟨(hfp17 b hb).1, Nat.lt_of_lt_of_le (hfp17 b hb).2 (Nat.le_trans hx19.1 hx21.1)⟩, fun k M hM => hwh k M (by rw [← hview]; exact hM), htd⟩
      · rintro _ w22 ⟨r3, c3, hx22, hS22, hfp22, hwh3, htt⟩
        refine ixS_1 i rfl (by omega) ?_
        refine ld_h (s := .slc) (t := x) rfl (hx22.get hbl (by simp)) hcl ?_
        refine callF_of (put_c (L := L) rfl hS22 (fun b hb => (hfp22 b hb).2) (hR.ext hx22 (by simp)) (fun h => by have := (hfp22 0 h).1; omega) (hxC.ext hx22 (by simp)) hxl hxc (hnfp _ fun b hb => (hfp22 b hb).1) (by omega) hq0 hq1 hwh3.small) ?_
        rintro e w23 ⟨code, r4, c4, fp4, rfl, hS23, hx23, hfl23, hsub23, hres4, htb4⟩
        refine ⟨(arr (if code = 0 then Sha.sum L else nought), code), rfl, ?_⟩
        obtain ⟨hwh4, htq4, _⟩ := put_whole hS22.ok hS23.ok hwh3 (by omega) hres4
        exact ⟨r4, c4, fp4, hx22.own hx23 (by intro b hb hlt; have := (hfp22 b hb).1; omega), hS23, fun b hb => ⟨by rcases hsub23 b hb with h | h; exact (hfp22 b h).1; exact Nat.le_trans hx22.1 h, hfl23 b hb⟩, hwh4, htq4, by omega⟩
  · obtain ⟨rfl, htt⟩ := hmid.1 hcz
    refine iteP_t rfl ?_
    refine iteP_f rfl ?_
    refine callF_of (bytes_c rfl hS8) ?_
    rintro e w10 ⟨rfl, rfl⟩
    refine ⟨(total r2 : Int), rfl, ?_⟩
    refine iteP_f (by simp [htt]) ?_
    exact iteP_f rfl hend
end Go.Proofs.YtkolbfjheleoaaaDoor
