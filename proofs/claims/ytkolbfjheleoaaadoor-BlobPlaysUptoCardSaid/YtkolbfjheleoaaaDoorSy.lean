/- The plain law of the reference's PutAll. -/
import Derived.Test.YtkolbfjheleoaaaDoorSx
import Derived.Test.YtkolbfjheleoaaaDoorSq
namespace Go.Proofs.YtkolbfjheleoaaaDoor
open Go Go.Fw Go.Proofs

theorem fget_snoc {F : BL} {d L k : List UInt8} : fget (F ++ [(d, L)]) k = match fget F k with | some v => some v | none => if k = d then some L else none := by
  induction F with
  | nil =>
    simp only [fget, List.nil_append, List.find?_cons, List.find?_nil, Option.map_none]
    by_cases e : d = k
    · subst e; simp
    · have : (d == k) = false := by simp [e]
      simp [this, Ne.symm e]
  | cons x F ih =>
    simp only [fget, List.cons_append, List.find?_cons] at ih ⊢
    by_cases e : x.1 = k
    · simp [e]
    · have : (x.1 == k) = false := by simp [e]
      simp only [this]
      exact ih
theorem fresh_key : ∀ (Ls : List (List UInt8)) (F : BL), (∀ k L, fget F k = some L → Sha.sum L = k) → ∀ k L, fget (Ls.foldl fstep F) k = some L → Sha.sum L = k
  | [], F, h => h
  | M :: Ls, F, h => by
    rw [List.foldl_cons]
    refine fresh_key Ls (fstep F M) fun k L hg => ?_
    unfold fstep at hg
    split at hg
    · exact h k L hg
    · rw [fget_snoc] at hg
      cases hf : fget F k with
      | some v => rw [hf] at hg; simp only at hg; exact h k L (by rw [hf]; exact hg)
      | none =>
        rw [hf] at hg
        simp only at hg
        split at hg
        · rename_i e; cases hg; exact e.symm
        · cases hg
theorem fresh_nodup : ∀ (Ls : List (List UInt8)) (F : BL), (F.map (·.1)).Nodup → ((Ls.foldl fstep F).map (·.1)).Nodup
  | [], F, h => h
  | M :: Ls, F, h => by
    rw [List.foldl_cons]
    refine fresh_nodup Ls (fstep F M) ?_
    unfold fstep
    split
    · exact h
    · rename_i hn
      rw [List.map_append, List.nodup_append]
      refine ⟨h, by simp, fun a ha b hb => ?_⟩
      simp only [List.map_cons, List.map_nil, List.mem_singleton] at hb
      subst hb
      rintro rfl
      obtain ⟨x, hx, e⟩ := List.mem_map.1 ha
      apply hn
      unfold fget
      rw [Option.isSome_map]
      rw [List.find?_isSome]
      exact ⟨x, hx, by simp [e]⟩
theorem put_step {V U : List UInt8 → Option (List UInt8)} {F : BL} {L : List UInt8} (hF : ∀ k L, fget F k = some L → Sha.sum L = k) (hU : ∀ k, U k = putv (V k) (fget F k) k) (k : List UInt8) :
    (if k = Sha.sum L then putv (U (Sha.sum L)) (some L) (Sha.sum L) else U k) = putv (V k) (fget (fstep F L) k) k := by
  unfold fstep
  cases hf : fget F (Sha.sum L) with
  | some M =>
    simp only [Option.isSome_some, if_true]
    by_cases e : k = Sha.sum L
    · subst e
      rw [if_pos rfl, hU, hf]
      have hM := hF _ _ hf
      cases hv : V (Sha.sum L) with
      | none => simp [putv, hM]
      | some old =>
        by_cases e2 : Sha.sum old = Sha.sum L
        · simp [putv, e2]
        · simp [putv, e2, hM]
    · rw [if_neg e, hU]
  | none =>
    simp only [Option.isSome_none, Bool.false_eq_true, if_false]
    rw [fget_snoc]
    by_cases e : k = Sha.sum L
    · subst e
      rw [if_pos rfl, hU, hf]
      simp [putv]
    · rw [if_neg e, hU]
      cases fget F k with
      | some M => rfl
      | none => simp [e]
theorem mget_filter {r : SM} {p : List UInt8 → Bool} {k : List UInt8} : mget (r.filter fun x => p x.1) k = if p k then mget r k else none := by
  induction r with
  | nil => simp [mget]
  | cons x r ih =>
    rw [List.filter_cons]
    by_cases e : x.1 = k
    · subst e
      cases hp : p x.1 with
      | true => simp only [if_true]; rw [mget_cons_eq rfl, mget_cons_eq rfl]
      | false => simp only [Bool.false_eq_true, if_false]; rw [ih, hp]; simp
    · rw [mget_cons_ne e]
      cases hp : p x.1 with
      | true => simp only [if_true]; rw [mget_cons_ne e, ih]
      | false => simp only [Bool.false_eq_true, if_false]; exact ih
theorem vget_filter {r : SM} {p : List UInt8 → Bool} {k : List UInt8} : vget (r.filter fun x => p x.1) k = if p k then vget r k else none := by
  unfold vget; rw [mget_filter]; split <;> rfl
def toSM (F : BL) : SM := F.map fun x => (x.1, ((none, 0, 0), x.2), 0)
theorem view_toSM {F : BL} : view (toSM F) = F := by
  unfold view toSM
  rw [List.map_map]
  conv => rhs; rw [← List.map_id F]
  rfl
theorem vget_toSM {F : BL} {k : List UInt8} : vget (toSM F) k = fget F k := by rw [← fget_view, view_toSM]
/-- The new blobs' bytes, counted in the one way and the other. -/
theorem newsum_extra {tl rl : SM} {F : BL} (hk : (tl.map (·.1)).Nodup) (hF : (F.map (·.1)).Nodup) (hv : ∀ k, vget tl k = putv (vget rl k) (fget F k) k) : newsum tl rl = extra rl F := by
  have h1 : newsum tl rl = total (tl.filter fun x => (vget rl x.1).isNone) := rfl
  have h2 : extra rl F = total ((toSM F).filter fun x => (vget rl x.1).isNone) := by
    unfold extra total toSM
    rw [List.filter_map, List.map_map]
    rfl
  rw [h1, h2]
  refine (same_view (hk.sublist (List.Sublist.map _ List.filter_sublist)) (List.Nodup.sublist (List.Sublist.map _ List.filter_sublist) (by simpa [toSM, Function.comp_def] using hF)) fun k => ?_).1
  rw [vget_filter (p := fun k => (vget rl k).isNone), vget_filter (p := fun k => (vget rl k).isNone), vget_toSM, hv]
  cases vget rl k with
  | none => cases fget F k <;> rfl
  | some v => rfl
theorem Mine.putk {H : Heap} {B sz : Nat} {T : TypeId} {x : Option Addr × Nat × Nat} {vs : List Value} (h : Mine H B T sz x vs) {i : Nat} (hi : i < vs.length) (v : Value) :
    ∃ b c, x.1 = some ⟨b, 0, none⟩ ∧ H[b]? = some (.cells c T (0, 0)) ∧ i < c.size ∧ Mine (H.setIfInBounds b (.cells (c.setIfInBounds i v) T (0, 0))) B T sz x (vs.set i v) := by
  rcases h with ⟨_, rfl⟩ | ⟨b, c, hx, hB, hb, hc, hl, hle, he⟩
  · cases hi
  · have hvc : vs.length ≤ c.size := by rw [hl, hc]; exact Nat.mul_le_mul_right sz hle
    have hget : ∀ j, j < vs.length → c[j]? = vs[j]? := by
      intro j hj
      have : ((c.extract 0 vs.length).toList)[j]? = vs[j]? := by rw [he]
      rw [Array.getElem?_toList, Array.getElem?_extract, if_pos (by omega)] at this
      simpa using this
    refine ⟨b, c, hx, hb, by omega, .inr ⟨b, _, hx, hB, set_new hb, by simpa using hc, by simpa using hl, hle, ?_⟩⟩
    apply List.ext_getElem?
    intro j
    rw [Array.getElem?_toList, Array.getElem?_extract]
    simp only [List.length_set, Nat.sub_zero, Nat.zero_add, Array.size_setIfInBounds]
    by_cases hj : j < vs.length
    · rw [if_pos (by omega), Array.getElem?_setIfInBounds, List.getElem?_set]
      by_cases e : i = j
      · subst e; simp [hi, show i < c.size by omega]
      · simp only [e, if_false]; exact hget j hj
    · rw [if_neg (by omega), List.getElem?_eq_none (by simp; omega)]
theorem set_mid {pre t : SM} {y : BE} {v : Option Addr × Nat × Nat} {L : List UInt8} {s : Nat} : ((pre ++ y :: t).flatMap encB).set (pre.length * 33 + 32) (slcV v) = (pre ++ (y.1, (v, L), s) :: t).flatMap encB := by
  have h1 : (pre.flatMap encB).length = pre.length * 33 := length_flatMap_k encB len_encB _
  have h2 : (byteCells (pad y.1)).length = 32 := by rw [length_byteCells, len_pad]
  simp only [List.flatMap_append, List.flatMap_cons]
  rw [List.set_append_right _ _ (by omega), h1, Nat.add_sub_cancel_left, List.set_append_left _ _ (by rw [len_encB]; omega)]
  congr 2
  unfold encB
  rw [List.set_append_right _ _ (by omega), h2]
  rfl
theorem rise_gap {rl pre rest : SM} {k : List UInt8} (h : Split rl k pre rest) (hr : Rising rl) (hh : hit rest k = false) : ∀ x ∈ rest, Lib.compareBytes k x.1 < 0 := by
  intro x hx
  have h1 := h.hi x hx
  have h2 : x.1 ≠ k := by
    intro e
    have hv := vget_mem hr.nodup (y := x) (by rw [h.eq]; simp [hx])
    rw [e, hit_none h hr hh] at hv
    cases hv
  have h3 : Lib.compareBytes x.1 k ≠ 0 := fun e => h2 (cmpB_eq.1 e)
  rw [cmpB_neg]
  rcases cmpB_range (a := x.1) (b := k) with e | e | e <;> omega
end Go.Proofs.YtkolbfjheleoaaaDoor

/- The contract of the reference's PutAll. -/
namespace Go.Proofs.YtkolbfjheleoaaaDoor
open Go Go.Fw Go.Proofs

/-- What holds while the blobs are put into the clone. -/
def Pt (H : Heap) (pc : Nat) (q : Int) (rl : SM) (Ls : List (List UInt8)) (i : Nat) (W : World) : Prop := ∃ tl fpc, Ext [] H W.heap ∧ RStore W.heap fpc pc q tl ∧ (∀ b ∈ fpc, H.size ≤ b ∧ b < W.heap.size) ∧
  (∀ k, vget tl k = putv (vget rl k) (fget (fresh (Ls.take i)) k) k) ∧ tl.length ≤ rl.length + i ∧ total tl ≤ total rl + 4096 * i ∧ ∀ x ∈ tl, x.2.1.2.length < 1099511627776
theorem Pt.next {H : Heap} {pc : Nat} {q : Int} {rl tl : SM} {Ls : List (List UInt8)} {i : Nat} (hi : i < Ls.length) {U : List UInt8 → Option (List UInt8)} (hU : ∀ k, U k = putv (vget rl k) (fget (fresh (Ls.take i)) k) k)
    (ht : ∀ k, vget tl k = if k = Sha.sum Ls[i] then putv (U (Sha.sum Ls[i])) (some Ls[i]) (Sha.sum Ls[i]) else U k) : ∀ k, vget tl k = putv (vget rl k) (fget (fresh (Ls.take (i + 1))) k) k := by
  intro k
  rw [ht, fresh_snoc hi]
  exact put_step (fresh_key _ [] (by intro k L h; simp [fget] at h)) hU k

set_option maxHeartbeats 16000000 in
theorem rputall_c {w : World} {H : Heap} {fp : List Nat} {p : Nat} {q : Int} {rl : SM} {a : Option Addr} {n nc : Nat} {Ls : List (List UInt8)} (hw : w.heap = H) (hS : RStore H fp p q rl) (hfp : ∀ b ∈ fp, b < H.size)
    (hL : Rows H a n Ls) (hb : total rl + 4096 * Ls.length < 1125899906842624) (hn : rl.length + Ls.length < 274877906944) (hq : 0 ≤ q) (hq2 : q ≤ 9223372036854775807) (hlen : ∀ x ∈ rl, x.2.1.2.length < 1099511627776) (hlens : ∀ L ∈ Ls, L.length < 140737488351233) :
    CallF P F_r05_Store_PutAll #[.pointer (some ⟨p, 0, none⟩), .slice a n nc] w fun e w' => ∃ code rl' fp', e = .returned (.int .i64 code) ∧ RStore w'.heap fp' p q rl' ∧ Ext fp H w'.heap ∧ (∀ b ∈ fp', b ∈ fp ∨ (H.size ≤ b ∧ b < w'.heap.size)) ∧ PutRes q rl Ls code rl' ∧
      rl'.length ≤ rl.length + Ls.length ∧ total rl' ≤ total rl + 4096 * Ls.length ∧ ∀ x ∈ rl', x.2.1.2.length < 1099511627776 := by
  obtain ⟨rfl, hL⟩ := hL
  refine fn_r05_Store_PutAll ?_
  unfold T_r05_Store_PutAll
  refine loopP_of (fun (s : Int) W => ∃ i : Nat, s = (i : Int) ∧ i ≤ Ls.length ∧ W = w ∧ ∀ j (h : j < Ls.length), j < i → Ls[j].length ≤ 4096) (fun s _ => (Ls.length - s).toNat) ⟨0, rfl, Nat.zero_le _, rfl, by intro j h h2; omega⟩ ?_
  rintro _ _ ⟨i, rfl, hi, rfl, hsh⟩
  refine iteP_dec (fun hlt => ?_) (fun hge => ?_)
  · have hil : i < Ls.length := by omega
    obtain ⟨bl, ol, cl, Tl, frl, xl, rfl, hbl, hcl, hxC, hxl, hxc⟩ := hL i hil
    refine ixS_1 i rfl hil ?_
    refine ld_h (s := .slc) (t := xl) hw hbl hcl ?_
    refine iteP_dec (fun hbig => ?_) (fun hsmall => ?_)
    · have hlong : long Ls := ⟨Ls[i], List.getElem_mem hil, by omega⟩
      exact ⟨2, rl, fp, rfl, by rw [hw]; exact hS, by rw [hw]; exact .refl _ _, fun b hb => .inl hb, ⟨fun _ => ⟨rfl, rfl⟩, fun h => absurd hlong h, fun h => absurd hlong h⟩, by omega, by omega, hlen⟩
    · refine addI_to ((i + 1 : Nat) : Int) (by omega) (by omega) (by omega) ?_
      refine ⟨⟨i + 1, rfl, by omega, rfl, fun j hj hj1 => ?_⟩, by omega⟩
      by_cases e : j = i
      · subst e; omega
      · exact hsh j hj (by omega)
  have hnlong : ¬ long Ls := by
    rintro ⟨L, hLm, hLl⟩
    obtain ⟨j, hj, rfl⟩ := List.mem_iff_getElem.1 hLm
    have := hsh j hj (by omega)
    omega
  have hsm : ∀ j (h : j < Ls.length), Ls[j].length ≤ 4096 := fun j h => hsh j h (by omega)
  clear hge hsh hi i
  refine callF_of (rclone_c hw hS (by omega) hlen) ?_
  rintro e w2 ⟨pc, fpc, tl0, rfl, hT0, hx2, hfpc, hbare⟩
  refine ⟨some ⟨pc, 0, none⟩, rfl, ?_⟩
  have htot0 : total tl0 = total rl := by
    have := congrArg (fun l => (l.map fun x : List UInt8 × List UInt8 => x.2.length).sum) hbare
    simpa [bare, total, Function.comp_def] using this
  refine loopP_of (fun (s : Int) W => ∃ i : Nat, s = (i : Int) ∧ i ≤ Ls.length ∧ Pt H pc q rl Ls i W) (fun s _ => (Ls.length - s).toNat) ⟨0, rfl, Nat.zero_le _, tl0, fpc, hx2, hT0, hfpc, fun k => by rw [bare_vget hbare]; rfl, by rw [bare_len hbare]; omega, by omega, ?_⟩ ?_
  · intro x hx
    have : (x.1, x.2.1.2) ∈ bare tl0 := List.mem_map.2 ⟨x, hx, rfl⟩
    rw [hbare] at this
    obtain ⟨y, hy, e⟩ := List.mem_map.1 this
    simp only [Prod.mk.injEq] at e
    rw [← e.2]; exact hlen y hy
  clear hT0 hbare hfpc hx2 htot0 fpc tl0
  rintro _ W ⟨i, rfl, hi, tl, fpc, hxW, hT, hfpc, hview, htl, htt, hlt2⟩
  refine iteP_dec (fun hlt => ?_) (fun hge => ?_)
  · have hil : i < Ls.length := by omega
    obtain ⟨bl, ol, cl, Tl, frl, xl, rfl, hbl, hcl, hxC, hxl, hxc⟩ := hL i hil
    have hLl := hsm i hil
    have hnext := fun (tl' : SM) => Pt.next (H := H) (pc := pc) (q := q) (tl := tl') hil hview
    refine joinP_of (fun _ W' => Pt H pc q rl Ls (i + 1) W') ?_ ?_
    rotate_left
    · rintro _ W' h
      refine addI_to ((i + 1 : Nat) : Int) (by omega) (by omega) (by omega) ?_
      exact ⟨⟨i + 1, rfl, by omega, h⟩, by omega⟩
    refine joinP_of (fun _ W' => Pt H pc q rl Ls (i + 1) W') ?_ (fun _ _ h => h)
    generalize hLL : Ls[i] = L at *
    refine ixS_1 i rfl hil ?_
    refine ld_h (s := .slc) (t := xl) rfl (hxW.get hbl (by simp)) hcl ?_
    refine callF_of (refsum_c rfl (hxC.ext hxW (by simp)) hxl (by omega)) ?_
    rintro e w4 ⟨rfl, hx4⟩
    refine ⟨arr (Sha.sum L), rfl, ?_⟩
    refine var27 rfl len_sum fun w6 hb6 hx6 hs6 => ?_
    have hx46 := hx4.trans hx6
    have hx06 := hxW.trans hx46
    refine ldA_all rfl hb6 (by simp [byteCells, len_sum]) ?_
    have hT6 := hT.ext hx46 (by simp)
    refine callF_of (find_c rfl hT6 len_sum (by omega)) ?_
    rintro e w7 ⟨pre, rest, rfl, hsp, hx7⟩
    refine ⟨((pre.length : Int), hit rest (Sha.sum L)), rfl, ?_⟩
    have hx07 := hx06.trans hx7
    have hT7 := hT6.ext hx7 (by simp)
    have hb7 := hx7.get hb6 (by simp)
    have hW7 : W.heap.size ≤ w7.heap.size := (hx46.trans hx7).1
    have hHW := hxW.1
    have hrise := hT.rise
    have hfp7 : ∀ b ∈ fpc, H.size ≤ b ∧ b < w7.heap.size := fun b hb => ⟨(hfpc b hb).1, by have := (hfpc b hb).2; omega⟩
    generalize w4.heap.size = bk at *
    clear hx4 hx6 hx46 hx06 hT hT6 hb6 hfpc hxW hs6
    cases hh : hit rest (Sha.sum L) with
    | false =>
      refine iteP_t rfl ?_
      have hvn := hit_none hsp hrise hh
      have hgap := rise_gap hsp hrise hh
      obtain ⟨xt, t1, t2, t3, t4, t5, t6, t7⟩ := hT7
      have hpH := (hfp7 _ t3).1
      have heq := hsp.eq
      subst heq
      have hll : (pre ++ rest).length = pre.length + rest.length := by simp
      have hxl7 := mine_len t2
      have hxc7 := mine_le t2
      refine nilB rfl fun w8 hx8 hm8 => ?_
      have hx78 := hx8
      simp only [withAddr_some, add_none, Nat.zero_add]
      refine ld_h (s := .slc) (t := xt) rfl (hx78.get t1 (by simp)) rfl ?_
      obtain ⟨a1, hr1, hC1⟩ := slB_to (i := pre.length) (t2.ext hx78 (by simp)).cells hxl7 hxc7 (by omega) rfl
      rw [List.take_left] at hC1
      refine genQ_of (s := .slc) (a1, pre.length, xt.2.2) (hr1 _) ?_
      refine appB (r1 := []) (r2 := pre) rfl hm8 hx8.1 hC1 rfl (by simp; omega) ?_
      intro x9 w9 hm9 hl9 hx9 hs9
      rw [List.nil_append] at hm9
      have hx79 : Ext [] w7.heap w9.heap := hx8.own hx9 (by intro b hb; simp [ownM] at hb; omega)
      refine drewP_h rfl fun w10 hw10 => ?_
      have hx910 : Ext [] w9.heap w10.heap := by rw [hw10]; exact .refl _ _
      have hx710 := hx79.trans hx910
      refine ixS_1 i rfl hil ?_
      refine ldA_all rfl (hx710.get hb7 (by simp)) (by simp [byteCells, len_sum]) ?_
      have hbl10 := (hx07.trans hx710).get hbl (by simp)
      refine ld_h (s := .slc) (t := xl) rfl hbl10 hcl ?_
      refine nil8 rfl fun w11 hx11 hm11 => ?_
      have hx711 := hx710.trans hx11
      refine ⟨ld_h (s := .slc) (t := xl) rfl (hx11.get hbl10 (by simp)) hcl rfl, ?_⟩
      refine ⟨ldA_all rfl (hx711.get hb7 (by simp)) (by simp [byteCells, len_sum]) rfl, ?_⟩
      refine copy8 rfl hm11 hx11.1 (hxC.ext (hx07.trans hx711) (by simp)) hxl (by omega) ?_
      intro x12 w12 hm12 hl12 hx12
      have hx712 : Ext [] w7.heap w12.heap := hx711.own hx12 (by intro b hb hlt; have := hx710.1; simp [ownM] at hb; omega)
      have hx912 : Ext [] w9.heap w12.heap := (hx910.trans hx11).own hx12 (by intro b hb hlt; have := hx910.1; simp [ownM] at hb; omega)
      refine ⟨ldA_all rfl (hx712.get hb7 (by simp)) (by simp [byteCells, len_sum]) rfl, ?_⟩
      refine row1B rfl (Sha.sum L, (x12, L), 0) len_sum fun a13 w13 hx13 hC13 => ?_
      have hx913 := hx912.trans hx13
      have hx713 := hx712.trans hx13
      have hm13 := hm9.ext hx913 (by simp)
      have hs78 := hx8.1
      have hs79 := hx79.1
      refine appB (r1 := pre) (r2 := [(Sha.sum L, (x12, L), 0)]) rfl hm13 (by have := hx713.1; omega) hC13 rfl (by simp; omega) ?_
      intro x14 w14 hm14 hl14 hx14 hs14
      have hx714 : Ext [] w7.heap w14.heap := hx713.own hx14 (by intro b hb hlt; have := ownM_ge hm13 b hb; omega)
      refine ld_h (s := .slc) (t := xt) rfl (hx714.get t1 (by simp)) rfl ?_
      obtain ⟨a2, hr2, hC2⟩ := slB_from (i := pre.length) (t2.ext hx714 (by simp)).cells hxl7 hxc7 (by omega) rfl
      rw [List.drop_left] at hC2
      refine genQ_of (s := .slc) (a2, xt.2.1 - pre.length, xt.2.2 - pre.length) (hr2 _) ?_
      refine appB (r1 := pre ++ [(Sha.sum L, (x12, L), 0)]) (r2 := rest) rfl hm14 (by have := hx714.1; omega) hC2 (by simp only; omega) (by simp; omega) ?_
      intro x15 w15 hm15 hl15 hx15 hs15
      have hx715 : Ext [] w7.heap w15.heap := hx714.own hx15 (by intro b hb hlt; have := ownM_ge hm14 b hb; omega)
      have t15 := hx715.get t1 (by simp)
      refine stC_h rfl t15 (by simp) fun w16 hw16 => ?_
      have hx1516 : Ext [pc] w15.heap w16.heap := by rw [hw16]; exact Ext.set _ (by simp)
      rw [List.append_assoc, List.singleton_append] at hm15
      have hg15 := ownM_ge hm15
      have hg12 := ownM_ge hm12
      have hpc7 := (hfp7 _ t3).2
      have hm16 := hm15.ext hx1516 (fun b hb => by have := hg15 b hb; simp only [List.mem_singleton]; omega)
      have h12_15 : Mine w15.heap 0 y_uint8 1 x12 (byteCells L) := by
        have h1 := hm12.ext hx13 (by simp)
        have h2 := h1.ext hx14 (fun b hb hb2 => by
          obtain ⟨_, c1, e1⟩ := mine_lt h1 b hb
          obtain ⟨_, c2, e2⟩ := mine_lt hm13 b hb2
          rw [e1] at e2; cases e2)
        have h3 := h2.ext hx15 (fun b hb hb2 => by
          obtain ⟨_, c1, e1⟩ := mine_lt h2 b hb
          obtain ⟨_, c2, e2⟩ := mine_lt hm14 b hb2
          rw [e1] at e2; cases e2)
        exact h3.mono (Nat.zero_le _)
      have hs712 := hx712.1
      have hs710 := hx710.1
      have h12_16 : Mine w16.heap 0 y_uint8 1 x12 (byteCells L) := h12_15.ext hx1516 (fun b hb => by have := hg12 b hb; simp only [List.mem_singleton]; omega)
      refine ⟨pre ++ (Sha.sum L, (x12, L), 0) :: rest, fpc ++ ownM x15 ++ ownM x12, (hx07.trans hx715).own hx1516 (by intro b hb hlt; simp at hb; omega), ⟨x15, by rw [hw16]; exact set_new t15, hm16.mono (Nat.zero_le _), by simp [t3], fun b hb => by simp [hb], ?_, ?_, ?_⟩, ?_, ?_, ?_, ?_, ?_⟩
      · intro z hz
        rcases mem_mid.1 hz with rfl | hz
        · exact ⟨h12_16, fun b hb => by simp only [List.mem_append]; exact .inr hb⟩
        · have hV := (t5.ext hx715 (by simp)).off (o := .map #[] 0) t15 (by decide) hx1516
          exact ⟨(hV z hz).1, fun b hb => by simp [(hV z hz).2 b hb]⟩
      · refine t6.mid fun z hz b hb hb2 => ?_
        have h1 := hg12 b hb
        have h2 := (hfp7 b ((t5 z hz).2 b hb2)).2
        have := hx710.1
        omega
      · exact t7.mid len_sum hsp.lo hgap
      · intro b hb
        rw [List.append_assoc] at hb
        rcases List.mem_append.1 hb with hb | hb
        · exact ⟨(hfp7 b hb).1, by have := (hfp7 b hb).2; have := hx715.1; have := hx1516.1; omega⟩
        · rcases List.mem_append.1 hb with hb | hb
          · exact ⟨by have := hg15 b hb; omega, (mine_lt hm16 b hb).1⟩
          · exact ⟨by have := hg12 b hb; omega, (mine_lt h12_16 b hb).1⟩
      · refine hnext _ fun k => ?_
        rw [vget_mid (y := (Sha.sum L, (x12, L), 0)) (fun z hz => lt_ne (hsp.lo z hz)), hvn]
        rfl
      · simp only [List.length_append, List.length_cons] at htl ⊢; omega
      · rw [total_mid]; simp only; omega
      · intro z hz
        rcases mem_mid.1 hz with rfl | hz
        · simp only; omega
        · exact hlt2 z hz
    | true =>
      refine iteP_f rfl ?_
      obtain ⟨y, t, rfl, hyk, hvy, hget, hmem⟩ := hit_some hsp hrise hh
      obtain ⟨xt, t1, t2, t3, t4, t5, t6, t7⟩ := hT7
      have hpH := (hfp7 _ t3).1
      have hxl7 := mine_len t2
      have hyl := vals_ix t5 hget
      have hyL := hlt2 _ hmem
      refine drewP_h rfl fun w17 hw17 => ?_
      have hx17 : Ext [] w7.heap w17.heap := by rw [hw17]; exact .refl _ _
      simp only [withAddr_some, add_none, Nat.zero_add]
      refine ld_h (s := .slc) (t := xt) rfl (hx17.get t1 (by simp)) rfl ?_
      refine blob_val rfl (t2.ext hx17 (by simp)).cells hxl7 hget rfl ?_
      refine ldA_all rfl (hx17.get hb7 (by simp)) (by simp [byteCells, len_sum]) ?_
      refine callF_of (refsum_c rfl ((t5 y hmem).1.ext hx17 (by simp)).cells hyl (by omega)) ?_
      rintro e w18 ⟨rfl, hx18⟩
      refine ⟨arr (Sha.sum y.2.1.2), rfl, ?_⟩
      have hx718 := hx17.trans hx18
      refine ⟨ldA_all rfl (hx718.get hb7 (by simp)) (by simp [byteCells, len_sum]) rfl, ?_⟩
      refine genQ_of (s := .bool) _ (neqM_arr u27 u5 c5 g27 len_sum len_sum) ?_
      have heq := hsp.eq
      subst heq
      obtain ⟨_, hlo, hhi⟩ := rise_mid.1 hrise
      by_cases e : Sha.sum y.2.1.2 = Sha.sum L
      · refine iteP_f (by simp [e]) ?_
        refine ⟨pre ++ y :: t, fpc, hx07.trans hx718, ⟨xt, hx718.get t1 (by simp), t2.ext hx718 (by simp), t3, t4, t5.ext hx718 (by simp), t6, t7⟩, fun b hb => ⟨(hfp7 b hb).1, by have := (hfp7 b hb).2; have := hx718.1; omega⟩, ?_, by omega, by omega, hlt2⟩
        refine hnext _ fun k => ?_
        rw [hvy]
        by_cases e2 : k = Sha.sum L
        · rw [if_pos e2, e2, hvy]; simp [putv, e]
        · rw [if_neg e2]
      · refine iteP_t (by simp [e]) ?_
        refine drewP_h rfl fun w19 hw19 => ?_
        have hx719 : Ext [] w7.heap w19.heap := by rw [hw19]; exact hx718
        refine ixS_1 i rfl hil ?_
        have t119 := hx719.get t1 (by simp)
        refine ld_h (s := .slc) (t := xt) rfl t119 rfl ?_
        have hbl19 := (hx07.trans hx719).get hbl (by simp)
        refine ld_h (s := .slc) (t := xl) rfl hbl19 hcl ?_
        refine nil8 rfl fun w20 hx20 hm20 => ?_
        refine ⟨ld_h (s := .slc) (t := xl) rfl (hx20.get hbl19 (by simp)) hcl rfl, ?_⟩
        refine ⟨ld_h (s := .slc) (t := xt) rfl (hx20.get t119 (by simp)) rfl rfl, ?_⟩
        have hx720 := hx719.trans hx20
        refine copy8 rfl hm20 hx20.1 (hxC.ext (hx07.trans hx720) (by simp)) hxl (by omega) ?_
        intro x21 w21 hm21 hl21 hx21
        have hx721 : Ext [] w7.heap w21.heap := hx720.own hx21 (by intro b hb hlt; have := hx719.1; simp [ownM] at hb; omega)
        have t121 := hx721.get t1 (by simp)
        refine ⟨ld_h (s := .slc) (t := xt) rfl t121 rfl rfl, ?_⟩
        have t221 := t2.ext hx721 (by simp)
        have hlv : ((pre ++ y :: t).flatMap encB).length = (pre ++ y :: t).length * 33 := length_flatMap_k encB len_encB _
        obtain ⟨bb, cc, hxa, hbb, hic, hput⟩ := Mine.putk t221 (i := pre.length * 33 + 32) (by rw [hlv]; simp; omega) (slcV x21)
        rw [set_mid (s := y.2.2) (L := L)] at hput
        rw [hxa]
        refine ixS_h pre.length rfl (by rw [hxl7]; simp) ?_
        simp only [add_none, Nat.zero_add]
        refine stC_h rfl hbb hic fun w22 hw22 => ?_
        have hw22' : w22.heap = w21.heap.setIfInBounds bb (.cells (cc.setIfInBounds (pre.length * 33 + 32) (slcV x21)) y_r05_Blob (0, 0)) := hw22
        rw [← hw22'] at hput
        have hx2122 : Ext [bb] w21.heap w22.heap := by rw [hw22]; exact Ext.set _ (by simp)
        have hbf : bb ∈ fpc := t4 bb (by simp only [ownM]; rw [hxa]; simp)
        have hg21 := ownM_ge hm21
        have hs719 := hx719.1
        have h21_22 : Mine w22.heap 0 y_uint8 1 x21 (byteCells L) := (hm21.mono (Nat.zero_le _)).ext hx2122 (fun b hb => by have := hg21 b hb; have := (hfp7 _ hbf).2; simp only [List.mem_singleton]; omega)
        refine ⟨pre ++ (y.1, (x21, L), y.2.2) :: t, fpc ++ ownM x21, (hx07.trans hx721).own hx2122 (by intro b hb hlt; simp at hb; have := (hfp7 _ hbf).1; omega), ⟨xt, hx2122.get t121 ?_, hput, by simp [t3], fun b hb => by simp [t4 b hb], ?_, ?_, ?_⟩, ?_, ?_, ?_, ?_, ?_⟩
        · simp only [List.mem_singleton]; rintro rfl; rw [t121] at hbb; cases hbb
        · intro z hz
          rcases mem_mid.1 hz with rfl | hz
          · exact ⟨h21_22, fun b hb => by simp only [List.mem_append]; exact .inr hb⟩
          · have hV := (t5.ext hx721 (by simp)).off (o := .map #[] 0) hbb (by decide) hx2122
            have hz' : z ∈ pre ++ y :: t := mem_mid.2 (.inr hz)
            exact ⟨(hV z hz').1, fun b hb => by simp [(hV z hz').2 b hb]⟩
        · refine Apart.mid (t6.sub fun z hz => mem_mid.2 (.inr hz)) fun z hz b hb hb2 => ?_
          have h1 := hg21 b hb
          have h2 := (hfp7 b ((t5 z (mem_mid.2 (.inr hz))).2 b hb2)).2
          omega
        · exact t7.sub.mid (t7.len y hmem) hlo hhi
        · intro b hb
          rcases List.mem_append.1 hb with hb | hb
          · exact ⟨(hfp7 b hb).1, by have := (hfp7 b hb).2; have := hx721.1; have := hx2122.1; omega⟩
          · exact ⟨by have := hg21 b hb; omega, (mine_lt h21_22 b hb).1⟩
        · refine hnext _ fun k => ?_
          rw [vget_mid (y := (y.1, (x21, L), y.2.2)) (fun z hz => lt_ne (hlo z hz)), hvy]
          show (if k = y.1 then some L else _) = _
          rw [hyk]
          by_cases e2 : k = Sha.sum L
          · rw [if_pos e2, if_pos e2]; simp [putv, e]
          · rw [if_neg e2, if_neg e2, vget_mid (y := y) (fun z hz => lt_ne (hlo z hz)), if_neg (by rw [hyk]; exact e2)]
        · simp only [List.length_append, List.length_cons] at htl ⊢; omega
        · rw [total_mid] at htt ⊢; simp only; omega
        · intro z hz
          rcases mem_mid.1 hz with rfl | hz
          · simp only; omega
          · exact hlt2 z (mem_mid.2 (.inr hz))
  · have hie : i = Ls.length := by omega
    subst hie
    rw [List.take_length] at hview
    refine drewP_h rfl fun w25 hw25 => ?_
    have hxW5 : Ext [] W.heap w25.heap := by rw [hw25]; exact .refl _ _
    have hx25 := hxW.trans hxW5
    have hS25 := hS.ext hx25 (by simp)
    have hT25 := hT.ext hxW5 (by simp)
    obtain ⟨x, h1, h2, h3, h4, h5, h6, h7⟩ := hS
    simp only [withAddr_some, add_none, Nat.zero_add]
    refine ld_h (s := .int .i64) (t := q) rfl (hx25.get h1 (by simp)) rfl ?_
    refine callF_of (rfresh_c rfl hT25 hS25 (by omega) (by omega) (by omega)) ?_
    rintro e w26 ⟨rfl, hx26⟩
    refine ⟨_, rfl, ?_⟩
    have hx026 := hx25.trans hx26
    refine ⟨ld_h (s := .int .i64) (t := q) rfl (hx026.get h1 (by simp)) rfl rfl, ?_⟩
    refine callF_of (rbytes_c rfl (hS25.ext hx26 (by simp)) (by omega) (by omega)) ?_
    rintro e w27 ⟨rfl, rfl⟩
    refine ⟨(total rl : Int), rfl, ?_⟩
    refine ⟨ld_h (s := .int .i64) (t := q) rfl (hx026.get h1 (by simp)) rfl rfl, ?_⟩
    refine subI_to (q - total rl) rfl (by omega) (by omega) ?_
    have hext : newsum tl rl = extra rl (fresh Ls) := newsum_extra hT.keys (fresh_nodup Ls [] (by simp)) hview
    have hT26 := hT25.ext hx26 (by simp)
    have hpl := lt_of_get h1
    refine iteP_dec (fun hfull => ?_) (fun hfit => ?_)
    · refine ⟨3, rl, fp, rfl, hS25.ext hx26 (by simp), hx026.mono (by simp), fun b hb => .inl hb, ⟨fun h => absurd h hnlong, fun _ _ => ⟨rfl, rfl⟩, fun _ h => absurd (by omega) h⟩, by omega, by omega, hlen⟩
    · obtain ⟨xt, t1, t2, t3, t4, t5, t6, t7⟩ := hT26
      refine ld_h (s := .slc) (t := xt) rfl t1 rfl ?_
      have hp26 := hx026.get h1 (by simp)
      refine stC_h rfl hp26 (by simp) fun w28 hw28 => ?_
      have hx28 : Ext [p] w27.heap w28.heap := by rw [hw28]; exact Ext.set _ (by simp)
      have hnp : ∀ b ∈ fpc, b ∉ [p] := fun b hb => by have := (hfpc b hb).1; simp only [List.mem_singleton]; omega
      refine ⟨0, tl, fp ++ fpc, rfl, ⟨xt, by rw [hw28]; exact set_new hp26, t2.ext hx28 (fun b hb => hnp b (t4 b hb)), by simp [h3], fun b hb => by simp [t4 b hb], (t5.ext hx28 hnp).mono (fun b hb => by simp [hb]), t6, t7⟩, (hx026.mono (by simp)).trans (hx28.mono (by simpa using h3)), ?_, ⟨fun h => absurd h hnlong, fun _ h => absurd h (by omega), fun _ _ => ⟨rfl, hview⟩⟩, by omega, by omega, hlt2⟩
      intro b hb
      rcases List.mem_append.1 hb with hb | hb
      · exact .inl hb
      · exact .inr ⟨(hfpc b hb).1, by have := (hfpc b hb).2; have := hxW5.1; have := hx26.1; have := hx28.1; omega⟩
end Go.Proofs.YtkolbfjheleoaaaDoor

/- Put of the reference; the store and the reference side by side. -/
namespace Go.Proofs.YtkolbfjheleoaaaDoor
open Go Go.Fw Go.Proofs

theorem extra_same {r rl : SM} (h : ∀ k, vget r k = vget rl k) (F : BL) : extra r F = extra rl F := by
  unfold extra
  rw [show (fun x : List UInt8 × List UInt8 => (vget r x.1).isNone) = fun x => (vget rl x.1).isNone from funext fun x => by rw [h]]
theorem putres_same {q : Int} {r r' rl rl' : SM} {Ls : List (List UInt8)} {code code' : Int} (h : PutRes q r Ls code r') (h' : PutRes q rl Ls code' rl') (hv : ∀ k, vget r k = vget rl k) (ht : total r = total rl) : code = code' ∧ ∀ k, vget r' k = vget rl' k := by
  have hx := extra_same hv (fresh Ls)
  by_cases hl : long Ls
  · obtain ⟨rfl, rfl⟩ := h.1 hl
    obtain ⟨rfl, rfl⟩ := h'.1 hl
    exact ⟨rfl, hv⟩
  by_cases hf : q < total r + extra r (fresh Ls)
  · obtain ⟨rfl, rfl⟩ := h.2.1 hl hf
    obtain ⟨rfl, rfl⟩ := h'.2.1 hl (by omega)
    exact ⟨rfl, hv⟩
  · obtain ⟨rfl, h2⟩ := h.2.2 hl hf
    obtain ⟨rfl, h3⟩ := h'.2.2 hl (by omega)
    exact ⟨rfl, fun k => by rw [h2, h3, hv]⟩

theorem rput_c {w : World} {H : Heap} {fp : List Nat} {p : Nat} {q : Int} {rl : SM} {a : Option Addr} {l lc : Nat} {L : List UInt8} (hw : w.heap = H) (hS : RStore H fp p q rl) (hfp : ∀ b ∈ fp, b < H.size)
    (hL : Cells H a (byteCells L)) (hl : l = L.length) (hc : l ≤ lc) (ha : L ≠ [] → ∀ y, a = some y → y.block ∉ fp)
    (hb : total rl + 4096 < 1125899906842624) (hn : rl.length + 1 < 274877906944) (hq : 0 ≤ q) (hq2 : q ≤ 9223372036854775807) (hlen : ∀ x ∈ rl, x.2.1.2.length < 1099511627776) (hlens : L.length < 140737488351233) :
    CallF P F_r05_Store_Put #[.pointer (some ⟨p, 0, none⟩), .slice a l lc] w fun e w' => ∃ code rl' fp', e = .returned (.tuple #[arr (if code = 0 then Sha.sum L else nought), .int .i64 code]) ∧ RStore w'.heap fp' p q rl' ∧ Ext fp H w'.heap ∧ (∀ b ∈ fp', b ∈ fp ∨ (H.size ≤ b ∧ b < w'.heap.size)) ∧ PutRes q rl [L] code rl' ∧
      rl'.length ≤ rl.length + 1 ∧ total rl' ≤ total rl + 4096 ∧ ∀ x ∈ rl', x.2.1.2.length < 1099511627776 := by
  refine fn_r05_Store_Put ?_
  unfold T_r05_Store_Put
  refine newB_h hw fun w1 hw1 => ?_
  have hx1 : Ext [] H (H.push (.cells (zc P y_api_Digest) y_api_Digest)) := .push _
  have hz1 : (H.push (.cells (zc P y_api_Digest) y_api_Digest (0, 0)))[H.size]? = some (.cells (zc P y_api_Digest) y_api_Digest (0, 0)) := push_new
  generalize hH1 : H.push (.cells (zc P y_api_Digest) y_api_Digest (0, 0)) = H1 at *
  refine genL_of (s := .slc) (some ⟨H1.size, 0, none⟩, 1, 1) _ (by rw [bs37, hw1]; rfl) ?_
  have hx2 : Ext [] H1 (H1.push (.cells #[.slice a l lc] 22 (0, 0))) := .push _
  have hl2 : (H1.push (.cells #[.slice a l lc] 22 (0, 0)))[H1.size]? = some (.cells #[.slice a l lc] 22 (0, 0)) := push_new
  generalize hH2 : H1.push (.cells #[.slice a l lc] 22 (0, 0)) = H2 at *
  have hx02 := hx1.trans hx2
  have hs1 : H1.size = H.size + 1 := by rw [← hH1]; simp
  have hs2 : H2.size = H.size + 2 := by rw [← hH2]; simp [hs1]
  refine callF_of (rputall_c (w := { w1 with heap := H2 }) (H := H2) (Ls := [L]) rfl (hS.ext hx02 (by simp)) (fun b hb => by have := hfp b hb; omega) ⟨by simp, fun i hi => ?_⟩ (by simpa using hb) (by simpa using hn) hq hq2 hlen (by intro M hM; simp only [List.mem_singleton] at hM; subst hM; exact hlens)) ?_
  · obtain rfl : i = 0 := by simp at hi; omega
    exact ⟨H1.size, 0, _, _, _, (a, l, lc), rfl, hl2, rfl, hL.ext hx02 (by simp), hl, hc⟩
  rintro e w3 ⟨code, r', fp', rfl, hS3, hx3, hsub, hres, hrl, htot, hsm⟩
  refine ⟨code, rfl, ?_⟩
  have hx03 : Ext fp H w3.heap := (hx02.mono (by simp)).trans hx3
  have hz3 := (hx3.get (hx2.get hz1 (by simp)) (fun h => absurd (hfp _ h) (by omega)))
  generalize hH3 : w3.heap = H3 at *
  have hn3 : H.size ∉ fp' := fun h => by rcases hsub _ h with h | h; exact absurd (hfp _ h) (by omega); omega
  have hsub' : ∀ {W : World}, H3.size ≤ W.heap.size → ∀ b ∈ fp', b ∈ fp ∨ (H.size ≤ b ∧ b < W.heap.size) := fun h3 b hb => by rcases hsub b hb with h | h; exact .inl h; exact .inr (by omega)
  refine iteP_ne (fun hne => ?_) (fun heq => ?_)
  · refine genQ_of (s := .any) (arr nought) (b27 _) ?_
    refine storeVar_h (size27.trans (by rw [cells_arr, len_nought])) (by rw [cells_arr, len_nought]; omega) one_byteCells hH3 hz3 (by rw [zc27, cells_arr, len_nought]; simp) fun w5 hw5 => ?_
    rw [show setCells (zc P y_api_Digest) 0 (Value.cells (arr nought)).toList = (byteCells nought).toArray from by rw [setCells_all (by rw [zc27, Array.length_toList, cells_arr, len_nought]; simp)]; simp [Value.cells, arr]] at hw5
    refine ldA_all hw5 (set_new hz3) (by simp [byteCells, nought]) ?_
    have hx5 : Ext [H.size] H3 w5.heap := by rw [hw5]; exact Ext.set _ (by simp)
    refine ⟨code, r', fp', by rw [if_neg hne]; rfl, hS3.ext hx5 (fun b hb => ?_), hx03.own hx5 (by intro b hb hlt; simp at hb; omega), hsub' hx5.1, hres, by simpa using hrl, by simpa using htot, hsm⟩
    simp only [List.mem_singleton]
    rintro rfl
    exact hn3 hb
  · subst heq
    refine callF_of (refsum_c hH3 (hL.ext hx03 fun y hy hv => ha (by rintro rfl; exact hv rfl) y hy) hl hlens) ?_
    rintro e w4 ⟨rfl, hx4⟩
    refine ⟨arr (Sha.sum L), rfl, ?_⟩
    have hz4 := hx4.get hz3 (by simp)
    refine storeVar_h (size27.trans (by rw [cells_arr, len_sum])) (by rw [cells_arr, len_sum]; omega) one_byteCells rfl hz4 (by rw [zc27, cells_arr, len_sum]; simp) fun w5 hw5 => ?_
    rw [show setCells (zc P y_api_Digest) 0 (Value.cells (arr (Sha.sum L))).toList = (byteCells (Sha.sum L)).toArray from by rw [setCells_all (by rw [zc27, Array.length_toList, cells_arr, len_sum]; simp)]; simp [Value.cells, arr]] at hw5
    refine ldA_all hw5 (set_new hz4) (by simp [byteCells, len_sum]) ?_
    have hx5 : Ext [H.size] H3 w5.heap := by rw [hw5]; exact (hx4.mono (by simp)).trans (Ext.set _ (by simp))
    refine ⟨0, r', fp', by rw [if_pos rfl]; rfl, hS3.ext hx5 (fun b hb => ?_), hx03.own hx5 (by intro b hb hlt; simp at hb; omega), hsub' hx5.1, hres, by simpa using hrl, by simpa using htot, hsm⟩
    simp only [List.mem_singleton]
    rintro rfl
    exact hn3 hb

/-- The store and the reference, side by side. -/
def Pair (H0 : Heap) (p pr : Nat) (q : Int) (n : Nat) (w : World) : Prop := ∃ r c fp rl fpr, Ext [] H0 w.heap ∧ Store w.heap fp p q r c ∧ RStore w.heap fpr pr q rl ∧ (∀ b ∈ fp, H0.size ≤ b ∧ b < w.heap.size) ∧ (∀ b ∈ fpr, H0.size ≤ b ∧ b < w.heap.size) ∧ (∀ b ∈ fp, b ∉ fpr) ∧
  (∀ k, vget r k = vget rl k) ∧ r.length ≤ 1048577 * n ∧ total r ≤ 4294971392 * n ∧ Small r
theorem small_mem {r : SM} (hk : (r.map (·.1)).Nodup) (h : Small r) : ∀ x ∈ r, x.2.1.2.length < 1099511627776 := fun x hx => h _ _ (vget_mem hk hx)
theorem small_of {r : SM} (h : ∀ x ∈ r, x.2.1.2.length < 1099511627776) : Small r := by
  intro k L hv
  unfold vget at hv
  obtain ⟨v, hv1, rfl⟩ := Option.map_eq_some_iff.1 hv
  obtain ⟨b, hb⟩ := mget_some_mem hv1
  exact h _ hb
theorem Small.view {r s : SM} (h : Small r) (hv : ∀ k, vget r k = vget s k) : Small s := fun k L hk => h k L (by rw [hv]; exact hk)
end Go.Proofs.YtkolbfjheleoaaaDoor
