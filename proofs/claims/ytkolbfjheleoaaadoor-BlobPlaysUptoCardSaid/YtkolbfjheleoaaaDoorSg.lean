/- The contract of PutAll. -/
import Derived.Test.YtkolbfjheleoaaaDoorSf
namespace Go.Proofs.YtkolbfjheleoaaaDoor
open Go Go.Fw Go.Proofs

/-- What PutAll would put: each digest once. -/
abbrev BL := List (List UInt8 × List UInt8)
def fget (F : BL) (k : List UInt8) : Option (List UInt8) := (F.find? fun x => x.1 == k).map (·.2)
def fstep (F : BL) (L : List UInt8) : BL := if (fget F (Sha.sum L)).isSome then F else F ++ [(Sha.sum L, L)]
def fresh (Ls : List (List UInt8)) : BL := Ls.foldl fstep []
def extra (r : SM) (F : BL) : Nat := ((F.filter fun x => (vget r x.1).isNone).map fun x => x.2.length).sum
def putv (V : Option (List UInt8)) (o : Option (List UInt8)) (k : List UInt8) : Option (List UInt8) := match o with
  | none => V
  | some L => match V with
    | none => some L
    | some old => if Sha.sum old = k then some old else some L
def long (Ls : List (List UInt8)) : Prop := ∃ L ∈ Ls, 4096 < L.length
/-- The lists of bytes that a slice of slices has. -/
def Rows (H : Heap) (a : Option Addr) (n : Nat) (Ls : List (List UInt8)) : Prop := n = Ls.length ∧ ∀ i (h : i < Ls.length), ∃ b o c T fr x, a = some ⟨b, o, none⟩ ∧ H[b]? = some (.cells c T fr) ∧ c[o + i]? = some (slcV x) ∧ Cells H x.1 (byteCells Ls[i]) ∧
  x.2.1 = Ls[i].length ∧ x.2.1 ≤ x.2.2

def view (fr : SM) : BL := fr.map fun x => (x.1, x.2.1.2)
theorem fget_view {fr : SM} {k : List UInt8} : fget (view fr) k = vget fr k := by
  induction fr with
  | nil => rfl
  | cons x l ih =>
    simp only [fget, view, List.map_cons, List.find?_cons] at ih ⊢
    unfold vget
    by_cases e : x.1 = k
    · rw [mget_cons_eq e]; simp [e]
    · rw [mget_cons_ne e]
      have : (x.1 == k) = false := by simp [e]
      simp only [this]
      exact ih
theorem fresh_snoc {Ls : List (List UInt8)} {i : Nat} (h : i < Ls.length) : fresh (Ls.take (i + 1)) = fstep (fresh (Ls.take i)) Ls[i] := by
  unfold fresh
  rw [List.take_add_one, List.getElem?_eq_getElem h, Option.toList_some, List.foldl_append]
  rfl
theorem Store.mono {H : Heap} {fp fp' : List Nat} {p : Nat} {q : Int} {r : SM} {c : Nat} (h : Store H fp p q r c) (hf : ∀ b ∈ fp, b ∈ fp') : Store H fp' p q r c := by
  obtain ⟨m, h1, h2, h3, h4, h5, h6, h7⟩ := h
  exact ⟨m, h1, h2, h3, hf p h4, hf m h5, fun x hx => ⟨(h6 x hx).1, fun b hb => hf b ((h6 x hx).2 b hb)⟩, h7⟩
def olen (r : SM) (k : List UInt8) : Nat := match vget r k with | none => 0 | some L => L.length
theorem total_upd {r : SM} {c c' : Nat} (h : MOk (fun L => L.length = 32) r c) {k : List UInt8} {v : BV} : total (mupd r k v c') + olen r k = total r + v.2.length := by
  unfold olen vget
  cases hg : mget r k with
  | none =>
    rw [mupd_none hg]
    simp [total]
  | some v' =>
    rw [mupd_some (by rw [hg]; rfl)]
    simp only [Option.map_some]
    have hk := h.keys
    clear h
    induction r with
    | nil => simp [mget] at hg
    | cons x r ih =>
      simp only [List.map_cons, List.nodup_cons] at hk
      by_cases e : x.1 = k
      · rw [mget_cons_eq e, Option.some.injEq] at hg
        have : r.map (fun x => if x.1 = k then (x.1, v, x.2.2) else x) = r := by
          rw [List.map_congr_left (g := id), List.map_id]
          intro y hy
          rw [if_neg]; rfl
          intro h; exact hk.1 (by rw [e, ← h]; exact List.mem_map.2 ⟨y, hy, rfl⟩)
        rw [List.map_cons, if_pos e, this, ← hg]
        simp only [total, List.map_cons, List.sum_cons]
        omega
      · rw [mget_cons_ne e] at hg
        have := ih hg hk.2
        rw [List.map_cons, if_neg e]
        simp only [total, List.map_cons, List.sum_cons] at this ⊢
        omega
theorem vget_upd {r : SM} {k k' : List UInt8} {v : BV} {c : Nat} : vget (mupd r k v c) k' = if k' = k then some v.2 else vget r k' := by
  unfold vget; rw [mget_upd]; split <;> rfl

/-- The first part: the digests are gathered. -/
def Ph1 (H : Heap) (r : SM) (Ls : List (List UInt8)) (i : Nat) (x : Int) (w : World) : Prop :=
  ∃ (fr : SM) (cf : Nat), i ≤ Ls.length ∧ x = (extra r (view fr) : Int) ∧ view fr = fresh (Ls.take i) ∧ Ext [] H w.heap ∧ w.heap[H.size]? = some (.map (ents arr (vl bv fr)) cf) ∧ MOk (fun L => L.length = 32) fr cf ∧ fr.length ≤ i ∧
    (∀ x ∈ fr, Mine w.heap H.size y_uint8 1 x.2.1.1 (byteCells x.2.1.2) ∧ x.2.1.2.length ≤ 4096) ∧ Apart fr ∧ (∀ L ∈ Ls.take i, L.length ≤ 4096)

theorem extra_le {r : SM} {fr : SM} (h : ∀ x ∈ fr, x.2.1.2.length ≤ 4096) : extra r (view fr) ≤ 4096 * fr.length := by
  induction fr with
  | nil => simp [extra, view]
  | cons x l ih =>
    have h1 := ih fun y hy => h y (by simp [hy])
    have h2 := h x (by simp)
    simp only [extra, view, List.map_cons, List.filter_cons] at h1 ⊢
    split
    · simp only [List.map_cons, List.sum_cons, List.length_cons]; omega
    · simp only [List.length_cons]; omega

/-- The third part: what is new is put. -/
def Ph3 (H : Heap) (fp : List Nat) (p : Nat) (q : Int) (r fr : SM) (cf it : Nat) (n : Nat) (w : World) : Prop :=
  ∃ (seen : Array Nat) (r' : SM) (c' : Nat), Store w.heap (fp ++ fr.flatMap fun x => ownM x.2.1.1) p q r' c' ∧ Ext fp H w.heap ∧ w.heap[H.size]? = some (.map (ents arr (vl bv fr)) cf) ∧ w.heap[it]? = some (.mapIter (some H.size) cf seen cf) ∧ H.size ≤ it ∧
    (∀ x ∈ fr, Mine w.heap H.size y_uint8 1 x.2.1.1 (byteCells x.2.1.2)) ∧ (∀ k, vget r' k = if ∃ x ∈ fr, x.1 = k ∧ x.2.2 ∈ seen then putv (vget r k) (vget fr k) k else vget r k) ∧
    n = (fr.filter fun y => !seen.contains y.2.2).length ∧ total r' + 4096 * n ≤ total r + 4096 * fr.length ∧ (∀ y ∈ r', (∀ b ∈ ownM y.2.1.1, b ∈ fp) ∨ ∃ z ∈ fr, z.1 = y.1 ∧ z.2.1 = y.2.1)

/-- What PutAll does to a store. -/
def PutRes (q : Int) (r : SM) (Ls : List (List UInt8)) (code : Int) (r' : SM) : Prop :=
  (long Ls → code = 2 ∧ r' = r) ∧ (¬ long Ls → q < total r + extra r (fresh Ls) → code = 3 ∧ r' = r) ∧
  (¬ long Ls → ¬ q < total r + extra r (fresh Ls) → code = 0 ∧ ∀ k, vget r' k = putv (vget r k) (fget (fresh Ls) k) k)

set_option maxHeartbeats 8000000 in
theorem putall_c {w : World} {H : Heap} {fp : List Nat} {p : Nat} {q : Int} {r : SM} {c : Nat} {a : Option Addr} {n nc : Nat} {Ls : List (List UInt8)} (hw : w.heap = H) (hS : Store H fp p q r c) (hfp : ∀ b ∈ fp, b < H.size) (hR : Rounds H) (h0 : 0 ∉ fp)
    (hL : Rows H a n Ls) (hb : total r + 4096 * Ls.length < 1125899906842624) (hq : 0 ≤ q) (hq2 : q ≤ 9223372036854775807) (hlen : ∀ k L, vget r k = some L → L.length < 1099511627776) :
    CallF P F_blob_Store_PutAll #[.pointer (some ⟨p, 0, none⟩), .slice a n nc] w fun e w' => ∃ code r' c' fp', e = .returned (.int .i64 code) ∧ Store w'.heap fp' p q r' c' ∧ Ext fp H w'.heap ∧ (∀ b ∈ fp', b < w'.heap.size) ∧ (∀ b ∈ fp', b ∈ fp ∨ H.size ≤ b) ∧ PutRes q r Ls code r' ∧
      total r' ≤ total r + 4096 * Ls.length := by
  obtain ⟨rfl, hL⟩ := hL
  have hH0 : 0 < H.size := by obtain ⟨_, _, _, h, _⟩ := hR; exact lt_of_get h
  refine fn_blob_Store_PutAll ?_
  unfold T_blob_Store_PutAll
  refine iteP_f rfl ?_
  refine genL_of (s := .map) (some H.size) _ (makeMap_h hw) ?_
  refine loopP_of (fun (s : Int × Int) w => ∃ i : Nat, s.2 = (i : Int) ∧ Ph1 H r Ls i s.1 w) (fun s _ => (Ls.length - s.2).toNat) ⟨0, rfl, [], 0, by omega, rfl, rfl, .push _, push_new, .nil, by simp, (by intro x hx; cases hx), (by intro x hx; cases hx), (by simp)⟩ ?_
  rintro ⟨x, _⟩ w2 ⟨i, rfl, fr, cf, hi, rfl, hF, hx2, hm2, hok, hfl, hown, hap, hsm⟩
  refine iteP_dec (fun hlt => ?_) (fun hge => ?_)
  · have hlt : i < Ls.length := by simp only at hlt; omega
    refine joinP_of (fun s w => Ph1 H r Ls (i + 1) s w) ?_ ?_
    rotate_left
    · intro s2 w3 h3
      refine addI_to ((i + 1 : Nat) : Int) (by simp only; omega) (by omega) (by omega) ?_
      exact ⟨⟨i + 1, rfl, h3⟩, by simp only; omega⟩
    obtain ⟨ba, oa, ca, Ta, fra, xs, rfl, hba, hca, hxc, hxl, hxc2⟩ := hL i hlt
    refine ixS_1 i rfl hlt ?_
    refine ld_h (s := .slc) (t := xs) rfl (hx2.get hba (by simp)) hca ?_
    refine iteP_dec (fun hbig => ?_) (fun hsmall => ?_)
    · -- too long
      have hlo : long Ls := ⟨Ls[i], List.getElem_mem hlt, by omega⟩
      exact ⟨2, r, c, fp, rfl, hS.ext hx2 (by simp), hx2.mono (by simp), fun b hb => Nat.lt_of_lt_of_le (hfp b hb) hx2.1, fun b hb => .inl hb, ⟨fun _ => ⟨rfl, rfl⟩, fun h => absurd hlo h, fun h => absurd hlo h⟩, by omega⟩
    have hlen4 : Ls[i].length ≤ 4096 := by omega
    generalize hLi : Ls[i] = L at *
    generalize hH2 : w2.heap = H2 at *
    have hxc' := hxc.ext hx2 (by simp)
    refine callF_of (sum_c hH2 hxc' hxl hxc2 (hR.ext hx2 (by simp)) (by omega)) ?_
    rintro e w3 ⟨rfl, hx3⟩
    refine ⟨arr (Sha.sum L), rfl, ?_⟩
    generalize hH3 : w3.heap = H3 at *
    have hx23 : Ext [] H H3 := hx2.trans hx3
    refine newB_h hH3 fun w4 hw4 => ?_
    refine storeVar_h (size27.trans (by rw [cells_arr, len_sum])) (by rw [cells_arr, len_sum]; omega) one_byteCells hw4 push_new (by rw [zc27, cells_arr, len_sum]; simp) fun w5 hw5 => ?_
    rw [show setCells (zc P y_api_Digest) 0 (Value.cells (arr (Sha.sum L))).toList = (byteCells (Sha.sum L)).toArray from by rw [setCells_all (by rw [zc27, Array.length_toList, cells_arr, len_sum]; simp)]; simp [Value.cells, arr]] at hw5
    have hx5 : Ext [] H3 w5.heap := by rw [hw5]; exact (Ext.push _).set_own (.inl (Nat.le_refl _))
    have hk5 : w5.heap[H3.size]? = some (.cells (byteCells (Sha.sum L)).toArray y_api_Digest (0, 0)) := by rw [hw5]; exact set_new push_new
    generalize hH5 : w5.heap = H5 at *
    have hx25 : Ext [] H2 H5 := hx3.trans hx5
    have hm5 := hx25.get hm2 (by simp)
    refine ldA_all hH5 hk5 (by simp [byteCells, len_sum]) ?_
    have hown5 : ∀ x ∈ fr, Mine H5 H.size y_uint8 1 x.2.1.1 (byteCells x.2.1.2) ∧ x.2.1.2.length ≤ 4096 := fun x hx => ⟨(hown x hx).1.ext hx25 (by simp), (hown x hx).2⟩
    cases hg : mget fr (Sha.sum L) with
    | some v =>
      refine genT_of (l := [.slc, .bool]) (v.1, true) (by refine (lookup_v K27 u57 z22 hH5 hm5 hok len_sum).trans ?_; rw [hg]; rfl) ?_
      refine iteP_t rfl ?_
      refine ⟨fr, cf, hlt, rfl, ?_, ?_, ?_, hok, by omega, ?_, hap, ?_⟩
      · rw [fresh_snoc hlt, ← hF, hLi]
        unfold fstep
        rw [fget_view, if_pos (by simp [vget, hg])]
      · rw [hH5]; exact hx2.trans hx25
      · rw [hH5]; exact hm5
      · rw [hH5]; exact hown5
      · intro M hM
        rw [List.take_add_one, List.mem_append] at hM
        rcases hM with hM | hM
        · exact hsm M hM
        · rw [List.getElem?_eq_getElem hlt] at hM; simp at hM; rw [hM, hLi]; exact hlen4
    | none =>
      refine genT_of (l := [.slc, .bool]) ((none, 0, 0), false) (by refine (lookup_v K27 u57 z22 hH5 hm5 hok len_sum).trans ?_; rw [hg]; rfl) ?_
      refine iteP_f rfl ?_
      refine drewP_h hH5 fun w6 hw6 => ?_
      refine ldA_all hw6 hk5 (by simp [byteCells, len_sum]) ?_
      refine callF_of (clone_c hw6 (hxc'.ext hx25 (by simp)) hxl (by omega)) ?_
      rintro e w7 ⟨y, rfl, hyO, hx7⟩
      refine ⟨y, rfl, ?_⟩
      generalize hH7 : w7.heap = H7 at *
      refine ⟨ldA_all hH7 (hx7.get hk5 (by simp)) (by simp [byteCells, len_sum]) rfl, ?_⟩
      have hm7 := hx7.get hm5 (by simp)
      refine genU_of _ (update_v K27 u57 hH7 hm7 hok len_sum (y, L) rfl) ?_
      refine drewP_h rfl fun w8 hw8 => ?_
      simp only [withAddr_some]
      obtain ⟨m, h1, h2, h3, h4, h5, h6, h7⟩ := hS
      have hx57 : Ext [] H H7 := (hx2.trans hx25).trans hx7
      have hx8 : Ext [] H (H7.setIfInBounds H.size (.map (ents arr (vl bv (mupd fr (Sha.sum L) (y, L) cf))) (mclk fr (Sha.sum L) cf))) := hx57.set_own (.inl (Nat.le_refl _))
      have hx78 : Ext [H.size] H7 (H7.setIfInBounds H.size (.map (ents arr (vl bv (mupd fr (Sha.sum L) (y, L) cf))) (mclk fr (Sha.sum L) cf))) := Ext.set _ (by simp)
      have hk8 : (H7.setIfInBounds H.size (.map (ents arr (vl bv (mupd fr (Sha.sum L) (y, L) cf))) (mclk fr (Sha.sum L) cf)))[H3.size]? = some (.cells (byteCells (Sha.sum L)).toArray y_api_Digest (0, 0)) :=
        set_old (hx7.get hk5 (by simp)) (by have := lt_of_get hm2; have := hx3.1; omega)
      have hm8 : (H7.setIfInBounds H.size (.map (ents arr (vl bv (mupd fr (Sha.sum L) (y, L) cf))) (mclk fr (Sha.sum L) cf)))[H.size]? = some (.map (ents arr (vl bv (mupd fr (Sha.sum L) (y, L) cf))) (mclk fr (Sha.sum L) cf)) := set_new hm7
      generalize (H7.setIfInBounds H.size (.map (ents arr (vl bv (mupd fr (Sha.sum L) (y, L) cf))) (mclk fr (Sha.sum L) cf))) = H8 at *
      refine ld_h (t := some m) hw8 (hx8.get h1 (by simp)) rfl ?_
      refine ldA_all hw8 hk8 (by simp [byteCells, len_sum]) ?_
      have hupd : mupd fr (Sha.sum L) (y, L) cf = fr ++ [(Sha.sum L, (y, L), cf)] := mupd_none hg
      have hvw : view (mupd fr (Sha.sum L) (y, L) cf) = view fr ++ [(Sha.sum L, L)] := by rw [hupd]; simp [view]
      have hVw : view fr ++ [(Sha.sum L, L)] = fresh (Ls.take (i + 1)) := by
        rw [fresh_snoc hlt, ← hF, hLi]
        unfold fstep
        rw [fget_view, if_neg (by simp [vget, hg])]
      -- what holds behind this round
      have fin : ∀ (X : Int), X = (extra r (view fr ++ [(Sha.sum L, L)]) : Int) → Ph1 H r Ls (i + 1) X w8 := by
        intro X hX
        refine ⟨mupd fr (Sha.sum L) (y, L) cf, mclk fr (Sha.sum L) cf, hlt, by rw [hvw]; exact hX, by rw [hvw, hVw], by rw [hw8]; exact hx8, by rw [hw8]; exact hm8, hok.upd len_sum _, by rw [hupd]; simp; omega, ?_, ?_, ?_⟩
        · intro z hz
          rw [hw8]
          rcases mem_upd hz with ⟨hz1, hz2⟩ | ⟨_, hz2⟩
          · rw [hz2]
            refine ⟨(hyO.ext hx78 fun b hb => ?_).mono (hx2.trans hx25).1, hlen4⟩
            have := ownM_ge hyO b hb
            have := lt_of_get hm5
            simp; omega
          · refine ⟨((hown5 z hz2).1.ext hx7 (by simp)).ext hx78 fun b hb => ?_, (hown5 z hz2).2⟩
            rcases (hown5 z hz2).1 with ⟨h, _⟩ | ⟨bb, cc, h, _, hbb, _⟩
            · simp [ownM, h] at hb
            · simp only [ownM, h, List.mem_singleton] at hb
              subst hb
              simp only [List.mem_singleton]
              intro e; rw [e, hm5] at hbb; cases hbb
        · have far : ∀ z ∈ fr, ∀ b ∈ ownM z.2.1.1, b < H5.size := by
            intro z hz b hb
            rcases (hown5 z hz).1 with ⟨h, _⟩ | ⟨bb, cc, h, _, hbb, _⟩
            · simp [ownM, h] at hb
            · simp only [ownM, h, List.mem_singleton] at hb
              subst hb; exact lt_of_get hbb
          intro z hz z' hz' hne b hb hb'
          rcases mem_upd hz with ⟨hz1, hz2⟩ | ⟨hz1, hz2⟩ <;> rcases mem_upd hz' with ⟨hz1', hz2'⟩ | ⟨hz1', hz2'⟩
          · exact hne (hz1.trans hz1'.symm)
          · rw [hz2] at hb
            have := ownM_ge hyO b hb
            have := far z' hz2' b hb'
            omega
          · rw [hz2'] at hb'
            have := ownM_ge hyO b hb'
            have := far z hz2 b hb
            omega
          · exact hap z hz2 z' hz2' hne b hb hb'
        · intro M hM
          rw [List.take_add_one, List.mem_append] at hM
          rcases hM with hM | hM
          · exact hsm M hM
          · rw [List.getElem?_eq_getElem hlt] at hM; simp at hM; rw [hM, hLi]; exact hlen4
      have hxl2 : (xs.2.1 : Int) = (L.length : Int) := by rw [hxl]
      cases hgr : mget r (Sha.sum L) with
      | none =>
        refine genT_of (l := [.slc, .bool]) ((none, 0, 0), false) (by refine (lookup_v K27 u57 z22 hw8 (hx8.get h2 (by simp)) h3 len_sum).trans ?_; rw [hgr]; rfl) ?_
        refine iteP_t rfl ?_
        have hel := extra_le (r := r) fun x hx => (hown x hx).2
        refine addI_to ((extra r (view fr) + L.length : Nat) : Int) (by omega) (by omega) (by omega) ?_
        refine fin _ ?_
        simp only [extra, List.filter_append, List.map_append, List.sum_append]
        have : (vget r (Sha.sum L)).isNone = true := by simp [vget, hgr]
        simp [this]
      | some v =>
        refine genT_of (l := [.slc, .bool]) (v.1, true) (by refine (lookup_v K27 u57 z22 hw8 (hx8.get h2 (by simp)) h3 len_sum).trans ?_; rw [hgr]; rfl) ?_
        refine iteP_f rfl ?_
        refine fin _ ?_
        simp only [extra, List.filter_append, List.map_append, List.sum_append]
        have : (vget r (Sha.sum L)).isNone = false := by simp [vget, hgr]
        simp [this]
  have hiL : i = Ls.length := by simp only at hge; omega
  subst hiL
  rw [List.take_length] at hF hsm
  have hnl : ¬ long Ls := fun ⟨L, hL', h⟩ => by have := hsm L hL'; omega
  have hex := extra_le (r := r) (fr := fr) fun x hx => (hown x hx).2
  have hS0 := hS
  obtain ⟨m, h1, h2, h3, h4, h5, h6, h7⟩ := hS
  refine drewP_h rfl fun w3 hw3 => ?_
  generalize hH2 : w2.heap = H2 at *
  simp only [withAddr_some]
  refine ld_h (t := q) hw3 (hx2.get h1 (by simp)) rfl ?_
  refine ld_h (t := (total r : Int)) hw3 (hx2.get h1 (by simp)) rfl ?_
  refine subI_to (q - total r) rfl (by omega) (by omega) ?_
  refine iteP_dec (fun hbig => ?_) (fun hfit => ?_)
  · have hbig : q < total r + extra r (fresh Ls) := by rw [← hF]; omega
    exact ⟨3, r, c, fp, rfl, by rw [hw3]; exact hS0.ext hx2 (by simp), by rw [hw3]; exact hx2.mono (by simp), fun b hb => by rw [hw3]; exact Nat.lt_of_lt_of_le (hfp b hb) hx2.1, fun b hb => .inl hb, ⟨fun h => absurd h hnl, fun _ _ => ⟨rfl, rfl⟩, fun _ h => absurd hbig h⟩, by omega⟩
  have hfit : ¬ q < total r + extra r (fresh Ls) := by rw [← hF]; omega
  have hHH : H.size < H2.size := lt_of_get hm2
  refine genL_of (s := .ptr) (some ⟨H2.size, 0, none⟩) _ (range_h u57 hw3 hm2) ?_
  have hxr : Ext [] H2 (H2.push (.mapIter (some H.size) cf #[] cf)) := .push _
  refine loopP_ix (fun n _ w => Ph3 H fp p q r fr cf H2.size n w) fr.length
    ⟨#[], r, c, ((hS0.ext hx2 (by simp)).ext hxr (by simp)).mono fun b hb => List.mem_append.2 (.inl hb), (hx2.trans hxr).mono (by simp), hxr.get hm2 (by simp), push_new, Nat.le_of_lt hHH, fun x hx => (hown x hx).1.ext hxr (by simp), ?_, ?_, by omega, fun y hy => .inl (h6 y hy).2⟩ ?_
  · intro k
    rw [if_neg]
    rintro ⟨x, _, _, h⟩
    simp at h
  · rw [List.filter_eq_self.2]
    intro y _; simp
  rintro n _ w4 ⟨seen, r', c', hS4, hx4, hm4, hit4, hitl, hown4, hview, hn, htot, hsrc⟩ K hK
  have hFB : ∀ b ∈ fp ++ fr.flatMap (fun x => ownM x.2.1.1), b < w4.heap.size ∧ b ≠ H.size ∧ b ≠ H2.size ∧ (b ∈ fp ∨ H.size ≤ b) := by
    intro b hb
    rcases List.mem_append.1 hb with hb | hb
    · have := hfp b hb
      have := hx4.1
      exact ⟨by omega, by omega, by omega, .inl hb⟩
    · obtain ⟨x, hx, hb⟩ := List.mem_flatMap.1 hb
      rcases hown4 x hx with ⟨h, _⟩ | ⟨bb, cc, h, hge', hbb, _⟩
      · simp [ownM, h] at hb
      · simp only [ownM, h, List.mem_singleton] at hb
        subst hb
        exact ⟨lt_of_get hbb, fun e => (by rw [e, hm4] at hbb; cases hbb), fun e => (by rw [e, hit4] at hbb; cases hbb), .inr hge'⟩
  have hfrlen : fr.length ≤ Ls.length := hfl
  rcases next_v (P := P) (ty := 0) rfl hm4 hit4 hok.old (Nat.le_refl _) with ⟨hall, w5, hr5, hcm5, hw5⟩ | ⟨x, hx, hns, w5, hr5, hcm5, hw5⟩
  · refine genL_of (s := .any) _ w5 hr5 ?_ hcm5
    refine exV_of (s := .bool) false rfl rfl ?_
    refine iteP_f rfl ?_
    refine ⟨0, r', c', _, rfl, by rw [hw5]; exact hS4, by rw [hw5]; exact hx4, fun b hb => by rw [hw5]; exact (hFB b hb).1, fun b hb => (hFB b hb).2.2.2, ⟨fun h => absurd h hnl, fun _ h => absurd h hfit, fun _ _ => ⟨rfl, fun k => ?_⟩⟩, by omega⟩
    rw [hview, ← hF, fget_view]
    by_cases hk : ∃ x ∈ fr, x.1 = k ∧ x.2.2 ∈ seen
    · rw [if_pos hk]
    · rw [if_neg hk]
      have : vget fr k = none := by
        unfold vget
        rw [mget_none_of]; rfl
        intro x hx e
        exact hk ⟨x, hx, e, hall x hx⟩
      rw [this]; rfl
  · refine genL_of (s := .any) _ w5 hr5 ?_ hcm5
    refine exV_of (s := .bool) true rfl rfl ?_
    refine iteP_t rfl ?_
    refine joinP_of (fun _ w => ∃ n', n' < n ∧ Ph3 H fp p q r fr cf H2.size n' w) ?_ (fun _ w h => by obtain ⟨n', hn', hp⟩ := h; exact hK n' _ _ hn' hp)
    have hx1 : x.1.length = 32 := hok.fine x hx
    generalize hH4 : w4.heap = H4 at *
    have hit5 : w5.heap[H2.size]? = some (.mapIter (some H.size) cf (seen.push x.2.2) cf) := by rw [hw5]; exact set_new hit4
    have hx45 : Ext [H2.size] H4 w5.heap := by rw [hw5]; exact Ext.set _ (by simp)
    generalize hH5 : w5.heap = H5 at *
    clear hw5
    have hm5 := hx45.get hm4 (by simp; omega)
    refine genQ_of (s := .any) _ (entry_v (last := cf) hH5 hm5 hit5 hx hok) ?_
    refine exV_of (s := .any) (arr x.1) rfl rfl ?_
    refine exV_of (s := .slc) x.2.1.1 rfl rfl ?_
    refine newB_h hH5 fun w6 hw6 => ?_
    refine storeVar_h (size27.trans (by rw [cells_arr, hx1])) (by rw [cells_arr, hx1]; omega) one_byteCells hw6 push_new (by rw [zc27, cells_arr, hx1]; simp) fun w7 hw7 => ?_
    rw [show setCells (zc P y_api_Digest) 0 (Value.cells (arr x.1)).toList = (byteCells x.1).toArray from by rw [setCells_all (by rw [zc27, Array.length_toList, cells_arr, hx1]; simp)]; simp [Value.cells, arr]] at hw7
    have hx57 : Ext [] H5 w7.heap := by rw [hw7]; exact (Ext.push _).set_own (.inl (Nat.le_refl _))
    have hk7 : w7.heap[H5.size]? = some (.cells (byteCells x.1).toArray y_api_Digest (0, 0)) := by rw [hw7]; exact set_new push_new
    generalize hH7 : w7.heap = H7 at *
    clear hw7
    have hx47 : Ext [H2.size] H4 H7 := hx45.trans (hx57.mono (by simp))
    have hS7 := hS4.ext hx47 fun b hb => by simpa using (hFB b hb).2.2.1
    have hx7 : Ext fp H H7 := hx4.own hx47 (by intro b hb hlt; simp at hb; omega)
    have hm7 := hx57.get hm5 (by simp)
    have hit7 := hx57.get hit5 (by simp)
    have hown7 : ∀ x ∈ fr, Mine H7 H.size y_uint8 1 x.2.1.1 (byteCells x.2.1.2) := fun y hy => (hown4 y hy).ext hx47 fun b hb => by
      simpa using (hFB b (List.mem_append.2 (.inr (List.mem_flatMap.2 ⟨y, hy, hb⟩)))).2.2.1
    have hR7 := hR.ext hx7 h0
    obtain ⟨m', g1, g2, g3, g4, g5, g6, g7⟩ := hS7
    have hvx : vget r' x.1 = vget r x.1 := by
      rw [hview, if_neg]
      rintro ⟨y, hy, e, hs⟩
      rw [key_inj hok hy hx e] at hs
      exact hns hs
    have hfx : vget fr x.1 = some x.2.1.2 := by
      unfold vget
      rw [mget_of_mem hok.keys (k := x.1) (v := x.2.1) (c := x.2.2) hx]; rfl
    have hdone : ∀ k, (∃ y ∈ fr, y.1 = k ∧ y.2.2 ∈ seen.push x.2.2) ↔ (k = x.1 ∨ ∃ y ∈ fr, y.1 = k ∧ y.2.2 ∈ seen) := by
      intro k
      constructor
      · rintro ⟨y, hy, e, hs⟩
        rcases Array.mem_push.1 hs with hs | hs
        · exact .inr ⟨y, hy, e, hs⟩
        · rw [← e, Go.Fw.born_inj hok hy hx hs]; exact .inl rfl
      · rintro (rfl | ⟨y, hy, e, hs⟩)
        · exact ⟨x, hx, rfl, Array.mem_push.2 (.inr rfl)⟩
        · exact ⟨y, hy, e, Array.mem_push.2 (.inl hs)⟩
    have hlt := left_lt (l := fr) hx hns
    -- what holds behind a round
    have fin : ∀ (w : World) (r2 : SM) (c2 : Nat), Store w.heap (fp ++ fr.flatMap fun x => ownM x.2.1.1) p q r2 c2 → Ext fp H7 w.heap → Ext [p, m'] H7 w.heap → (∀ k, vget r2 k = if k = x.1 then putv (vget r k) (some x.2.1.2) k else vget r' k) →
        total r2 ≤ total r' + 4096 → (∀ y ∈ r2, (∀ b ∈ ownM y.2.1.1, b ∈ fp) ∨ ∃ z ∈ fr, z.1 = y.1 ∧ z.2.1 = y.2.1) → ∃ n', n' < n ∧ Ph3 H fp p q r fr cf H2.size n' w := by
      intro w r2 c2 hS2 hxe hxe2 hv2 ht2 hs2
      have np : ∀ b, (b = H.size ∨ b = H2.size) → b ∉ [p, m'] := by
        intro b hb hb'
        simp only [List.mem_cons, List.not_mem_nil, or_false] at hb'
        rcases hb' with rfl | rfl
        · have := hFB b g4; omega
        · have := hFB b g5; omega
      refine ⟨(fr.filter fun y => !(seen.push x.2.2).contains y.2.2).length, by omega, seen.push x.2.2, r2, c2, hS2, hx7.trans hxe, hxe2.get hm7 (np _ (.inl rfl)), hxe2.get hit7 (np _ (.inr rfl)), hitl, ?_, ?_, rfl, by omega, hs2⟩
      · intro y hy
        refine (hown7 y hy).ext hxe2 fun b hb hb' => ?_
        rcases hown7 y hy with ⟨h, _⟩ | ⟨bb, cc, h, _, hbb, _⟩
        · simp [ownM, h] at hb
        · simp only [ownM, h, List.mem_singleton] at hb
          subst hb
          simp only [List.mem_cons, List.not_mem_nil, or_false] at hb'
          rcases hb' with e | e
          · rw [e, g1] at hbb; cases hbb
          · rw [e, g2] at hbb; cases hbb
      · intro k
        rw [hv2]
        by_cases hk : k = x.1
        · rw [if_pos hk, if_pos ((hdone k).2 (.inl hk)), hk, hfx]
        · rw [if_neg hk, hview]
          by_cases hd : ∃ y ∈ fr, y.1 = k ∧ y.2.2 ∈ seen
          · rw [if_pos hd, if_pos ((hdone k).2 (.inr hd))]
          · rw [if_neg hd, if_neg fun h => by rcases (hdone k).1 h with h | h; exact hk h; exact hd h]
    refine drewP_h hH7 fun w8 hw8 => ?_
    refine ld_h (t := some m') hw8 g1 rfl ?_
    refine ldA_all hw8 hk7 (by simp [byteCells, hx1]) ?_
    refine genT_of (l := [.slc, .bool]) (((mget r' x.1).map (·.1)).getD (none, 0, 0), (mget r' x.1).isSome) ?_ ?_
    · refine (lookup_v K27 u57 z22 hw8 g2 g3 hx1).trans ?_
      cases mget r' x.1 <;> rfl
    refine joinP_of (fun _ w => Ext [] H7 w.heap ∧ ∀ old, vget r x.1 = some old → Sha.sum old ≠ x.1) ?_ ?_
    · refine drewP_h hw8 fun w9 hw9 => ?_
      cases hg : mget r' x.1 with
      | none =>
        refine iteP_f rfl ?_
        refine ⟨trivial, by rw [hw9]; exact .refl _ _, fun old ho => ?_⟩
        rw [← hvx] at ho
        simp [vget, hg] at ho
      | some v =>
        have hv : vget r x.1 = some v.2 := by rw [← hvx]; simp [vget, hg]
        obtain ⟨bv', hbv, _⟩ := mget_ok g3 hg
        have hO : Mine H7 0 y_uint8 1 v.1 (byteCells v.2) := (g6 _ hbv).1
        have hvl := hlen _ _ hv
        have hle : v.1.2.1 ≤ v.1.2.2 := by
          rcases hO with ⟨h, _⟩ | ⟨_, _, _, _, _, _, _, h, _⟩
          · rw [h]; exact Nat.le_refl _
          · exact h
        have hll := hO.len
        rw [length_byteCells, Nat.mul_one] at hll
        refine iteP_t rfl ?_
        refine ldA_all hw9 hk7 (by simp [byteCells, hx1]) ?_
        refine callF_of (sum_c hw9 hO.cells (by simp only [Option.map_some, Option.getD_some]; exact hll.symm) (by simpa using hle) hR7 (by omega)) ?_
        rintro e w10 ⟨rfl, hx10⟩
        refine ⟨arr (Sha.sum v.2), rfl, ?_⟩
        refine ⟨ldA_all rfl (hx10.get hk7 (by simp)) (by simp [byteCells, hx1]) rfl, ?_⟩
        refine genQ_of (s := .bool) _ (eqM_arr u27 u5 c5 g27 len_sum hx1) ?_
        refine iteP_dec (fun hs => ?_) (fun hs => ?_)
        · -- whole already
          refine fin _ r' c' ?_ (hx10.mono (by simp)) (hx10.mono (by simp)) (fun k => ?_) (by omega) hsrc
          · have := (show Store H7 (fp ++ fr.flatMap fun x => ownM x.2.1.1) p q r' c' from ⟨m', g1, g2, g3, g4, g5, g6, g7⟩)
            exact this.ext hx10 (by simp)
          · by_cases hk : k = x.1
            · subst hk
              rw [if_pos rfl, hvx, hv]
              simp [putv, hs]
            · rw [if_neg hk]
        · refine ⟨hx10, fun old ho => ?_⟩
          rw [hv] at ho
          cases ho
          exact hs
    · rintro _ w9 ⟨hx79, hold⟩
      generalize hH9 : w9.heap = H9 at *
      have g1' := hx79.get g1 (by simp)
      have hol : (((((mget r' x.1).map fun v : BV => v.1).getD ((none, 0, 0) : Option Addr × Nat × Nat)).2.1 : Nat) : Int) = (olen r x.1 : Int) := by
        unfold olen
        rw [← hvx]
        unfold vget
        cases hg : mget r' x.1 with
        | none => rfl
        | some v =>
          obtain ⟨bv', hbv, _⟩ := mget_ok g3 hg
          have hO : Mine H7 0 y_uint8 1 v.1 (byteCells v.2) := (g6 _ hbv).1
          have hll := hO.len
          rw [length_byteCells, Nat.mul_one] at hll
          simp [hll]
      have hxlen : x.2.1.1.2.1 = x.2.1.2.length := by
        have := (hown7 x hx).len
        rw [length_byteCells] at this; omega
      have hx4k := (hown x hx).2
      have htu := total_upd g3 (k := x.1) (v := x.2.1) (c' := c')
      have hol2 : olen r' x.1 = olen r x.1 := by unfold olen; rw [hvx]
      rw [hol2] at htu
      have htb : total r' ≤ total r + 4096 * fr.length := by omega
      refine ld_h (t := (total r' : Int)) hH9 g1' rfl ?_
      refine subI_to ((x.2.1.2.length : Int) - (olen r x.1 : Int)) (by rw [hol, hxlen]) (by omega) (by omega) ?_
      refine addI_to ((total (mupd r' x.1 x.2.1 c') : Nat) : Int) (by omega) (by omega) (by omega) ?_
      refine stC_h hH9 g1' (by simp) fun w10 hw10 => ?_
      refine drewP_h hw10 fun w11 hw11 => ?_
      have hpm : p ≠ m' := by intro e; rw [e] at g1; rw [g1] at g2; cases g2
      have g2' := hx79.get g2 (by simp)
      have hk9 := hx79.get hk7 (by simp)
      have hp10 : w10.heap[p]? = some (.cells #[Value.int .i64 q, .int .i64 (total (mupd r' x.1 x.2.1 c') : Int), .map (some m')] 59 (0, 0)) := by rw [hw10]; exact set_new g1'
      have hm10 : w10.heap[m']? = some (.map (ents arr (vl bv r')) c') := by rw [hw10]; exact set_old g2' (Ne.symm hpm)
      have hk10 : w10.heap[H5.size]? = some (.cells (byteCells x.1).toArray y_api_Digest (0, 0)) := by
        rw [hw10]; exact set_old hk9 (show H5.size ≠ p from fun e => by rw [← e, hk7] at g1; injection g1 with g1; injection g1 with _ g1; exact absurd g1 (by decide))
      have hx10 : Ext [p] H7 w10.heap := by rw [hw10]; exact (hx79.mono (by simp)).trans (Ext.set _ (by simp))
      rw [← hw10] at hw11
      generalize w10.heap = H10 at *
      refine ld_h (t := some m') hw11 hp10 rfl ?_
      refine ldA_all hw11 hk10 (by simp [byteCells, hx1]) ?_
      refine genU_of _ (update_v K27 u57 hw11 hm10 g3 hx1 x.2.1 rfl) ?_
      have hx11 : Ext [p, m'] H7 (H10.setIfInBounds m' (.map (ents arr (vl bv (mupd r' x.1 x.2.1 c'))) (mclk r' x.1 c'))) := (hx10.mono (by simp)).trans (Ext.set _ (by simp))
      have hpf : p ∈ fp := h4
      have hpm' : m' ∈ fp := by
        rcases List.mem_append.1 g5 with h | h
        · exact h
        · obtain ⟨z, hz, hb⟩ := List.mem_flatMap.1 h
          rcases hown7 z hz with ⟨h, _⟩ | ⟨bb, cc, h, _, hbb, _⟩
          · simp [ownM, h] at hb
          · simp only [ownM, h, List.mem_singleton] at hb
            subst hb
            rw [g2] at hbb; cases hbb
      refine fin _ (mupd r' x.1 x.2.1 c') (mclk r' x.1 c') ⟨m', set_old hp10 hpm, set_new hm10, g3.upd hx1 _, g4, g5, ?_, ?_⟩ (hx11.mono (by simp [hpf, hpm'])) hx11 (fun k => ?_) (by omega) ?_
      · intro y hy
        have ex : ∀ (s : BV), (∀ b ∈ ownM s.1, b ∈ fp ++ fr.flatMap fun x => ownM x.2.1.1) → ∀ B, Mine H7 B y_uint8 1 s.1 (byteCells s.2) → Mine (H10.setIfInBounds m' (.map (ents arr (vl bv (mupd r' x.1 x.2.1 c'))) (mclk r' x.1 c'))) 0 5 1 s.1 (byteCells s.2) := by
          intro s _ B hO
          refine (hO.mono (Nat.zero_le _)).ext hx11 fun b hb hb' => ?_
          rcases hO with ⟨h, _⟩ | ⟨bb, cc, h, _, hbb, _⟩
          · simp [ownM, h] at hb
          · simp only [ownM, h, List.mem_singleton] at hb
            subst hb
            simp only [List.mem_cons, List.not_mem_nil, or_false] at hb'
            rcases hb' with e | e
            · rw [e, g1] at hbb; cases hbb
            · rw [e, g2] at hbb; cases hbb
        rcases mem_upd hy with ⟨hy1, hy2⟩ | ⟨hy1, hy2⟩
        · rw [hy2]
          have hsub : ∀ b ∈ ownM x.2.1.1, b ∈ fp ++ fr.flatMap fun x => ownM x.2.1.1 := fun b hb => List.mem_append.2 (.inr (List.mem_flatMap.2 ⟨x, hx, hb⟩))
          exact ⟨ex _ hsub _ (hown7 x hx), hsub⟩
        · exact ⟨ex _ (g6 y hy2).2 _ (g6 y hy2).1, (g6 y hy2).2⟩
      · -- apart
        have sep : ∀ y ∈ r', y.1 ≠ x.1 → ∀ b ∈ ownM y.2.1.1, b ∉ ownM x.2.1.1 := by
          intro y hy hne b hb hb'
          rcases hsrc y hy with h | ⟨z, hz, hz1, hz2⟩
          · have := hfp b (h b hb)
            have := ownM_ge (hown7 x hx) b hb'
            omega
          · rw [← hz2] at hb
            exact hap z hz x hx (by rw [hz1]; exact hne) b hb hb'
        intro y hy y' hy' hne b hb hb'
        rcases mem_upd hy with ⟨a1, a2⟩ | ⟨a1, a2⟩ <;> rcases mem_upd hy' with ⟨b1, b2⟩ | ⟨b1, b2⟩
        · exact hne (a1.trans b1.symm)
        · rw [a2] at hb
          exact sep y' b2 b1 b hb' hb
        · rw [b2] at hb'
          exact sep y a2 a1 b hb hb'
        · exact g7 y a2 y' b2 hne b hb hb'
      · rw [vget_upd]
        by_cases hk : k = x.1
        · rw [if_pos hk, if_pos hk]
          subst hk
          cases hv : vget r x.1 with
          | none => rfl
          | some old => simp only [putv, if_neg (hold old hv)]
        · rw [if_neg hk, if_neg hk]
      · intro y hy
        rcases mem_upd hy with ⟨a1, a2⟩ | ⟨a1, a2⟩
        · exact .inr ⟨x, hx, a1.symm, a2.symm⟩
        · exact hsrc y a2
end Go.Proofs.YtkolbfjheleoaaaDoor
