/- UpperBytes' contract: the reference's Encode and Decode, and the walk of the law. -/
import Derived.Test.YtbmegmbnlajbbaaGreatWf
import Derived.Test.YtbmegmbnlajbbaaGreatWh
namespace Go.Proofs.YtbmegmbnlajbbaaGreat
open Go Go.Fw Go.Proofs Go.Sort

theorem encU_small {nn bb : Int} {L : List Ino} (h : Good L) : (encU nn bb L).length ≤ 1400000 := by
  have hlen := inosB_len (L := L) fun i hi => inoB_len (h.ok i hi).1 (h.small i hi)
  have hmany := h.many
  have u1 := @uintB_len nn
  have u2 := @uintB_len bb
  have u3 := @uintB_len (L.length : Int)
  simp only [encU, List.length_append]
  omega
set_option maxHeartbeats 8000000 in
theorem rencode_c {w : World} {H : Heap} {fp : List Nat} {p : Nat} {nn bb : Int} {L : List Ino} (hw : w.heap = H) (hR : RU H fp p nn bb L) :
    CallF P F_r12_Upper_Encode #[.pointer (some ⟨p, 0, none⟩)] w fun e w' => ∃ y, e = .returned (slcV y) ∧ Mine w'.heap H.size y_uint8 1 y (byteCells (encU nn bb L)) ∧ Ext [] H w'.heap := by
  obtain ⟨x, r1, r2, r3, r4, hG⟩ := hR
  have hmany := hG.many
  have hxl := mineI_len r2
  have hlen := inosB_len (L := L) fun i hi => inoB_len (hG.ok i hi).1 (hG.small i hi)
  have u1 := @uintB_len nn
  have u2 := @uintB_len bb
  have u3 := @uintB_len (L.length : Int)
  refine fn_r12_Upper_Encode ?_
  unfold T_r12_Upper_Encode
  simp only [withAddr_some, add_none]
  refine ld_h (s := .int .i64) (t := nn) hw r1 rfl ?_
  refine cvU fun n1 e1 l1 => ?_
  have g1 : numB n1 = uintB nn := by rw [e1]; rfl
  refine callF_of (r2num_c hw l1) ?_
  rintro e w1 ⟨y1, rfl, hm1, hx1⟩
  refine ⟨y1, rfl, ?_⟩
  rw [g1] at hm1
  refine ld_h (s := .int .i64) (t := bb) rfl (hx1.get r1 (by simp)) rfl ?_
  refine cvU fun n2 e2 l2 => ?_
  have g2 : numB n2 = uintB bb := by rw [e2]; rfl
  refine callF_of (r2num_c rfl l2) ?_
  rintro e w2 ⟨y2, rfl, hm2, hx12⟩
  refine ⟨y2, rfl, ?_⟩
  rw [g2] at hm2
  have hx2 := hx1.trans hx12
  have hs2 := hx2.1
  refine app8 rfl (hm1.ext hx12 (by simp)) hs2 hm2.cells (by have := hm2.len; simp at this; omega) (by omega) fun x3 w3 hm3 hx23 hs3 => ?_
  have hx3 := own_new hx2 (hm1.ext hx12 (by simp)) (Nat.le_refl _) hx23
  refine ld_h (s := .slc) (t := x) rfl (hx3.get r1 (by simp)) rfl ?_
  rw [hxl]
  refine cvU fun n3 e3 l3 => ?_
  have g3 : numB n3 = uintB (L.length : Int) := by rw [e3]; rfl
  refine callF_of (r2num_c rfl l3) ?_
  rintro e w4 ⟨y4, rfl, hm4, hx34⟩
  refine ⟨y4, rfl, ?_⟩
  rw [g3] at hm4
  have hx4 := hx3.trans hx34
  have hs4 := hx4.1
  refine app8 rfl (hm3.ext hx34 (by simp)) hs4 hm4.cells (by have := hm4.len; simp at this; omega) (by simp; omega) fun x5 w5 hm5 hx45 hs5 => ?_
  have hx5 := own_new hx4 (hm3.ext hx34 (by simp)) (Nat.le_refl _) hx45
  refine loopP_of (fun (s : (Option Addr × Nat × Nat) × Int) W => ∃ i : Nat, s.2 = (i : Int) ∧ i ≤ L.length ∧ Ext [] H W.heap ∧ Mine W.heap H.size y_uint8 1 s.1 (byteCells (uintB nn ++ uintB bb ++ uintB L.length ++ inosB (L.take i)))) (fun s _ => (L.length - s.2).toNat) ⟨0, rfl, Nat.zero_le _, hx5, by simpa [inosB] using hm5⟩ ?_
  rintro ⟨z, _⟩ W ⟨i, rfl, hi, hxW, hmW⟩
  refine ld_h (s := .slc) (t := x) rfl (hxW.get r1 (by simp)) rfl ?_
  have hpre : (inosB (L.take i)).length ≤ 1300 * 1024 := by
    have h1 := inosB_len (L := L.take i) fun j hj => inoB_len (hG.ok j (List.mem_of_mem_take hj)).1 (hG.small j (List.mem_of_mem_take hj))
    have h2 : (L.take i).length ≤ 1024 := by simp; omega
    omega
  refine iteP_dec (fun hlt => ?_) (fun hge => ?_)
  · have hil : i < L.length := by simp only at hlt; omega
    have hget := List.getElem?_eq_getElem hil
    have hmem : L[i] ∈ L := List.getElem_mem hil
    have htake : L.take (i + 1) = L.take i ++ [L[i]] := by rw [List.take_add_one, hget]; rfl
    generalize L[i] = v at hget hmem htake
    have hsl := show_len (hG.ok v hmem).1
    have hdl := hG.small v hmem
    have ul := @uintB_len v.kind
    have fl : (flagB v.opq).length ≤ 10 := numB_len64 (by split <;> omega)
    have nl1 := numB_len64 (n := (showP v.names).length) (by omega)
    have nl2 := numB_len64 (n := v.data.length) (by omega)
    have r2c := r2.cells
    -- one field: its bytes are put behind the others
    refine ld_h (s := .slc) (t := x) rfl (hxW.get r1 (by simp)) rfl ?_
    refine inoIx rfl (r2c.ext hxW (by simp)) hxl hget rfl fun b1 o1 c1 T1 fr1 hb1 hsz1 hc1 => ?_
    refine ld_h (s := .str) (t := strOf (showP v.names)) rfl hb1 (hc1 0 (by omega)) ?_
    refine callF_of (r2text_c (showP v.names) rfl (by omega)) ?_
    rintro e w7 ⟨y7, rfl, hm7, hx7⟩
    refine ⟨y7, rfl, ?_⟩
    have hx07 := hxW.trans hx7
    have hs07 := hx07.1
    refine app8 rfl (hmW.ext hx7 (by simp)) hs07 hm7.cells (by have := hm7.len; simp at this; omega) (by simp [textB]; omega) fun x8 w8 hm8 hx78 hs8 => ?_
    have hx8 := own_new hx07 (hmW.ext hx7 (by simp)) (Nat.le_refl _) hx78
    refine ld_h (s := .slc) (t := x) rfl (hx8.get r1 (by simp)) rfl ?_
    refine inoIx rfl (r2c.ext hx8 (by simp)) hxl hget rfl fun b2 o2 c2 T2 fr2 hb2 hsz2 hc2 => ?_
    simp only [add_none]
    refine ld_h (s := .int .i64) (t := v.kind) rfl hb2 (hc2 1 (by omega)) ?_
    refine cvU fun k ek lk => ?_
    refine callF_of (r2num_c rfl lk) ?_
    rintro e w9 ⟨y9, rfl, hm9, hx89⟩
    refine ⟨y9, rfl, ?_⟩
    rw [show numB k = uintB v.kind by rw [ek]; rfl] at hm9
    have hx9 := hx8.trans hx89
    have hs9 := hx9.1
    refine app8 rfl (hm8.ext hx89 (by simp)) hs9 hm9.cells (by have := hm9.len; simp at this; omega) (by simp [textB]; omega) fun x10 w10 hm10 hx910 hs10 => ?_
    have hx10 := own_new hx9 (hm8.ext hx89 (by simp)) (Nat.le_refl _) hx910
    refine ld_h (s := .slc) (t := x) rfl (hx10.get r1 (by simp)) rfl ?_
    refine inoIx rfl (r2c.ext hx10 (by simp)) hxl hget rfl fun b3 o3 c3 T3 fr3 hb3 hsz3 hc3 => ?_
    simp only [add_none]
    refine ld_h (s := .bool) (t := v.opq) rfl hb3 (hc3 2 (by omega)) ?_
    refine callF_of (r2flag_c v.opq rfl) ?_
    rintro e w11 ⟨y11, rfl, hm11, hx1011⟩
    refine ⟨y11, rfl, ?_⟩
    have hx11 := hx10.trans hx1011
    have hs11 := hx11.1
    refine app8 rfl (hm10.ext hx1011 (by simp)) hs11 hm11.cells (by have := hm11.len; simp at this; omega) (by simp [textB]; omega) fun x12 w12 hm12 hx1112 hs12 => ?_
    have hx12 := own_new hx11 (hm10.ext hx1011 (by simp)) (Nat.le_refl _) hx1112
    refine ld_h (s := .slc) (t := x) rfl (hx12.get r1 (by simp)) rfl ?_
    refine inoIx rfl (r2c.ext hx12 (by simp)) hxl hget rfl fun b4 o4 c4 T4 fr4 hb4 hsz4 hc4 => ?_
    simp only [add_none]
    refine ld_h (s := .str) (t := strOf v.data) rfl hb4 (hc4 3 (by omega)) ?_
    refine callF_of (r2text_c v.data rfl (by omega)) ?_
    rintro e w13 ⟨y13, rfl, hm13, hx1213⟩
    refine ⟨y13, rfl, ?_⟩
    have hx13 := hx12.trans hx1213
    have hs13 := hx13.1
    refine app8 rfl (hm12.ext hx1213 (by simp)) hs13 hm13.cells (by have := hm13.len; simp at this; omega) (by simp [textB]; omega) fun x14 w14 hm14 hx1314 hs14 => ?_
    have hx14 := own_new hx13 (hm12.ext hx1213 (by simp)) (Nat.le_refl _) hx1314
    refine addI_to ((i + 1 : Nat) : Int) (by simp) (by omega) (by omega) ?_
    refine ⟨⟨i + 1, rfl, by omega, hx14, ?_⟩, by omega⟩
    rw [htake]
    simpa [inosB, inoB] using hm14
  · obtain rfl : i = L.length := by simp only at hge; omega
    rw [List.take_length] at hmW
    exact ⟨z, rfl, hmW, hxW⟩
theorem bRIn (x : Option Addr × Nat × Nat) (w : World) : (Instr.build y_r02_In #[(0, .slice x.1 x.2.1 x.2.2)]).run P w = .ok (.agg #[slcV x, .int .i64 0, .int .i64 0]) w := by kernel_rfl
/-- Bytes mean an upper branch to the reference, or nothing. -/
def RDecW (H : Heap) (L : List UInt8) (e : Ending) (w' : World) : Prop := Ext [] H w'.heap ∧ ((decR L = none ∧ e = .returned (.tuple #[.pointer none, .bool false])) ∨
  ∃ (aa bb : Nat) (M : List Ino) (pr : Nat) (fp : List Nat), decR L = some (aa, bb, M) ∧ e = .returned (.tuple #[.pointer (some ⟨pr, 0, none⟩), .bool true]) ∧ RU w'.heap fp pr aa bb M ∧ ∀ c ∈ fp, H.size ≤ c)

set_option maxHeartbeats 8000000 in
theorem rdecode_c {w : World} {H : Heap} {a : Option Addr} {n nc : Nat} {L : List UInt8} (hw : w.heap = H) (hL : Cells H a (byteCells L)) (hn : n = L.length) (hnc : n ≤ nc) (hl : L.length ≤ 1099511627776) :
    CallF P F_r12_Decode #[.slice a n nc] w (RDecW H L) := by
  refine fn_r12_Decode ?_
  unfold T_r12_Decode
  refine genQ_of (s := .any) _ (bRIn (a, n, nc) _) ?_
  refine newB_h hw fun w1 hw1 => ?_
  have hx1 : Ext [] H w1.heap := by rw [hw1]; exact .push _
  obtain ⟨F, hFd⟩ : ∃ F, F = if L = [] then [] else ownM (a, n, nc) := ⟨_, rfl⟩
  have hFl : ∀ c ∈ F, c < H.size := by
    intro c hc
    rw [hFd] at hc
    split at hc
    · simp at hc
    · rename_i h0
      obtain ⟨x, hx, hlt⟩ := hL.lt (by intro h; apply h0; simpa [byteCells] using h)
      rw [hx] at hc
      simp [ownM] at hc
      omega
  have hI1 : RInW w1.heap H.size F (some L) := by
    refine ⟨(a, n, nc), 0, 0, L, by rw [hw1]; exact push_new, fun h => by have := hFl _ h; omega, fun h0 => by rw [hFd, if_neg h0]; exact fun c hc => hc, hL.ext hx1 (by simp), hn, hnc, hl, Nat.zero_le _, rfl, by simp⟩
  have hF : ∀ c ∈ F, c ∉ [H.size] := fun c hc h => by have := hFl c hc; simp at h; omega
  have own : ∀ {W W' : World}, Ext [] H W.heap → Ext [H.size] W.heap W'.heap → Ext [] H W'.heap := fun h1 h2 => h1.own h2 (by intro c hc hlt; simp at hc; omega)
  have hhead := rdHead_nm L
  refine callF_of (rnum_c rfl hI1) ?_
  rintro e w2 ⟨rfl, hI2, hx12⟩
  refine ⟨_, rfl, ?_⟩
  refine callF_of (rnum_c rfl hI2) ?_
  rintro e w3 ⟨rfl, hI3, hx23⟩
  refine ⟨_, rfl, ?_⟩
  refine callF_of (rnum_c rfl hI3) ?_
  rintro e w4 ⟨rfl, hI4, hx34⟩
  refine ⟨_, rfl, ?_⟩
  have hx4 := own (own (own hx1 hx12) hx23) hx34
  have hn4 := nmS_lt (nmS (nmS (some L)).2).2
  generalize (nmS (some L)).1 = n1 at *
  generalize (nmS (nmS (some L)).2).1 = n2 at *
  generalize (nmS (nmS (nmS (some L)).2).2).1 = n3 at *
  generalize (nmS (nmS (nmS (some L)).2).2).2 = s3 at *
  have bad : rdHead L = none → RDecW H L (.returned (.tuple #[.pointer none, .bool false])) w4 := by
    intro h
    exact ⟨hx4, .inl ⟨by unfold decR refPre; rw [h], rfl⟩⟩
  refine joinP_of (fun _ W => W = w4 ∧ ∃ R, s3 = some R ∧ n1 ≤ 128 ∧ n2 ≤ 8192 ∧ n3 ≤ 1024 ∧ rdHead L = some ((n1, n2, n3), R)) ?_ ?_
  · obtain ⟨ec, hld, hec⟩ := hI4.err
    refine hld rfl ?_
    refine iteP_ne (fun h => bad (by
      cases s3 with
      | none => rw [hhead]; rfl
      | some R => exact absurd (hec.2 rfl) h)) (fun h => ?_)
    obtain ⟨R, hR⟩ := Option.isSome_iff_exists.1 (hec.1 h)
    rw [hR] at hhead
    simp only [Option.bind_some] at hhead
    refine iteP_dec (fun h1 => bad (by rw [hhead, if_pos (by omega)])) (fun h1 => ?_)
    refine iteP_dec (fun h2 => bad (by rw [hhead, if_pos (by omega)])) (fun h2 => ?_)
    refine iteP_dec (fun h3 => bad (by rw [hhead, if_pos (by omega)])) (fun h3 => ?_)
    exact ⟨rfl, R, hR, by omega, by omega, by omega, by rw [hhead, if_neg (by omega)]⟩
  rintro _ W ⟨hW, R0, rfl, h1, h2, h3, hh⟩
  subst hW
  have hdec : ∀ {x : Option (List Ino × List UInt8)}, refRd n3 [] R0 = x → decR L = match x with | some (M, []) => if encU n1 n2 M = L then some (n1, n2, M) else none | _ => none := by
    intro x hx
    unfold decR refPre
    rw [hh]
    simp only [hx]
    cases x with
    | none => rfl
    | some y =>
      obtain ⟨M, R⟩ := y
      cases R <;> rfl
  refine cvI_i64 (by omega) (by omega) ?_
  refine cvI_i64 (by omega) (by omega) ?_
  refine genQ_of (s := .any) _ (bR12 _ _ _) ?_
  refine newB_h rfl fun w6 hw6 => ?_
  have hx46 : Ext [] W.heap w6.heap := by rw [hw6]; exact .push _
  have hx6 := hx4.trans hx46
  have hs4 := hI4.lt
  have hI6 := hI4.ext hx46 (by simp) (by simp)
  have hR6 : RU w6.heap [W.heap.size] W.heap.size (n1 : Int) (n2 : Int) [] := ⟨(none, 0, 0), by rw [hw6]; exact push_new, .inl ⟨rfl, rfl⟩, by simp, by simp [ownM], St.nil.good⟩
  have hH4 := hx4.1
  refine loopP_of (fun (s : Int) W7 => ∃ (i : Nat) (M : List Ino) (R : List UInt8) (fp : List Nat), s = (i : Int) ∧ i ≤ n3 ∧ RInW W7.heap H.size F (some R) ∧ RU W7.heap fp W.heap.size n1 n2 M ∧ (∀ c ∈ fp, W.heap.size ≤ c ∧ c < W7.heap.size) ∧ Ext [] H W7.heap ∧ W.heap.size < W7.heap.size ∧
      refRd n3 [] R0 = refRd (n3 - i) M R) (fun s _ => (n3 - s).toNat)
    ⟨0, [], R0, [W.heap.size], rfl, Nat.zero_le _, hI6, hR6, by rw [hw6]; simp, hx6, by rw [hw6]; simp, rfl⟩ ?_
  rintro _ W7 ⟨i, M, R, fp, rfl, hi, hI, hRU, hfp, hxW, hsz, heq⟩
  refine cvI_i64 (by omega) (by omega) ?_
  refine iteP_dec (fun hlt => ?_) (fun hge => ?_)
  · have hin : i < n3 := by omega
    rw [show n3 - i = (n3 - (i + 1)) + 1 by omega, refRd, rdIno_nm] at heq
    refine joinP_of (fun _ W' => ∃ (M' : List Ino) (R' : List UInt8) (fp' : List Nat), RInW W'.heap H.size F (some R') ∧ RU W'.heap fp' W.heap.size n1 n2 M' ∧ (∀ c ∈ fp', W.heap.size ≤ c ∧ c < W'.heap.size) ∧ Ext [] H W'.heap ∧ W.heap.size < W'.heap.size ∧ refRd n3 [] R0 = refRd (n3 - (i + 1)) M' R') ?_ ?_
    rotate_left
    · rintro _ W' ⟨M', R', fp', g1, g2, g3, g4, g5, g6⟩
      refine addI_to ((i + 1 : Nat) : Int) (by omega) (by omega) (by omega) ?_
      exact ⟨⟨i + 1, M', R', fp', rfl, by omega, g1, g2, g3, g4, g5, g6⟩, by omega⟩
    refine joinP_in ?_
    rw [zcI]
    refine newB_h rfl fun w8 hw8 => ?_
    have hb8 : w8.heap[W7.heap.size]? = some (.cells (raw [] 0 false []).toArray y_api_Inode (0, 0)) := by rw [hw8]; exact push_new
    have hx8 : Ext [] W7.heap w8.heap := by rw [hw8]; exact .push _
    have hs8 : w8.heap.size = W7.heap.size + 1 := by rw [hw8]; simp
    have hNB : ∀ c ∈ F, c ∉ [H.size, W7.heap.size] := fun c hc h => by have := hFl c hc; simp at h; omega
    have hN1 : W7.heap.size ∉ [H.size] := by simp; omega
    have hb1 : H.size ∉ [W7.heap.size] := by simp; omega
    have hF1 : ∀ c ∈ F, c ∉ [W7.heap.size] := fun c hc h => by have := hFl c hc; simp at h; omega
    have up : ∀ {H1 H2 : Heap}, Ext [H.size] H1 H2 → Ext [H.size, W7.heap.size] H1 H2 := fun h => h.mono (by simp)
    have none_ : ∀ {W' : World}, Ext [H.size, W7.heap.size] w8.heap W'.heap → refRd n3 [] R0 = none → RDecW H L (.returned (.tuple #[.pointer none, .bool false])) W' := fun h1 h2 =>
      ⟨(hxW.trans hx8).own h1 (by intro c hc hlt; simp at hc; omega), .inl ⟨by rw [hdec h2], rfl⟩⟩
    have stB : ∀ {wA : World} {c0 : Array Value} {v : Value} {o : Nat} {s : Rest} {K : World → Prop}, Ext [H.size, W7.heap.size] w8.heap wA.heap → wA.heap[W7.heap.size]? = some (.cells c0 y_api_Inode (0, 0)) → RInW wA.heap H.size F s → o < c0.size → v.oneCell' = true →
        (∀ wB, Ext [H.size, W7.heap.size] w8.heap wB.heap → wB.heap[W7.heap.size]? = some (.cells (c0.setIfInBounds o v) y_api_Inode (0, 0)) → RInW wB.heap H.size F s → K wB) → stC (⟨W7.heap.size, o, none⟩ : Addr) v wA K := by
      intro wA c0 v o s K h1 h2 h3 h4 _ hK
      refine stC_h rfl h2 h4 fun wB hwB => hK wB ?_ ?_ ?_
      · rw [hwB]; exact h1.set_own (.inr (by simp))
      · rw [hwB]; exact set_new h2
      · rw [hwB]; exact h3.ext (Ext.set (M := [W7.heap.size]) _ (by simp)) hb1 hF1
    refine callF_of (rtext_c (most := 256) rfl (hI.ext hx8 (by simp) (by simp)) (by omega)) ?_
    rintro e w9 ⟨rfl, hI9, hx9⟩
    refine ⟨_, rfl, ?_⟩
    refine stB (up hx9) (hx9.get hb8 hN1) hI9 (by simp [raw]) rfl fun w10 hx10 hb10 hI10 => ?_
    refine callF_of (rnum_c rfl hI10) ?_
    rintro e w11 ⟨rfl, hI11, hx11⟩
    refine ⟨_, rfl, ?_⟩
    have hk := nmS_lt (txS 256 (some R)).2
    have hx811 := hx10.trans (up hx11)
    generalize (txS 256 (some R)).1 = t at *
    generalize (nmS (txS 256 (some R)).2).1 = k at *
    refine iteP_dec (fun h3k => none_ hx811 ?_) (fun h3k => ?_)
    · rw [heq]
      cases (txS 1024 (flS (nmS (txS 256 (some R)).2).2).2).2 with
      | none => rfl
      | some R' => simp only [Option.map_some]; rw [if_neg fun h => by have := h.1; omega]
    refine cvI_i64 (by omega) (by omega) ?_
    refine stB hx811 (hx11.get hb10 hN1) hI11 (by simp [raw]) rfl fun w12 hx12' hb12 hI12 => ?_
    refine callF_of (rflag_c rfl hI12) ?_
    rintro e w13 ⟨rfl, hI13, hx13⟩
    refine ⟨_, rfl, ?_⟩
    generalize (flS (nmS (txS 256 (some R)).2).2).1 = o at *
    refine stB (hx12'.trans (up hx13)) (hx13.get hb12 hN1) hI13 (by simp [raw]) rfl fun w14 hx14 hb14 hI14 => ?_
    refine callF_of (rtext_c (most := 1024) rfl hI14 (by omega)) ?_
    rintro e w15 ⟨rfl, hI15, hx15⟩
    refine ⟨_, rfl, ?_⟩
    generalize (txS 1024 (flS (nmS (txS 256 (some R)).2).2).2).1 = d at *
    refine stB (hx14.trans (up hx15)) (hx15.get hb14 hN1) hI15 (by simp [raw]) rfl fun w16 hx16 hb16 hI16 => ?_
    generalize (txS 1024 (flS (nmS (txS 256 (some R)).2).2).2).2 = s4 at *
    have hb16 : w16.heap[W7.heap.size]? = some (.cells (raw t (k : Int) o d).toArray y_api_Inode (0, 0)) := hb16
    obtain ⟨ec, hld, hec⟩ := hI16.err
    refine hld rfl ?_
    refine iteP_ne (fun h => none_ hx16 (by
      cases s4 with
      | none => rw [heq]; rfl
      | some R => exact absurd (hec.2 rfl) h)) (fun h => ?_)
    obtain ⟨R', rfl⟩ := Option.isSome_iff_exists.1 (hec.1 h)
    simp only [Option.map_some] at heq
    refine ldA_all rfl hb16 rfl ?_
    have hR16 : RU w16.heap fp W.heap.size n1 n2 M := (hRU.ext hx8 (by simp)).ext hx16 (fun c hc h => by have := hfp c hc; simp at h; omega)
    refine callF_of (rput_c (t := t) (k := (k : Int)) (o := o) (d := d) rfl hR16) ?_
    rintro e w17 ⟨fp', rfl, hR17, hx17, hsub⟩
    refine ⟨_, rfl, ?_⟩
    have hxH16 : Ext [] H w16.heap := (hxW.trans hx8).own hx16 (by intro c hc hlt; simp at hc; omega)
    have hxH17 : Ext [] H w17.heap := hxH16.own hx17 (by intro c hc hlt; have := hfp c hc; omega)
    have hs16 := hx16.1
    have hs17 := hx17.1
    refine iteP_ne (fun hpz => ⟨hxH17, .inl ⟨by rw [hdec (by rw [heq, if_neg fun h => hpz h.2])], rfl⟩⟩) (fun hpz => ?_)
    refine ⟨_, R', fp', hI16.ext hx17 (fun h => by have := hfp _ h; omega) (fun c hc h => by have := hfp c h; have := hFl c hc; omega), hR17, fun c hc => ?_, hxH17, by omega, by rw [heq, if_pos ⟨by omega, hpz⟩]⟩
    rcases hsub c hc with h | h
    · have := hfp c h; omega
    · omega
  · obtain rfl : i = n3 := by omega
    rw [Nat.sub_self, refRd] at heq
    have hd := hdec heq
    refine joinP_of (fun _ W' => Ext [] W7.heap W'.heap ∧ decR L = some (n1, n2, M)) ?_ ?_
    rotate_left
    · rintro _ W' ⟨hx', hd'⟩
      exact ⟨hxW.trans hx', .inr ⟨n1, n2, M, W.heap.size, fp, hd', rfl, hRU.ext hx' (by simp), fun c hc => by have := hfp c hc; omega⟩⟩
    refine drewP_h rfl fun w20 hw20 => ?_
    have hx20 : Ext [] W7.heap w20.heap := by rw [hw20]; exact .refl _ _
    have hI20 := hI.ext hx20 (by simp) (by simp)
    obtain ⟨ec, hld, hec⟩ := hI20.err
    refine hld rfl ?_
    refine iteP_f (by rw [hec.2 rfl]; rfl) ?_
    refine callF_of (left_c rfl hI20) ?_
    rintro e w21 ⟨rfl, hw21⟩
    refine ⟨(R.length : Int), rfl, ?_⟩
    have hx21 : Ext [] W7.heap w21.heap := by rw [hw21]; exact hx20
    have hL21 := hL.ext (hxW.trans hx21) (by simp)
    refine iteP_ne (fun h => ⟨rfl, hxW.trans hx21, .inl ⟨?_, rfl⟩⟩) (fun h => ?_)
    · rw [hd]
      cases R with
      | nil => simp at h
      | cons c R => rfl
    · obtain rfl : R = [] := List.eq_nil_of_length_eq_zero (by omega)
      refine genQ_of (s := .str) _ (convS_h uS8 u8 uStr rfl hL21 hn) ?_
      refine callF_of (rencode_c rfl (hRU.ext hx21 (by simp))) ?_
      rintro e w22 ⟨z, rfl, hm22, hx22⟩
      refine ⟨z, rfl, ?_⟩
      have hzl : z.2.1 = (encU n1 n2 M).length := by have := hm22.len; simp at this; omega
      refine ⟨genQ_of (s := .str) _ (convS_h uS8 u8 uStr rfl (hL21.ext hx22 (by simp)) hn) rfl, ?_⟩
      refine genQ_of (s := .str) _ (convS_h uS8 u8 uStr rfl hm22.cells hzl) ?_
      simp only at hd
      refine iteP_of (p := encU n1 n2 M ≠ L) (by rw [Bool.not_eq_true', ← Bool.not_eq_true, beqStr2]) (fun hne => ⟨hxW.trans (hx21.trans hx22), .inl ⟨by rw [hd, if_neg hne], rfl⟩⟩) (fun he => ?_)
      have he : encU n1 n2 M = L := by simpa using he
      exact ⟨hx21.trans hx22, by rw [hd, if_pos he]⟩
end Go.Proofs.YtbmegmbnlajbbaaGreat
