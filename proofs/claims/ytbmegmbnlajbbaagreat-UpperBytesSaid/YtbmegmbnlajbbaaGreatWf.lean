/- The upper branch: Decode. -/
import Derived.Test.YtbmegmbnlajbbaaGreatWb
import Derived.Test.YtbmegmbnlajbbaaGreatWe
namespace Go.Proofs.YtbmegmbnlajbbaaGreat
open Go Go.Fw Go.Proofs Go.Sort

theorem rdHead_nm (L : List UInt8) : rdHead L = (nmS (nmS (nmS (some L)).2).2).2.bind fun R => if 128 < (nmS (some L)).1 ∨ 8192 < (nmS (nmS (some L)).2).1 ∨ 1024 < (nmS (nmS (nmS (some L)).2).2).1 then none else some (((nmS (some L)).1, (nmS (nmS (some L)).2).1, (nmS (nmS (nmS (some L)).2).2).1), R) := by
  unfold rdHead
  cases h1 : rdNum L with
  | none => simp [nmS, h1]
  | some y1 =>
    obtain ⟨n1, R1⟩ := y1
    cases h2 : rdNum R1 with
    | none => simp [nmS, h1, h2]
    | some y2 =>
      obtain ⟨n2, R2⟩ := y2
      cases h3 : rdNum R2 with
      | none => simp [nmS, h1, h2, h3]
      | some y3 => simp [nmS, h1, h2, h3]
theorem rdIno_nm (R : List UInt8) : rdIno R = (txS 1024 (flS (nmS (txS 256 (some R)).2).2).2).2.map fun R' => (⟨(txS 256 (some R)).1, (nmS (txS 256 (some R)).2).1, (flS (nmS (txS 256 (some R)).2).2).1, (txS 1024 (flS (nmS (txS 256 (some R)).2).2).2).1⟩, R') := by
  unfold rdIno
  cases h1 : rdText 256 R with
  | none => simp [txS, nmS, flS, h1]
  | some y1 =>
    obtain ⟨t, R1⟩ := y1
    cases h2 : rdNum R1 with
    | none => simp [txS, nmS, flS, h1, h2]
    | some y2 =>
      obtain ⟨k, R2⟩ := y2
      cases h3 : rdFlag R2 with
      | none => simp [txS, nmS, flS, h1, h2, h3]
      | some y3 =>
        obtain ⟨o, R3⟩ := y3
        cases h4 : rdText 1024 R3 with
        | none => simp [txS, nmS, flS, h1, h2, h3, h4]
        | some y4 => simp [txS, nmS, flS, h1, h2, h3, h4]
theorem nmS_lt (s : Rest) : (nmS s).1 < 18446744073709551616 := by
  cases s with
  | none => simp [nmS]
  | some R =>
    cases h : rdNum R with
    | none => simp [nmS, h]
    | some y => simp only [nmS, h]; exact (rdNum_back (R := y.2) h).2
theorem min9 (n : Nat) (w : World) : (Builtin.min_ #[y_uint64, y_uint64] y_uint64 #[.int .u64 (n : Int), .int .u64 9]).run P w = .ok (.int .u64 ((min n 9 : Nat) : Int)) w := by
  rw [run_min_int2]
  congr 2
  split <;> omega
theorem bI4 (t d : ByteArray) (k : Int) (o : Bool) (w : World) : (Instr.build y_api_Inode #[(0, .string t), (1, .int .i64 k), (2, .bool o), (3, .string d)]).run P w = .ok (.agg #[.string t, .int .i64 k, .bool o, .string d]) w := by kernel_rfl
/-- Bytes mean an upper branch, or nothing. -/
def DecW (H : Heap) (L : List UInt8) (e : Ending) (w' : World) : Prop := Ext [] H w'.heap ∧ ((decU L = none ∧ e = .returned (.tuple #[.pointer none, .int .i64 21])) ∨
  ∃ (aa bb : Nat) (M : List Ino) (p m : Nat), decU L = some (aa, bb, M) ∧ e = .returned (.tuple #[.pointer (some ⟨p, 0, none⟩), .int .i64 0]) ∧ Up w'.heap p m aa bb M ∧ H.size ≤ p ∧ H.size ≤ m)

set_option maxHeartbeats 8000000 in
theorem decode_c {w : World} {H : Heap} {a : Option Addr} {n nc : Nat} {L : List UInt8} (hw : w.heap = H) (hL : Cells H a (byteCells L)) (hn : n = L.length) (hl : L.length ≤ 1099511627776) :
    CallF P F_upper_Decode #[.slice a n nc] w (DecW H L) := by
  refine fn_upper_Decode ?_
  unfold T_upper_Decode
  refine callF_of (read_c hw hL hn hl) ?_
  rintro e w1 ⟨b, F, rfl, hI1, hx1, hbH, hFH, hbl, hFl⟩
  refine ⟨some ⟨b, 0, none⟩, rfl, ?_⟩
  have own : ∀ {W W' : World}, Ext [] H W.heap → Ext [b] W.heap W'.heap → Ext [] H W'.heap := fun h1 h2 => h1.own h2 (by intro c hc hlt; simp at hc; omega)
  have hhead := rdHead_nm L
  refine callF_of (inum_c rfl hI1) ?_
  rintro e w2 ⟨rfl, hI2, hx12⟩
  refine ⟨_, rfl, ?_⟩
  refine callF_of (inum_c rfl hI2) ?_
  rintro e w3 ⟨rfl, hI3, hx23⟩
  refine ⟨_, rfl, ?_⟩
  refine callF_of (inum_c rfl hI3) ?_
  rintro e w4 ⟨rfl, hI4, hx34⟩
  refine ⟨_, rfl, ?_⟩
  have hx4 := own (own (own hx1 hx12) hx23) hx34
  have hn4 := nmS_lt (nmS (nmS (some L)).2).2
  generalize (nmS (some L)).1 = n1 at *
  generalize (nmS (nmS (some L)).2).1 = n2 at *
  generalize (nmS (nmS (nmS (some L)).2).2).1 = n3 at *
  generalize (nmS (nmS (nmS (some L)).2).2).2 = s3 at *
  have bad : rdHead L = none → DecW H L (.returned (.tuple #[.pointer none, .int .i64 21])) w4 := by
    intro h
    exact ⟨hx4, .inl ⟨by unfold decU upPre; rw [h], rfl⟩⟩
  refine joinP_of (fun _ W => W = w4 ∧ ∃ R, s3 = some R ∧ n1 ≤ 128 ∧ n2 ≤ 8192 ∧ n3 ≤ 1024 ∧ rdHead L = some ((n1, n2, n3), R)) ?_ ?_
  · refine callF_of (ierr_c rfl hI4) ?_
    rintro e w5 ⟨⟨c, rfl, hc⟩, hw5⟩
    subst hw5
    refine ⟨c, rfl, ?_⟩
    refine iteP_ne (fun h => bad (by
      cases s3 with
      | none => rw [hhead]; rfl
      | some R => exact absurd (hc.2 rfl) h)) (fun h => ?_)
    obtain ⟨R, hR⟩ := Option.isSome_iff_exists.1 (hc.1 h)
    rw [hR] at hhead
    simp only [Option.bind_some] at hhead
    refine iteP_dec (fun h1 => bad (by rw [hhead, if_pos (by omega)])) (fun h1 => ?_)
    refine iteP_dec (fun h2 => bad (by rw [hhead, if_pos (by omega)])) (fun h2 => ?_)
    refine iteP_dec (fun h3 => bad (by rw [hhead, if_pos (by omega)])) (fun h3 => ?_)
    exact ⟨rfl, R, hR, by omega, by omega, by omega, by rw [hhead, if_neg (by omega)]⟩
  rintro _ W ⟨hW, R0, rfl, h1, h2, h3, hh⟩
  subst hW
  have hdec : ∀ {x : Option (List Ino × List UInt8)}, upRd n3 [] [] R0 = x → decU L = match x with | some (M, []) => some (n1, n2, M) | _ => none := by
    intro x hx
    unfold decU upPre
    rw [hh]
    simp only [hx]
    cases x with
    | none => rfl
    | some y =>
      obtain ⟨M, R⟩ := y
      cases R <;> rfl
  refine cvI_i64 (by omega) (by omega) ?_
  refine cvI_i64 (by omega) (by omega) ?_
  have hok : newOk (n1 : Int) (n2 : Int) := by unfold newOk; omega
  refine callF_of (new_c (n1 : Int) (n2 : Int) rfl) ?_
  rintro e w7 (⟨h, _⟩ | ⟨_, p, m, rfl, hU, hx7, hp1, hp2, hm1, hm2⟩)
  · exact absurd hok h
  refine ⟨(some ⟨p, 0, none⟩, 0), rfl, ?_⟩
  have hI7 := hI4.ext hx7 (by simp) (by simp)
  have hx07 := hx4.trans hx7
  have hs4 := hI4.lt
  have hx14 : Ext [b] w1.heap W.heap := (hx12.trans hx23).trans hx34
  have hs14 := hx14.1
  have hpF : p ∉ F := fun h => by have := hFl p h; omega
  have hmF : m ∉ F := fun h => by have := hFl m h; omega
  have hbF := hI4.no
  have hs07 := hx07.1
  have hs47 := hx7.1
  have hH4 := hx4.1
  refine loopP_of (fun (s : (Option Addr × Nat × Nat) × Int) W7 => ∃ (i : Nat) (last : Path) (M : List Ino) (R : List UInt8), s.2 = (i : Int) ∧ i ≤ n3 ∧ InW W7.heap b F (some R) ∧ Up W7.heap p m n1 n2 M ∧ Ext [] H W7.heap ∧
      Mine W7.heap w7.heap.size y_string 1 s.1 (strRow last) ∧ last.length ≤ 8 ∧ upRd n3 [] [] R0 = upRd (n3 - i) last M R ∧ w7.heap.size ≤ W7.heap.size) (fun s _ => (n3 - s.2).toNat)
    ⟨0, [], [], R0, rfl, Nat.zero_le _, hI7, hU, hx07, .inl ⟨rfl, rfl⟩, by simp, rfl, Nat.le_refl _⟩ ?_
  rintro ⟨sl, _⟩ W7 ⟨i, last, M, R, rfl, hi, hI, hUM, hxW, hlast, hll, heq, hszW⟩
  have hlls : sl.2.1 = last.length := by have := hlast.len; simp at this; omega
  refine iteP_dec (fun hlt => ?_) (fun hge => ?_)
  · have hin : i < n3 := by simp only at hlt; omega
    rw [show n3 - i = (n3 - (i + 1)) + 1 by omega, upRd, rdIno_nm] at heq
    refine joinP_of (fun s' W' => ∃ (last' : Path) (M' : List Ino) (R' : List UInt8), InW W'.heap b F (some R') ∧ Up W'.heap p m n1 n2 M' ∧ Ext [] H W'.heap ∧
      Mine W'.heap w7.heap.size y_string 1 s' (strRow last') ∧ last'.length ≤ 8 ∧ upRd n3 [] [] R0 = upRd (n3 - (i + 1)) last' M' R' ∧ w7.heap.size ≤ W'.heap.size) ?_ ?_
    rotate_left
    · rintro s' W' ⟨last', M', R', g1, g2, g3, g4, g5, g6, g7⟩
      refine ⟨((i + 1 : Nat) : Int), ?_, ⟨i + 1, last', M', R', rfl, by omega, g1, g2, g3, g4, g5, g6, g7⟩, by simp only; omega⟩
      show ((i + 1 : Nat) : Int) = IntKind.u64.wrap ((i : Int) + 1)
      rw [wrap_u64 (by omega) (by omega)]; rfl
    have hpb : p ∉ [b] := by simp; omega
    have hmb : m ∉ [b] := by simp; omega
    have hlb : ∀ {T : TypeId} {W8 : World} {x : Option Addr × Nat × Nat} {vs : List Value} (h : Mine W8.heap w7.heap.size T 1 x vs), ∀ c ∈ ownM x, c ∉ [b] := fun h c hc hcb => by have := ownM_ge h c hc; simp at hcb; omega
    refine callF_of (itext_c (most := 256) rfl hI (by omega)) ?_
    rintro e w9 ⟨rfl, hI9, hx9⟩
    refine ⟨_, rfl, ?_⟩
    refine callF_of (inum_c rfl hI9) ?_
    rintro e w10 ⟨rfl, hI10, hx10⟩
    refine ⟨_, rfl, ?_⟩
    refine genQ_of (s := .int .u64) _ (min9 _ _) ?_
    refine cvI_i64 (by omega) (by omega) ?_
    refine callF_of (iflag_c rfl hI10) ?_
    rintro e w11 ⟨rfl, hI11, hx11⟩
    refine ⟨_, rfl, ?_⟩
    refine callF_of (itext_c (most := 1024) rfl hI11 (by omega)) ?_
    rintro e w12 ⟨rfl, hI12, hx12'⟩
    refine ⟨_, rfl, ?_⟩
    have hx712 : Ext [b] W7.heap w12.heap := ((hx9.trans hx10).trans hx11).trans hx12'
    have hU12 := hUM.ext hx712 hpb hmb
    have hl12 := hlast.ext hx712 (hlb hlast)
    have hxH12 := own hxW hx712
    generalize (txS 256 (some R)).1 = t at *
    generalize (nmS (txS 256 (some R)).2).1 = k at *
    generalize (flS (nmS (txS 256 (some R)).2).2).1 = o at *
    generalize (txS 1024 (flS (nmS (txS 256 (some R)).2).2).2).1 = d at *
    generalize (txS 1024 (flS (nmS (txS 256 (some R)).2).2).2).2 = s4 at *
    refine genQ_of (s := .any) _ (bI4 _ _ _ _ _) ?_
    rw [zcI]
    refine newB_h rfl fun w13 hw13 => ?_
    have hb13 : w13.heap[w12.heap.size]? = some (.cells (raw [] 0 false []).toArray y_api_Inode (0, 0)) := by rw [hw13]; exact push_new
    refine stI rfl hb13 rfl (vs := raw t ((min k 9 : Nat) : Int) o d) rfl one_raw fun w14 hw14 => ?_
    have hb14 : w14.heap[w12.heap.size]? = some (.cells (raw t ((min k 9 : Nat) : Int) o d).toArray y_api_Inode (0, 0)) := by rw [hw14]; exact set_new hb13
    have hx1214 : Ext [] w12.heap w14.heap := by rw [hw14, hw13]; exact (Ext.push _).set_own (.inl (Nat.le_refl _))
    refine ld_h (s := .str) (t := strOf t) rfl hb14 rfl ?_
    refine callF_of (names_c t rfl) ?_
    rintro e w15 ⟨x, rfl, hm15, hx15⟩
    refine ⟨x, rfl, ?_⟩
    have hxl : x.2.1 = (parseP t).1.length := by have := hm15.len; simp at this; omega
    have hxc : x.2.1 ≤ x.2.2 := by
      rcases hm15 with ⟨rfl, _⟩ | ⟨_, _, _, _, _, _, _, h, _⟩
      · exact Nat.le_refl _
      · exact h
    have hokP := parse_ok t
    have hsm := hokP.small
    have hp8 := hokP.2
    have hx1215 := hx1214.trans hx15
    have hs712 := hx712.1
    have hs1214 := hx1214.1
    refine joinP_of (fun _ W' => ∃ (M' : List Ino) (R' : List UInt8), InW W'.heap b F (some R') ∧ Up W'.heap p m n1 n2 M' ∧ Ext [] H W'.heap ∧
      Mine W'.heap w7.heap.size y_string 1 x (strRow (parseP t).1) ∧ upRd n3 [] [] R0 = upRd (n3 - (i + 1)) (parseP t).1 M' R' ∧ w7.heap.size ≤ W'.heap.size) ?_ ?_
    rotate_left
    · rintro _ W' ⟨M', R', g1, g2, g3, g4, g5, g6⟩
      exact ⟨(parseP t).1, M', R', g1, g2, g3, g4, hp8, g5, g6⟩
    refine drewP_h rfl fun w16 hw16 => ?_
    have hx1516 : Ext [] w15.heap w16.heap := by rw [hw16]; exact .refl _ _
    have hx1216 := hx1215.trans hx1516
    have hI16 := hI12.ext hx1216 (by simp) (by simp)
    have hb16 := (hx15.trans hx1516).get hb14 (by simp)
    have hx016 := hxH12.trans hx1216
    have none_ : ∀ {W' : World}, Ext [] H W'.heap → upRd n3 [] [] R0 = none → DecW H L (.returned (.tuple #[.pointer none, .int .i64 21])) W' := fun h1 h2 => ⟨h1, .inl ⟨by rw [hdec h2], rfl⟩⟩
    refine callF_of (ierr_c rfl hI16) ?_
    rintro e w17 ⟨⟨c, rfl, hc⟩, hw17⟩
    subst hw17
    refine ⟨c, rfl, ?_⟩
    refine iteP_ne (fun h => ⟨rfl, none_ hx016 (by
      cases s4 with
      | none => rw [heq]; rfl
      | some R => exact absurd (hc.2 rfl) h)⟩) (fun h => ?_)
    obtain ⟨R', rfl⟩ := Option.isSome_iff_exists.1 (hc.1 h)
    simp only [Option.map_some] at heq
    refine ld_h (s := .str) (t := strOf t) rfl hb16 rfl ?_
    refine callF_of (show_c rfl (hm15.ext hx1516 (by simp)).cells hxl hxc (by omega)) ?_
    rintro e w18 ⟨rfl, hx18⟩
    refine ⟨strOf (showP (parseP t).1), rfl, ?_⟩
    have hb18 := hx18.get hb16 (by simp)
    have hx018 := hx016.trans hx18
    refine ⟨ld_h (s := .str) (t := strOf t) rfl hb18 rfl rfl, ?_⟩
    refine iteP_of (p := showP (parseP t).1 ≠ t) (by rw [Bool.not_eq_true', ← Bool.not_eq_true, beqStr2]) (fun hne => none_ hx018 (by rw [heq, if_neg fun h => hne h.1])) (fun hsh => ?_)
    have hsh : showP (parseP t).1 = t := by simpa using hsh
    have hx1218 := hx1216.trans hx18
    have hl18 := hl12.ext hx1218 (by simp)
    have hm18 := hm15.ext (hx1516.trans hx18) (by simp)
    refine callF_of (compare_c rfl hl18.cells hlls hm18.cells hxl (by omega)) ?_
    rintro e w19 ⟨rfl, hw19⟩
    subst hw19
    refine ⟨cmpP last (parseP t).1, rfl, ?_⟩
    refine iteP_dec (fun hcm => none_ hx018 (by rw [heq, if_neg fun h => by have := h.2.1; omega])) (fun hcm => ?_)
    refine ldA_all rfl hb18 rfl ?_
    refine callF_of (put_c (t := t) (k := ((min k 9 : Nat) : Int)) (o := o) (d := d) rfl (hU12.ext hx1218 (by simp) (by simp))) ?_
    rintro e w20 ⟨rfl, hU20, hx20⟩
    refine ⟨_, rfl, ?_⟩
    have hx020 : Ext [] H w20.heap := hx018.own hx20 (by intro c hc hlt; simp at hc; omega)
    refine iteP_ne (fun hpz => none_ hx020 (by rw [heq, if_neg fun h => hpz h.2.2])) (fun hpz => ?_)
    have hpm : ∀ c, c ∈ [p, m] → c < w7.heap.size := by intro c hc; simp at hc; omega
    have hs20 := hx1218.1
    have hs20' := hx20.1
    refine ⟨_, R', (hI12.ext hx1218 (by simp) (by simp)).ext hx20 (by simp; omega) (fun c hc h => by simp at h; rcases h with rfl | rfl; exact hpF hc; exact hmF hc), hU20, hx020, ?_, by rw [heq, if_pos ⟨hsh, by omega, hpz⟩], by omega⟩
    exact (hm18.mono (by omega : w7.heap.size ≤ w14.heap.size)).ext hx20 fun c hc h => by
      have h1 := ownM_ge hm18 c hc
      have h2 := hpm c h
      omega
  · obtain rfl : i = n3 := by simp only at hge; omega
    rw [Nat.sub_self, upRd] at heq
    have := hdec heq
    refine callF_of (iend_c rfl hI) ?_
    rintro e w23 ⟨rfl, hw23⟩
    subst hw23
    refine ⟨_, rfl, ?_⟩
    cases R with
    | nil => exact iteP_f (by simp) ⟨hxW, .inr ⟨n1, n2, M, p, m, this, rfl, hUM, by omega, by omega⟩⟩
    | cons c R => exact iteP_t (by simp) ⟨hxW, .inl ⟨this, rfl⟩⟩
end Go.Proofs.YtbmegmbnlajbbaaGreat
