/- The upper branch: what lies where, and its small calls. -/
import Derived.Test.YtbmegmbnlajbbaaGreatUi
import Derived.Test.YtbmegmbnlajbbaaGreatFwM
namespace Go.Proofs.YtbmegmbnlajbbaaGreat
open Go Go.Fw Go.Proofs Go.Sort

structure Ino where
  names : Path
  kind : Int
  opq : Bool
  data : List UInt8
deriving DecidableEq, Inhabited
def raw (t : List UInt8) (k : Int) (o : Bool) (d : List UInt8) : List Value := [.string (strOf t), .int .i64 k, .bool o, .string (strOf d)]
def encI (i : Ino) : List Value := raw (showP i.names) i.kind i.opq i.data
def valI (i : Ino) : Value := .agg (encI i).toArray
def rawV (t : List UInt8) (k : Int) (o : Bool) (d : List UInt8) : Value := .agg (raw t k o d).toArray
def keyS (L : List UInt8) : Value := .string (strOf L)
theorem len_encI (i : Ino) : (encI i).length = 4 := rfl
theorem one_raw {t d : List UInt8} {k : Int} {o : Bool} : oneCells (raw t k o d) := by
  intro v hv
  simp only [raw, List.mem_cons, List.not_mem_nil, or_false] at hv
  rcases hv with rfl | rfl | rfl | rfl <;> rfl
theorem one_encI {i : Ino} : oneCells (encI i) := one_raw
/-- Inodes that stand as they ought to: each at a path's names, in order. -/
structure Good (L : List Ino) : Prop where
  ok : ∀ i ∈ L, okP i.names ∧ i.names ≠ []
  rise : L.Pairwise fun a b => cmpP a.names b.names < 0
  small : ∀ i ∈ L, i.data.length ≤ 1024
  many : L.length ≤ 1024
def tot (L : List Ino) : Nat := (L.map fun i => i.data.length).sum
abbrev IM := ML (List UInt8) Ino
structure St (M : IM) (L : List Ino) : Prop where
  perm : (M.map (·.2.1)).Perm L
  key : ∀ x ∈ M, x.1 = showP x.2.1.names
  good : Good L
/-- An upper branch lies at p. -/
def Up (H : Heap) (p m : Nat) (nodes bytes : Int) (L : List Ino) : Prop := ∃ M c, H[p]? = some (.cells #[.int .i64 nodes, .int .i64 bytes, .int .i64 (tot L : Int), .map (some m)] y_upper_Upper (0, 0)) ∧
  H[m]? = some (.map (ents keyS (vl valI M)) c) ∧ MOk (fun _ => True) M c ∧ St M L
theorem Up.ext {F : List Nat} {H H' : Heap} {p m : Nat} {n b : Int} {L : List Ino} (h : Up H p m n b L) (hx : Ext F H H') (hp : p ∉ F) (hm : m ∉ F) : Up H' p m n b L := by
  obtain ⟨M, c, h1, h2, h3⟩ := h
  exact ⟨M, c, hx.get h1 hp, hx.get h2 hm, h3⟩
theorem Kstr : KeyOk P y_string (List UInt8) (fun _ => True) keyS := KeyOk.str uStr
theorem uM : P.underlying y_M_string_api_Inode = some (.map y_string y_api_Inode) := by kernel_rfl
def zI : Value := rawV [] 0 false []
theorem zMI (w : World) : (zeroValue y_api_Inode).run P w = .ok zI w := by kernel_rfl
theorem zcI : zc P y_api_Inode = (raw [] 0 false []).toArray := by kernel_rfl
theorem szI : P.cellsOf y_api_Inode = 4 := by kernel_rfl
theorem bI (w : World) : (Instr.build y_api_Inode #[]).run P w = .ok zI w := by kernel_rfl
theorem bU (n b : Int) (m : Option Nat) (w : World) : (Instr.build y_upper_Upper #[(0, .int .i64 n), (1, .int .i64 b), (3, .map m)]).run P w = .ok (.agg #[.int .i64 n, .int .i64 b, .int .i64 0, .map m]) w := by kernel_rfl
theorem uI : P.underlying y_S_api_Inode = some (.slice y_api_Inode) := by kernel_rfl
theorem EI : Elem P y_api_Inode 4 48 := elem_of (z := rawV [] 0 false []) (by kernel_rfl) rfl
theorem szIi : (P.info? y_api_Inode).map (·.size) = some 4 := by kernel_rfl

/-- New: whether the quotas may be. -/
def newOk (n b : Int) : Prop := 0 ≤ n ∧ n ≤ 128 ∧ 0 ≤ b ∧ b ≤ 8192
instance (n b : Int) : Decidable (newOk n b) := by unfold newOk; infer_instance
theorem St.nil : St [] [] := ⟨.refl _, by simp, ⟨by simp, .nil, by simp, by simp⟩⟩
theorem new_c {w : World} {H : Heap} (n b : Int) (hw : w.heap = H) : CallF P F_upper_New #[.int .i64 n, .int .i64 b] w fun e w' =>
    (¬ newOk n b ∧ e = .returned (.tuple #[.pointer none, .int .i64 1]) ∧ w'.heap = H) ∨ (newOk n b ∧ ∃ p m, e = .returned (.tuple #[.pointer (some ⟨p, 0, none⟩), .int .i64 0]) ∧ Up w'.heap p m n b [] ∧ Ext [] H w'.heap ∧ H.size ≤ p ∧ p < w'.heap.size ∧ H.size ≤ m ∧ m < w'.heap.size) := by
  refine fn_upper_New ?_
  unfold T_upper_New
  refine joinP_in ?_
  refine iteP_dec (fun h => .inl ⟨fun h2 => by have := h2.1; omega, rfl, hw⟩) (fun h1 => ?_)
  refine iteP_dec (fun h => .inl ⟨fun h2 => by have := h2.2.1; omega, rfl, hw⟩) (fun h2 => ?_)
  refine iteP_dec (fun h => .inl ⟨fun h2 => by have := h2.2.2.1; omega, rfl, hw⟩) (fun h3 => ?_)
  refine iteP_dec (fun h => .inl ⟨fun h2 => by have := h2.2.2.2; omega, rfl, hw⟩) (fun h4 => ?_)
  refine genL_of (s := .map) (some H.size) _ (makeMap_h hw) ?_
  refine genQ_of (s := .any) _ (bU _ _ _ _) ?_
  refine newB_h (H := H.push (.map #[] 0)) rfl fun w2 hw2 => ?_
  refine .inr ⟨⟨by omega, by omega, by omega, by omega⟩, H.size + 1, H.size, by simp, ⟨[], 0, ?_, ?_, .nil, .nil⟩, by rw [hw2]; exact (Ext.push _).push_own, by omega, by rw [hw2]; simp, by omega, by rw [hw2]; simp; omega⟩
  · rw [hw2]
    have : (H.push (.map #[] 0)).size = H.size + 1 := by simp
    rw [← this]; exact push_new
  · rw [hw2]; exact push_old push_new

/-- What is wrong with an inode by itself. -/
def formE (k : Int) (o : Bool) (d : List UInt8) : Int :=
  if k < 1 ∨ 3 < k then 100 else if (d ≠ [] ∧ k ≠ 1) ∨ (o = true ∧ k ≠ 2) then 1 else if 1024 < d.length then 134 else 0
theorem form_c {w : World} {H : Heap} (t d : List UInt8) (k : Int) (o : Bool) (hw : w.heap = H) : CallF P F_upper_form #[rawV t k o d] w fun e w' => e = .returned (.int .i64 (formE k o d)) ∧ Ext [] H w'.heap := by
  refine fn_upper_form ?_
  unfold T_upper_form
  refine newB_h hw fun w1 hw1 => ?_
  have hx1 : Ext [] H w1.heap := by rw [hw1]; exact .push _
  have hb : w1.heap[H.size]? = some (.cells (raw t k o d).toArray y_api_Inode (0, 0)) := by rw [hw1]; exact push_new
  refine ld_h (s := .int .i64) (t := k) rfl hb rfl ?_
  have data : ∀ {R1 R2 : Prop}, (d ≠ [] → R1) → (d = [] → R2) → ld .str (⟨H.size, 3, none⟩ : Addr) w1 fun (t14 : ByteArray) => iteP (!(t14.toList == (ByteArray.mk #[]).toList)) R1 R2 := by
    intro R1 R2 h1 h2
    refine ld_h (s := .str) (t := strOf d) rfl hb rfl ?_
    exact iteP_of (p := d ≠ []) (by rw [Bool.not_eq_true', ← Bool.not_eq_true, beqStr]) h1 (fun h => h2 (Classical.not_not.1 h))
  refine joinP_in ?_
  refine joinP_in ?_
  refine joinP_in ?_
  refine iteP_eq (fun h3 => ?_) (fun h3 => iteP_eq (fun h2 => ?_) (fun h2 => iteP_eq (fun h1 => ?_) (fun h1 => ?_)))
  · subst h3
    refine ld_h (s := .bool) (t := o) rfl hb rfl ?_
    cases o with
    | true => exact iteP_t rfl ⟨by simp [formE], hx1⟩
    | false =>
      refine iteP_f rfl ?_
      refine data (fun h => ⟨by simp [formE, h], hx1⟩) (fun h => ⟨by simp [formE, h], hx1⟩)
  · subst h2
    refine data (fun h => ⟨by simp [formE, h], hx1⟩) (fun h => ⟨by simp [formE, h], hx1⟩)
  · subst h1
    refine ld_h (s := .bool) (t := o) rfl hb rfl ?_
    cases o with
    | true => exact iteP_t rfl ⟨by simp [formE], hx1⟩
    | false =>
      refine iteP_f rfl ?_
      refine ld_h (s := .str) (t := strOf d) rfl hb rfl ?_
      refine iteP_dec (fun h => ⟨?_, hx1⟩) (fun h => ⟨?_, hx1⟩)
      · have h : 1024 < d.length := by simp only [strOf_size] at h; omega
        simp [formE, h]
      · have h : ¬ 1024 < d.length := by simp only [strOf_size] at h; omega
        simp [formE, h]
  · exact ⟨by unfold formE; rw [if_pos (by omega)], hx1⟩

theorem count_c {w : World} {H : Heap} {p m : Nat} {n b : Int} {L : List Ino} (hw : w.heap = H) (hU : Up H p m n b L) : CallF P F_upper_Upper_Count #[.pointer (some ⟨p, 0, none⟩)] w fun e w' => e = .returned (.int .i64 (L.length : Int)) ∧ w' = w := by
  obtain ⟨M, c, h1, h2, h3, h4⟩ := hU
  refine fn_upper_Upper_Count ?_
  unfold T_upper_Upper_Count
  refine iteP_f rfl ?_
  simp only [withAddr_some, add_none, Nat.zero_add]
  refine ld_h (s := .map) (t := some m) hw h1 rfl ?_
  refine genQ_of (s := .int .i64) _ (len_map_v uM hw h2) ?_
  refine ⟨?_, trivial⟩
  have := h4.perm.length_eq
  rw [List.length_map] at this
  rw [this]
theorem size_c {w : World} {H : Heap} {p m : Nat} {n b : Int} {L : List Ino} (hw : w.heap = H) (hU : Up H p m n b L) : CallF P F_upper_Upper_Size #[.pointer (some ⟨p, 0, none⟩)] w fun e w' => e = .returned (.int .i64 (tot L : Int)) ∧ w' = w := by
  obtain ⟨M, c, h1, h2, h3, h4⟩ := hU
  refine fn_upper_Upper_Size ?_
  unfold T_upper_Upper_Size
  refine iteP_f rfl ?_
  simp only [withAddr_some, add_none, Nat.zero_add]
  exact ld_h (s := .int .i64) (t := (tot L : Int)) hw h1 rfl ⟨rfl, trivial⟩
def overB (n b : Int) (L : List Ino) : Bool := decide ((L.length : Int) > n) || decide ((tot L : Int) > b)
theorem over_c {w : World} {H : Heap} {p m : Nat} {n b : Int} {L : List Ino} (hw : w.heap = H) (hU : Up H p m n b L) : CallF P F_upper_Upper_Over #[.pointer (some ⟨p, 0, none⟩)] w fun e w' => e = .returned (.bool (overB n b L)) ∧ w'.heap = H := by
  obtain ⟨M, c, h1, h2, h3, h4⟩ := hU
  have hl : M.length = L.length := by have := h4.perm.length_eq; rwa [List.length_map] at this
  refine fn_upper_Upper_Over ?_
  unfold T_upper_Upper_Over
  refine drewP_h hw fun w1 hw1 => ?_
  refine iteP_t rfl ?_
  simp only [withAddr_some, add_none, Nat.zero_add]
  refine ld_h (s := .map) (t := some m) hw1 h1 rfl ?_
  refine genQ_of (s := .int .i64) _ (len_map_v uM hw1 h2) ?_
  refine ld_h (s := .int .i64) (t := n) hw1 h1 rfl ?_
  refine iteP_dec (fun h => ⟨?_, hw1⟩) (fun h => ?_)
  · unfold overB; rw [decide_eq_true (by omega)]; rfl
  · refine ld_h (s := .int .i64) (t := (tot L : Int)) hw1 h1 rfl ?_
    refine ld_h (s := .int .i64) (t := b) hw1 h1 rfl ?_
    refine ⟨?_, hw1⟩
    unfold overB; rw [decide_eq_false (p := (L.length : Int) > n) (by omega)]; rfl
end Go.Proofs.YtbmegmbnlajbbaaGreat
