/- Inodes are compared. -/
import Derived.Test.YtbmegmbnlajbbaaGreatUq
import Derived.Laws.StructEq
namespace Go.Proofs.YtbmegmbnlajbbaaGreat
open Go Go.Fw Go.Proofs Go.Sort

theorem fI : (P.fieldsOf y_api_Inode).toList.map (fun f => (f.name, f.type, f.offset)) = [("Path", y_string, 0), ("Kind", y_int, 1), ("Opaque", y_bool, 2), ("Data", y_string, 3)] := by kernel_rfl
theorem uIst : P.underlying y_api_Inode = some (.struct (P.fieldsOf y_api_Inode)) := by kernel_rfl
theorem heldI : P.stoodInHeld y_api_Inode = false := by kernel_rfl
theorem guardI : P.eqGuardType P.depth y_api_Inode = false := by kernel_rfl
theorem uInt : P.underlying y_int = some (.int .i64) := by kernel_rfl
theorem uBool : P.underlying y_bool = some .bool := by kernel_rfl
theorem partI {cs : Array Value} {t : TypeId} {o : Nat} {v : Value} {w : World} (ha : (isAgg t).run P w = .ok false w) (hc : cs[o]? = some v) : (part t cs o).run P w = .ok v w := by
  simp [part, ha, hc]
def sameRaw (t t' d d' : List UInt8) (k k' : Int) (o o' : Bool) : Bool := decide (t = t') && (decide (k = k') && (decide (o = o') && decide (d = d')))
theorem beqL {a b : List UInt8} : (a == b) = decide (a = b) := by rw [Bool.eq_iff_iff]; simp
theorem eqRaw {t t' d d' : List UInt8} {k k' : Int} {o o' : Bool} {w : World} : (Op.equalIn 10000 y_api_Inode (.agg (raw t k o d).toArray) (.agg (raw t' k' o' d').toArray)).run P w = .ok (sameRaw t t' d d' k k' o o') w := by
  rw [run_equalIn_agg w 9999 y_api_Inode _ _ uIst heldI]
  have hf := fI
  generalize (P.fieldsOf y_api_Inode).toList = fs at hf
  have hl : fs.length = 4 := by simpa using congrArg List.length hf
  obtain ⟨f0, f1, f2, f3, rfl⟩ : ∃ a b c d, fs = [a, b, c, d] := by
    match fs, hl with
    | [a, b, c, d], _ => exact ⟨a, b, c, d, rfl⟩
  · simp only [List.map_cons, List.map_nil, List.cons.injEq, Prod.mk.injEq, and_true] at hf
    obtain ⟨⟨n0, t0, o0⟩, ⟨n1, t1, o1⟩, ⟨n2, t2, o2⟩, n3, t3, o3⟩ := hf
    have e0 : ∀ w, (part f0.type (raw t k o d).toArray f0.offset).run P w = .ok (.string (strOf t)) w := fun w => by rw [t0, o0]; exact partI (by kernel_rfl) rfl
    have e0' : ∀ w, (part f0.type (raw t' k' o' d').toArray f0.offset).run P w = .ok (.string (strOf t')) w := fun w => by rw [t0, o0]; exact partI (by kernel_rfl) rfl
    have e1 : ∀ w, (part f1.type (raw t k o d).toArray f1.offset).run P w = .ok (.int .i64 k) w := fun w => by rw [t1, o1]; exact partI (by kernel_rfl) rfl
    have e1' : ∀ w, (part f1.type (raw t' k' o' d').toArray f1.offset).run P w = .ok (.int .i64 k') w := fun w => by rw [t1, o1]; exact partI (by kernel_rfl) rfl
    have e2 : ∀ w, (part f2.type (raw t k o d).toArray f2.offset).run P w = .ok (.bool o) w := fun w => by rw [t2, o2]; exact partI (by kernel_rfl) rfl
    have e2' : ∀ w, (part f2.type (raw t' k' o' d').toArray f2.offset).run P w = .ok (.bool o') w := fun w => by rw [t2, o2]; exact partI (by kernel_rfl) rfl
    have e3 : ∀ w, (part f3.type (raw t k o d).toArray f3.offset).run P w = .ok (.string (strOf d)) w := fun w => by rw [t3, o3]; exact partI (by kernel_rfl) rfl
    have e3' : ∀ w, (part f3.type (raw t' k' o' d').toArray f3.offset).run P w = .ok (.string (strOf d')) w := fun w => by rw [t3, o3]; exact partI (by kernel_rfl) rfl
    have q0 : (Op.equalIn 9999 f0.type (.string (strOf t)) (.string (strOf t'))).run P w = .ok (decide (t = t')) w := by rw [t0, run_equalIn_string w 9998 _ _ _ uStr, strOf_toList, strOf_toList, beqL]
    have q1 : (Op.equalIn 9999 f1.type (.int .i64 k) (.int .i64 k')).run P w = .ok (decide (k = k')) w := by rw [t1, run_equalIn_int w 9998 _ _ _ _ _ uInt]; rfl
    have q2 : (Op.equalIn 9999 f2.type (.bool o) (.bool o')).run P w = .ok (decide (o = o')) w := by rw [t2, run_equalIn_bool' w 9998 _ _ _ uBool]; rfl
    have q3 : (Op.equalIn 9999 f3.type (.string (strOf d)) (.string (strOf d'))).run P w = .ok (decide (d = d')) w := by rw [t3, run_equalIn_string w 9998 _ _ _ uStr, strOf_toList, strOf_toList, beqL]
    unfold sameRaw
    generalize decide (t = t') = b0 at *
    generalize decide (k = k') = b1 at *
    generalize decide (o = o') = b2 at *
    generalize decide (d = d') = b3 at *
    simp only [Op.eqFields, n0, n1, n2, n3, ne_eq, String.reduceEq, not_false_eq_true, if_true, Sem.run_bind, e0, e0', Result.andThen_ok, q0]
    cases b0 with
    | false => simp
    | true =>
      simp only [Bool.not_true, Bool.false_eq_true, if_false, Sem.run_bind, e1, e1', Result.andThen_ok, q1]
      cases b1 with
      | false => simp
      | true =>
        simp only [Bool.not_true, Bool.false_eq_true, if_false, Sem.run_bind, e2, e2', Result.andThen_ok, q2]
        cases b2 with
        | false => simp
        | true =>
          simp only [Bool.not_true, Bool.false_eq_true, if_false, Sem.run_bind, e3, e3', Result.andThen_ok, q3]
          cases b3 <;> simp
theorem neRaw {x y : Operand} {t t' d d' : List UInt8} {k k' : Int} {o o' : Bool} {w : World} : (eqM .neq y_api_Inode x y (.agg (raw t k o d).toArray) (.agg (raw t' k' o' d').toArray)).run P w = .ok (.bool (!sameRaw t t' d d' k k' o o')) w := by
  simp only [eqM, Sem.run_bind, run_eqGuard_agg w .neq y_api_Inode x y _ _ guardI, Result.andThen_ok, run_neq_struct w, eqRaw]
theorem eqlRaw {x y : Operand} {t t' d d' : List UInt8} {k k' : Int} {o o' : Bool} {w : World} : (eqM .eql y_api_Inode x y (.agg (raw t k o d).toArray) (.agg (raw t' k' o' d').toArray)).run P w = .ok (.bool (sameRaw t t' d d' k k' o o')) w := by
  simp only [eqM, Sem.run_bind, run_eqGuard_agg w .eql y_api_Inode x y _ _ guardI, Result.andThen_ok, run_eql_struct w, eqRaw]
theorem same_self {t d : List UInt8} {k : Int} {o : Bool} : sameRaw t t d d k k o o = true := by simp [sameRaw]
/-- The same inodes are the same. -/
theorem inodes_c {w : World} {H : Heap} {a b : Option Addr} {n nc m mc : Nat} {L : List Ino} (hw : w.heap = H) (hA : Cells H a (L.flatMap encI)) (hn : n = L.length) (hB : Cells H b (L.flatMap encI)) (hm : m = L.length) (hL : L.length ≤ 1099511627776) :
    CallF P F_r12_Inodes #[.slice a n nc, .slice b m mc] w fun e w' => e = .returned (.bool true) ∧ w'.heap = H := by
  subst hn hm
  refine fn_r12_Inodes ?_
  unfold T_r12_Inodes
  refine iteP_f (by simp) ?_
  refine loopP_of (fun (s : Int) W => ∃ i : Nat, s = (i : Int) ∧ i ≤ L.length ∧ W.heap = H) (fun s _ => (L.length - s).toNat) ⟨0, rfl, Nat.zero_le _, hw⟩ ?_
  rintro _ W ⟨i, rfl, hi, hW⟩
  refine iteP_dec (fun hlt => ?_) (fun hge => ⟨rfl, hW⟩)
  have hil : i < L.length := by omega
  have hget := List.getElem?_eq_getElem hil
  generalize L[i] = v at *
  refine drewP_h hW fun W1 hW1 => ?_
  refine inoIx hW1 hA rfl hget rfl fun ba oa ca Ta fra hba hsa hca => ?_
  refine inoIx hW1 hB rfl hget rfl fun b2 o2 c2 T2 fr2 hb2 hs2 hc2 => ?_
  have ext4 : ∀ {c : Array Value} {o : Nat}, o + 4 ≤ c.size → (∀ j, j < 4 → c[o + j]? = (encI v)[j]?) → c.extract o (o + 4) = (encI v).toArray := by
    intro c o hs hc
    apply Array.ext_getElem?
    intro j
    rw [Array.getElem?_extract]
    by_cases hj : j < 4
    · rw [if_pos (by omega), hc j hj]; simp
    · rw [if_neg (by omega), Array.getElem?_eq_none (by simp [len_encI]; omega)]
  refine ldA_h hW1 hba hsa ?_
  rw [ext4 hsa hca]
  refine ldA_h hW1 hb2 hs2 ?_
  rw [ext4 hs2 hc2]
  refine genQ_of (s := .bool) _ neRaw ?_
  refine iteP_f (by rw [same_self]; rfl) ?_
  refine addI_to ((i + 1 : Nat) : Int) (by omega) (by omega) (by omega) ?_
  exact ⟨⟨i + 1, rfl, by omega, hW1⟩, by omega⟩
end Go.Proofs.YtbmegmbnlajbbaaGreat
