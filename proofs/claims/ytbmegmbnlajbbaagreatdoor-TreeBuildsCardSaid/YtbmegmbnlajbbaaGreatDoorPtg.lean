/- Part 7 of the texts below the card, joined. -/
import Derived.Test.YtbmegmbnlajbbaaGreatDoorPtf
import Derived.Laws.StructEq
import Derived.Test.YtbmegmbnlajbbaaGreatDoorPtc
import Derived.Test.YtbmegmbnlajbbaaGreatDoorPta
import Derived.WalkKit
import Derived.ProofKit
import Derived.OpenShut
import Derived.Deep.DeepHandedRow
import Derived.Lib.LaidTab
import Derived.Carry
import Derived.Test.YtbmegmbnlajbbaaGreatDoorCards
import Derived.Test.YtbmegmbnlajbbaaGreatDoorTie
namespace Go.Proofs.YtbmegmbnlajbbaaGreatDoor
open Go Go.Fw Go.Proofs Go.Sort
theorem z1z {L : List Fil} : (zls L).2.length = 32 := by rw [zif]; exact zga
theorem qih {w : World} {H : Heap} {B : Nat} {l : Option Addr × Nat × Nat} {L : List Fil} (hw : w.heap = H) (hM : Mine H B zl 3 l (((zhs L).map clean).flatMap zbo)) (hd : ∀ f ∈ L, f.data.length ≤ 1024) (hm : L.length ≤ 65536) (hp : (zhs L).Perm L) (hbl : (zls L).1.length ≤ 500000000) :
  qg P zre #[.slice l.1 l.2.1 l.2.2] w fun e w' => ∃ x', e = .returned (.tuple #[zc9 x', arr (zls L).2]) ∧ zau w'.heap H.size x' (zls L).1 ∧ Ext [] H w'.heap := by
 refine z6f ?_
 unfold zr9
 refine jw hw fun w1 hw1 => ?_
 have hx1 : Ext [] H w1.heap := by rw [hw1]; exact .push _
 have hd1 : w1.heap[H.size]? = some (.cells (zc P zf) zf (0, 0)) := by rw [hw1]; exact zn
 have s1 := lt_of_get hd1
 have e1 : zca ((zhs L).map clean) 9 [] = zls L := by rw [z1r, zif]
 refine zk (qh0 ((zhs L).map clean) (fun f hf => by
   obtain ⟨g, hg, rfl⟩ := List.mem_map.1 hf
   exact hd g (hp.mem_iff.1 hg)) (by rw [List.length_map, hp.length_eq]; exact hm) 9 (B := H.size) (BL := B) (BD := 0) (x := (none, 0, 0)) (d := (none, 0, 0)) (Ls := []) (p := []) rfl .nil (by omega) (hM.ext hx1 (by simp)) (.inl ⟨rfl, rfl⟩) rfl (by simp) (by rw [e1]; simpa using hbl)) ?_
 rintro e w2 ⟨x', rfl, hB2, hx2, hs2⟩
 refine ⟨(x', arr (zca ((zhs L).map clean) 9 []).2), rfl, ?_⟩
 simp only [e1] at hB2 ⊢
 have hx2' : Ext [] w1.heap w2.heap := hx2.mono (by simp [xu])
 have hd2 := hx2'.get hd1 (by simp)
 refine z4k (k := (zls L).2) z1z rfl hd2 zcD fun w3 hw3 => ?_
 have hx3 : Ext [H.size] w2.heap w3.heap := by rw [hw3]; exact Ext.set _ (by simp)
 have hd3 : w3.heap[H.size]? = some (.cells (byteCells (zls L).2).toArray zf (0, 0)) := by rw [hw3]; exact qm hd2
 refine jf rfl hd3 (by simp [z1z]) ?_
 refine ⟨x', rfl, ?_, (hx1.trans hx2').own hx3 (fun c hc hlt => by simp at hc; omega)⟩
 exact hB2.keep hx3 (fun m hm c T fr hc => by
  simp at hm; subst hm
  rw [hd2] at hc
  simp only [Option.some.injEq, Obj.cells.injEq] at hc
  rw [← hc.2.1]; exact ⟨by decide, by decide⟩)
theorem qmn {L : List Fil} (h : zch L = 0) : ¬ zze L ∧ ∀ f ∈ L, f.data.length ≤ 1024 := by
 unfold zch at h
 split at h
 ·rename_i h1; exact absurd h h1
 ·rename_i h1
  exact ⟨(qa7 h).1, qff (by simpa using h1)⟩
set_option maxHeartbeats 2000000 in
theorem qhq {w : World} {H : Heap} {fp : List Nat} {p : Nat} {q : Int} {r : Bl.SM} {a : Option Addr} {n nc : Nat} {L : List Fil} (hw : w.heap = H) (hS : Bl.zd9 H fp p q r) (hfp : ∀ b ∈ fp, b < H.size)
  (hL : Cells H a (L.flatMap zbo)) (hn' : n = L.length) (hm : L.length ≤ 65536)
  (hb : Bl.total r < 1000000000000) (hn : r.length < 100000000000) (hq : 0 ≤ q) (hq2 : q ≤ 9223372036854775807) (hlen : ∀ x ∈ r, x.2.1.2.length < 1099511627776) :
  qg P zrr #[.pointer (some ⟨p, 0, none⟩), .slice a n nc] w (qmd H fp p q r (zch L) (zls L) (1 + 18 * L.length)) := by
 refine z8k ?_
 unfold zr6
 refine jw hw fun w1 hw1 => ?_
 have hx1 : Ext [] H w1.heap := by rw [hw1]; exact .push _
 have hd1 : w1.heap[H.size]? = some (.cells (zc P zf) zf (0, 0)) := by rw [hw1]; exact zn
 have s1 := lt_of_get hd1
 refine zk (qcj rfl (hL.ext hx1 (by simp)) hn' hm) ?_
 rintro e w2 ⟨x, rfl, hx2, h2⟩
 refine ⟨(x, zch L), rfl, ?_⟩
 have hd2 := hx2.get hd1 (by simp)
 have hx02 := hx1.trans hx2
 refine zb5 (fun hc => ?_) (fun hc => ?_)
 ·refine zh7 rfl hd2 fun w3 hx3 => ?_
  have hxx : Ext fp H w3.heap := (hx02.mono (by simp)).own hx3 (fun c hc hlt => by simp at hc; omega)
  have hsz := hxx.1
  exact ⟨zch L, Bl.nought, r, fp, rfl, Bl.zda, (hS.ext hx02 (by simp)).ext hx3 (fun b hb h => by simp at h; have := hfp b hb; omega), hxx, fun b hb => by have := hfp b hb; omega, fun b hb => .inl hb, ⟨fun _ => ⟨rfl, rfl, rfl⟩, fun h => absurd h hc⟩, by omega, by omega, hlen⟩
 have hc : zch L = 0 := hc
 obtain ⟨n5, hdl⟩ := qmn hc
 have hM := h2 hc
 have hl18 := z6p n5 hdl
 obtain ⟨hperm, _⟩ := zh3 (zjv n5).1
 have s2 := hx2.1
 refine zk (qih rfl hM hdl hm hperm (by omega)) ?_
 rintro e w12 ⟨x2, rfl, hbl, hx12⟩
 refine ⟨(x2, arr (zls L).2), rfl, ?_⟩
 refine qi2 (R := qmd H fp p q r (zch L) (zls L) (1 + 18 * L.length)) (T := zls L) rfl (hx02.trans hx12) hS hfp (Nat.le_refl _) (hx12.get hd2 (by simp)) hbl z1z (qds n5 hdl hm) hb (by omega) hn hq hq2 hlen fun code d r' fp' w' a1 a2 a3 a4 a5 a6 a7 a8 a9 a10 => ?_
 exact ⟨code, d, r', fp', rfl, a1, a2, a3, a4, a5, ⟨fun h => absurd hc h, fun _ => ⟨a6, a7⟩⟩, by omega, by omega, a10⟩
theorem fFl : (P.fieldsOf zl).toList.map (fun f => (f.name, f.type, f.offset)) = [("Path", qx, 0), ("Dir", z5b, 1), ("Data", qx, 2)] := by kernel_rfl
theorem uFl : P.underlying zl = some (.struct (P.fieldsOf zl)) := by kernel_rfl
theorem qmu : P.stoodInHeld zl = false := by kernel_rfl
theorem qks : P.eqGuardType P.depth zl = false := by kernel_rfl
theorem qi1 : P.underlying z5b = some .bool := by kernel_rfl
theorem qjl {cs : Array Value} {t : TypeId} {o : Nat} {v : Value} {w : World} (ha : (isAgg t).run P w = .ok false w) (hc : cs[o]? = some v) : (part t cs o).run P w = .ok v w := by
 simp [part, ha, hc]
theorem qlz {a b : List UInt8} : (a == b) = decide (a = b) := by rw [Bool.eq_iff_iff]; simp
theorem qmi {f : Fil} {w : World} : (Op.equalIn 10000 zl (.agg (zbo f).toArray) (.agg (zbo f).toArray)).run P w = .ok true w := by
 rw [run_equalIn_agg w 9999 zl _ _ uFl qmu]
 have hf := fFl
 generalize (P.fieldsOf zl).toList = fs at hf
 have hl : fs.length = 3 := by simpa using congrArg List.length hf
 obtain ⟨f0, f1, f2, rfl⟩ : ∃ a b c, fs = [a, b, c] := by
  match fs, hl with
  | [a, b, c], _ => exact ⟨a, b, c, rfl⟩
 simp only [List.map_cons, List.map_nil, List.cons.injEq, Prod.mk.injEq, and_true] at hf
 obtain ⟨⟨n0, t0, o0⟩, ⟨n1, t1, o1⟩, n2, t2, o2⟩ := hf
 have e0 : ∀ w, (part f0.type (zbo f).toArray f0.offset).run P w = .ok (.string (strOf f.path)) w := fun w => by rw [t0, o0]; exact qjl (by kernel_rfl) rfl
 have e1 : ∀ w, (part f1.type (zbo f).toArray f1.offset).run P w = .ok (.bool f.dir) w := fun w => by rw [t1, o1]; exact qjl (by kernel_rfl) rfl
 have e2 : ∀ w, (part f2.type (zbo f).toArray f2.offset).run P w = .ok (.string (strOf f.data)) w := fun w => by rw [t2, o2]; exact qjl (by kernel_rfl) rfl
 have q0 : (Op.equalIn 9999 f0.type (.string (strOf f.path)) (.string (strOf f.path))).run P w = .ok true w := by rw [t0, run_equalIn_string w 9998 _ _ _ z3o, zbe, qlz]; simp
 have q1 : (Op.equalIn 9999 f1.type (.bool f.dir) (.bool f.dir)).run P w = .ok true w := by rw [t1, run_equalIn_bool' w 9998 _ _ _ qi1]; simp
 have q2 : (Op.equalIn 9999 f2.type (.string (strOf f.data)) (.string (strOf f.data))).run P w = .ok true w := by rw [t2, run_equalIn_string w 9998 _ _ _ z3o, zbe, qlz]; simp
 simp only [Op.eqFields, n0, n1, n2, ne_eq, String.reduceEq, not_false_eq_true, if_true, Sem.run_bind, e0, e1, e2, Result.andThen_ok, q0, q1, q2, Bool.not_true, Bool.false_eq_true, if_false, Sem.run_pure]
theorem qm0 {x y : Operand} {f : Fil} {w : World} : (eqM .neq zl x y (.agg (zbo f).toArray) (.agg (zbo f).toArray)).run P w = .ok (.bool false) w := by
 simp only [eqM, Sem.run_bind, run_eqGuard_agg w .neq zl x y _ _ qks, Result.andThen_ok, run_neq_struct w, qmi, Bool.not_true]
theorem qbe {w : World} {H : Heap} {a b : Option Addr} {n nc m mc : Nat} {L : List Fil} (hw : w.heap = H) (hA : Cells H a (L.flatMap zbo)) (hn : n = L.length) (hB : Cells H b (L.flatMap zbo)) (hm : m = L.length) (hL : L.length ≤ 1099511627776) :
  qg P zna #[.slice a n nc, .slice b m mc] w fun e w' => e = .returned (.bool true) ∧ w'.heap = H := by
 subst hn hm
 refine z6e ?_
 unfold zq3
 refine jl (by simp) ?_
 refine jd (fun (s : Int) W => ∃ i : Nat, s = (i : Int) ∧ i ≤ L.length ∧ W.heap = H) (fun s _ => (L.length - s).toNat) ⟨0, rfl, Nat.zero_le _, hw⟩ ?_
 rintro _ W ⟨i, rfl, hi, hW⟩
 refine zq (fun hlt => ?_) (fun hge => ⟨rfl, hW⟩)
 have hil : i < L.length := by omega
 have hget := List.getElem?_eq_getElem hil
 generalize L[i] = f at hget
 refine vg hW fun W1 hW1 => ?_
 refine Bl.zdf (i := i) zb8 (by omega) hA rfl hget rfl fun ba oa ca Ta fra _ hba hsa hca _ => ?_
 refine Bl.zdf (i := i) zb8 (by omega) hB rfl hget rfl fun b2 o2 c2 T2 fr2 _ hb2 hs2 hc2 _ => ?_
 have ext3 : ∀ {c : Array Value} {o : Nat}, o + 3 ≤ c.size → (∀ j, j < 3 → c[o + j]? = (zbo f)[j]?) → c.extract o (o + 3) = (zbo f).toArray := by
  intro c o hs hc
  apply Array.ext_getElem?
  intro j
  rw [Array.getElem?_extract]
  by_cases hj : j < 3
  ·rw [if_pos (by omega), hc j hj]; simp
  ·rw [if_neg (by omega), Array.getElem?_eq_none (by simp [zb8]; omega)]
 refine zuy hW1 hba hsa ?_
 rw [ext3 hsa hca]
 refine zuy hW1 hb2 hs2 ?_
 rw [ext3 hs2 hc2]
 refine xg (s := .bool) false qm0 ?_
 refine jl rfl ?_
 refine xw ((i + 1 : Nat) : Int) (by simp) (by omega) (by omega) ?_
 exact ⟨⟨i + 1, rfl, by omega, hW1⟩, by omega⟩
theorem qm1 {w : World} {H : Heap} {b : Nat} {a : Option Addr} {n nc k : Nat} {T : TypeId} {fr : Nat × Nat} {L : List Fil} (hw : w.heap = H) (hb : H[b]? = some (.cells #[.slice a n nc] T fr)) (hA : Cells H a (L.flatMap zbo)) (hn : n = L.length) (hL : L.length ≤ 9223372036854775807) :
  qg P zy7 #[.slice (some ⟨b, 0, none⟩) 1 k] w fun e w' => ∃ t, e = .returned (.bool t) ∧ w'.heap = H := by
 subst hn
 refine qd2 ?_
 unfold zwv
 refine jd (fun (s : Int × Int) W => (s.2 = 0 ∨ s.2 = 1) ∧ W.heap = H) (fun s _ => (1 - s.2).toNat) ⟨.inl rfl, hw⟩ ?_
 rintro ⟨t, i⟩ W ⟨hi, hW⟩
 refine zq (fun hlt => ?_) (fun hge => ⟨_, rfl, hW⟩)
 have hlt : i < 1 := hlt
 have hi : i = 0 ∨ i = 1 := hi
 obtain rfl : i = 0 := by omega
 refine jd (fun (s : Int × Int) W => ∃ j : Nat, s.2 = (j : Int) ∧ j ≤ L.length ∧ W.heap = H) (fun s _ => (L.length - s.2).toNat) ⟨0, rfl, Nat.zero_le _, hW⟩ ?_
 rintro ⟨t2, _⟩ W2 ⟨j, rfl, hj, hW2⟩
 refine zoy 0 rfl (by omega) ?_
 refine jh (s := .slc) (t := (a, L.length, nc)) hW2 hb rfl ?_
 refine zq (fun hlt2 => ?_) (fun hge2 => ?_)
 ·have hjl : j < L.length := by simp only at hlt2; omega
  have hget := List.getElem?_eq_getElem hjl
  generalize L[j] = f at hget
  refine zoy 0 rfl (by omega) ?_
  refine jh (s := .slc) (t := (a, L.length, nc)) hW2 hb rfl ?_
  refine Bl.zdf (i := j) zb8 (by omega) hA rfl hget rfl fun ba oa ca Ta fra _ hba hsa hca _ => ?_
  simp only [jv]
  refine jh (s := .str) (t := strOf f.data) hW2 hba (hca 2 (by omega)) ?_
  refine ⟨_, rfl, _, rfl, ?_⟩
  refine xw ((j + 1 : Nat) : Int) (by simp) (by omega) (by omega) ?_
  exact ⟨⟨j + 1, rfl, by omega, hW2⟩, by omega⟩
 ·refine xw 1 (by simp) (by omega) (by omega) ?_
  exact ⟨⟨.inr rfl, hW2⟩, by simp⟩
theorem qb3 {pre q : Int} {r r' rl rl' : Bl.SM} {T : List (List UInt8) × List UInt8} {code code' : Int} {d d' : List UInt8} (h : zvp pre q r T code d r') (h' : zvp pre q rl T code' d' rl') (hv : ∀ k, Bl.zax r k = Bl.zax rl k) (ht : Bl.total r = Bl.total rl) : code = code' ∧ d = d' ∧ ∀ k, Bl.zax r' k = Bl.zax rl' k := by
 by_cases h0 : pre = 0
 ·obtain ⟨a1, a2⟩ := h.2 h0
  obtain ⟨b1, b2⟩ := h'.2 h0
  obtain ⟨rfl, hv'⟩ := Bl.z9j a1 b1 hv ht
  exact ⟨rfl, a2.trans b2.symm, hv'⟩
 ·obtain ⟨a1, a2, a3⟩ := h.1 h0
  obtain ⟨b1, b2, b3⟩ := h'.1 h0
  exact ⟨a1.trans b1.symm, a2.trans b2.symm, by rw [a3, b3]; exact hv⟩
theorem qgl {r : Bl.SM} {c : Nat} (h : MOk (fun L : List UInt8 => L.length = 32) r c) {k L : List UInt8} (hv : Bl.zax r k = some L) : L.length ≤ Bl.total r := by
 have h1 := Bl.z6b h (k := k) (c' := 0) (v := ((none, 0, 0), []))
 have h2 : Bl.qg1 r k = L.length := by unfold Bl.qg1; rw [hv]
 simp only [List.length_nil] at h1
 omega
theorem qnq : P.underlying zqp = some (.slice zo) := by kernel_rfl
theorem EFs : Elem P zo 1 24 := zmn (z := .slice none 0 0) (by kernel_rfl) rfl
set_option maxHeartbeats 8000000 in
theorem z8e {w : World} {H : Heap} {a : Option Addr} {n nc : Nat} {L : List Fil} {quota : Int} {D : List UInt8} (hw : w.heap = H) (hR : Bl.Rounds H) (hL : Cells H a (L.flatMap zbo)) (hn : n = L.length) (hm : L.length ≤ 9223372036854775807) (hq : quota ≤ 9223372036854775807)
  (hawake : qg P zoe #[] w fun e w' => e = .returned (.bool true) ∧ Ext [] H w'.heap) :
  qg P zit #[.slice a n nc, .int .i64 quota, .string (strOf D)] w fun e w' => e = .returned (.bool true) ∧ Ext [] H w'.heap := by
 refine zus ?_
 unfold zjd
 refine zk hawake ?_
 rintro e w1 ⟨rfl, hx1⟩
 refine ⟨true, rfl, jl rfl ?_⟩
 refine zac ?_
 refine zai (s := .slc) (some ⟨w1.heap.size, 0, none⟩, 1, 1) _ (zdy EFs qnq (v := .slice a n nc) rfl (by omega) (by omega)) ?_
 generalize hw2 : ({ w1 with heap := w1.heap.push (.cells (Value.slice a n nc).cells zo) } : World) = w2
 have hh2 : w2.heap = w1.heap.push (.cells (Value.slice a n nc).cells zo) := by rw [← hw2]
 have hx2 : Ext [] w1.heap w2.heap := by rw [hh2]; exact .push _
 have hb2 : w2.heap[w1.heap.size]? = some (.cells #[.slice a n nc] zo (0, 0)) := by rw [hh2]; exact zn
 have hx02 := hx1.trans hx2
 refine zk (qm1 rfl hb2 (hL.ext hx02 (by simp)) hn hm) ?_
 rintro e w3 ⟨t, rfl, hw3⟩
 refine ⟨t, rfl, ?_⟩
 have hx03 : Ext [] H w3.heap := by rw [hw3]; exact hx02
 cases t with
 | false => exact zaa rfl ⟨rfl, hx03⟩
 | true =>
 refine jl rfl ?_
 refine zq (fun _ => ⟨rfl, hx03⟩) (fun h150 => ?_)
 refine zq (fun _ => ⟨rfl, hx03⟩) (fun h100 => ?_)
 have hL150 : L.length ≤ 150 := by omega
 have hR3 := hR.ext hx03 (by simp)
 have hH0 : 0 < w3.heap.size := by obtain ⟨_, _, _, h, _⟩ := hR3; exact lt_of_get h
 refine zk (Bl.qf6 quota rfl) ?_
 rintro e w5 ⟨p, fp, rfl, hS5, hx5, hfp5⟩
 refine ⟨some ⟨p, 0, none⟩, rfl, ?_⟩
 refine zk (Bl.qli quota rfl) ?_
 rintro e w6 ⟨p2, rfl, hT6, hx6, hp2a, hp2b⟩
 refine ⟨some ⟨p2, 0, none⟩, rfl, ?_⟩
 have s5 := hx5.1
 have s6 := hx6.1
 refine qnd rfl fun w7 hx7 hm7 => ?_
 have hx07 := ((hx03.trans hx5).trans hx6).trans hx7
 have s7 := hx7.1
 have l7 := (za7 hm7 w6.heap.size (by simp [xu])).1
 refine ql8 (ys := L) rfl hm7 s7 (hL.ext hx07 (by simp)) hn (by simp; omega) fun x8 w8 hm8 hx8 => ?_
 simp only [List.nil_append] at hm8
 have hx8' : Ext [] w6.heap w8.heap := hx7.own hx8 (fun c hc hlt => by simp [xu] at hc; omega)
 have s8 := hx8'.1
 have hx08 := ((hx03.trans hx5).trans hx6).trans hx8'
 have s03 := hx03.1
 have g8 := jc hm8
 have hl8 : x8.2.1 = L.length := by have := hm8.len; rw [qd9] at this; omega
 generalize hQ : max quota 0 = Q at *
 have hQ0 : 0 ≤ Q := by omega
 have hQ1 : Q ≤ 9223372036854775807 := by omega
 have hS8 := (hS5.ext hx6 (by simp)).ext hx8' (by simp)
 have hT8 := hT6.ext hx8' (by simp)
 refine zk (z14 (L := L) rfl hS8 (fun b hb => by have := (hfp5 b hb).2; omega) (hR.ext hx08 (by simp)) (fun h => by have := (hfp5 0 h).1; omega) hm8.cells hl8 (by omega) (by simp [Bl.total]) hQ0 hQ1 (by intro k L h; simp [Bl.zax, zcf] at h)) ?_
 rintro e w9 ⟨c1, d1, r9, k9, fp9, rfl, hd1, hS9, hx9, hf9a, hf9b, hP9, ht9⟩
 refine ⟨(arr d1, c1), rfl, ?_⟩
 have s9 := hx9.1
 have fpge : ∀ b ∈ fp, w3.heap.size ≤ b ∧ b < w5.heap.size := hfp5
 have fp9ge : ∀ b ∈ fp9, (w3.heap.size ≤ b ∧ b < w5.heap.size) ∨ (w8.heap.size ≤ b ∧ b < w9.heap.size) := fun b hb => by
  rcases hf9b b hb with h | h
  ·exact .inl (fpge b h)
  ·exact .inr ⟨h, hf9a b hb⟩
 have hx09 : Ext [] H w9.heap := hx08.own hx9 (fun c hc hlt => by have := (fpge c hc).1; omega)
 refine qg0 hd1 rfl fun w11 hw11 => ?_
 have hx11 : Ext [] w9.heap w11.heap := by rw [hw11]; exact .push _
 have hb11 : w11.heap[w9.heap.size]? = some (.cells (byteCells d1).toArray zf (0, 0)) := by rw [hw11]; exact zn
 have s11 := lt_of_get hb11
 have hx011 := hx09.trans hx11
 have hT9 := hT8.ext hx9 (fun b hb h => by simp at hb; subst hb; have := (fpge _ h).2; omega)
 have hT11 := hT9.ext hx11 (by simp)
 refine zk (qhq (L := L) (nc := nc) rfl hT11 (fun b hb => by simp at hb; omega) (hL.ext hx011 (by simp)) hn (by omega) (by simp [Bl.total]) (by simp) hQ0 hQ1 (by simp)) ?_
 rintro e w12 ⟨c2, d2, r12, fp12, rfl, hd2, hT12, hx12, hf12a, hf12b, hP12, hn12, ht12, hl12⟩
 refine ⟨(arr d2, c2), rfl, ?_⟩
 obtain ⟨rfl, rfl, hview⟩ := qb3 hP9 hP12 (fun _ => rfl) rfl
 have s12 := hx12.1
 have fp12ge : ∀ b ∈ fp12, b = p2 ∨ (w11.heap.size ≤ b ∧ b < w12.heap.size) := fun b hb => by
  rcases hf12b b hb with h | h
  ·simp at h; exact .inl h
  ·exact .inr ⟨h, hf12a b hb⟩
 have hx012 : Ext [] H w12.heap := hx011.own hx12 (fun c hc hlt => by simp at hc; omega)
 refine qg0 hd2 rfl fun w14 hw14 => ?_
 have hx14 : Ext [] w12.heap w14.heap := by rw [hw14]; exact .push _
 have hb14 : w14.heap[w12.heap.size]? = some (.cells (byteCells d1).toArray zf (0, 0)) := by rw [hw14]; exact zn
 have s14 := lt_of_get hb14
 have hb14a : w14.heap[w9.heap.size]? = some (.cells (byteCells d1).toArray zf (0, 0)) := hx14.get (hx12.get hb11 (by simp; omega)) (by simp)
 have hx914 : Ext [p2] w9.heap w14.heap := ((hx11.mono (by simp)).trans hx12).trans (hx14.mono (by simp))
 have hS14 := hS9.ext hx914 (fun b hb h => by simp at h; subst h; rcases fp9ge _ hb with h | h <;> omega)
 have hT14 := hT12.ext hx14 (by simp)
 have hx014 := hx012.trans hx14
 refine zac ?_
 refine vg rfl fun w15 hw15 => ?_
 refine jf hw15 hb14a (by simp [hd1]) ?_
 refine jf hw15 hb14 (by simp [hd1]) ?_
 refine xg (s := .bool) _ (z3x Bl.u27 Bl.u5 Bl.c5 Bl.g27 hd1 hd1) ?_
 refine jl (by simp) ?_
 refine jl (by simp) ?_
 have hm8' : Cells w14.heap x8.1 (L.flatMap zbo) := ((hm8.ext hx9 (fun b hb h => by have := g8 b hb; have := (fpge b h).2; omega)).ext hx914 (fun b hb h => by simp at h; subst h; have := g8 _ hb; omega)).cells
 refine zk (qbe (L := L) hw15 hm8' hl8 (hL.ext hx014 (by simp)) hn (by omega)) ?_
 rintro e w16 ⟨rfl, hw16⟩
 refine ⟨true, rfl, jl rfl ?_⟩
 obtain ⟨htot, hlen⟩ := Bl.zsz hS14.ok.keys hT14.keys hview
 have store : ∀ {W : World} {r rr : Bl.SM} {c : Nat} {fq fq' : List Nat}, Bl.Store W.heap fq p Q r c → Bl.zd9 W.heap fq' p2 Q rr → r.length = rr.length → ∃ z, W.heap[p2]? = some (.cells #[.int .i64 Q, zc9 z] ze3 (0, 0)) ∧ z.2.1 = rr.length := by
  intro W r rr c fq fq' _ hT _
  obtain ⟨z, z1, z2, _⟩ := hT
  exact ⟨z, z1, Bl.zjw z2⟩
 obtain ⟨z, z1, z2⟩ := store (W := w14) hS14 hT14 hlen
 simp only [xq, jv]
 refine jh (s := .slc) (t := z) hw16 z1 rfl ?_
 refine zk (Bl.qfs hw16 hS14) ?_
 rintro e w17 ⟨rfl, rfl⟩
 refine ⟨(r9.length : Int), rfl, ⟨jh (s := .slc) (o := 1) (t := z) (K := fun v => Value.slice v.1 v.2.1 v.2.2 = Value.slice z.1 z.2.1 z.2.2) hw16 z1 rfl rfl, ?_⟩⟩
 refine jl (by simp only [bne_eq_false_iff_eq]; omega) ?_
 refine zk (Bl.z18 hw16 hS14) ?_
 rintro e w18 ⟨rfl, rfl⟩
 refine ⟨(Bl.total r9 : Int), rfl, ?_⟩
 have tz : Bl.total ([] : Bl.SM) = 0 := rfl
 rw [tz] at ht9 ht12
 refine zk (Bl.z3j hw16 hT14 (by simp at hn12; omega) (by omega)) ?_
 rintro e w19 ⟨rfl, rfl⟩
 refine ⟨(Bl.total r12 : Int), rfl, ?_⟩
 refine jl (by simp only [bne_eq_false_iff_eq]; omega) ?_
 refine zk (qik (D := D) hw16 hS14 (fun b hb => by rcases fp9ge b hb with h | h <;> omega) (hR.ext hx014 (by simp)) (fun h => by rcases fp9ge 0 h with h | h <;> omega) (by omega) hQ0 hQ1 (fun k v hv => by have := qgl hS14.ok hv; omega)) ?_
 rintro e w21 ⟨c3, d3, r21, k21, fp21, rfl, hd3, hS21, hx21, hf21a, hf21b, hP21, ht21⟩
 refine ⟨(arr d3, c3), rfl, ?_⟩
 have s21 := hx21.1
 have n9 : ∀ {b : Nat}, w9.heap.size ≤ b → b ∉ fp9 := fun h hb => by rcases fp9ge _ hb with h | h <;> omega
 have hb21 := hx21.get hb14a (n9 (Nat.le_refl _))
 refine z4k hd3 rfl hb21 (by simp [hd1]) fun w22 hw22 => ?_
 have hx22 : Ext [w9.heap.size] w21.heap w22.heap := by rw [hw22]; exact Ext.set _ (by simp)
 have hb22 : w22.heap[w9.heap.size]? = some (.cells (byteCells d3).toArray zf (0, 0)) := by rw [hw22]; exact qm hb21
 have s22 := hx22.1
 have hT21 := hT14.ext hx21 (fun b hb h => by rcases fp12ge b hb with h1 | h1 <;> rcases fp9ge b h with h2 | h2 <;> omega)
 have hT22 := hT21.ext hx22 (fun b hb h => by simp at h; subst h; rcases fp12ge _ hb with h1 | h1 <;> omega)
 have fp12lt : ∀ b ∈ fp12, b < w14.heap.size := fun b hb => by rcases fp12ge b hb with h1 | h1 <;> omega
 refine zk (qhm (D := D) rfl hT22 (fun b hb => by have := fp12lt b hb; omega) (by omega) (by simp at hn12; omega) hQ0 hQ1 hl12) ?_
 rintro e w23 ⟨c4, d4, r23, fp23, rfl, hd4, hT23, hx23, hf23a, hf23b, hP23, hn23, ht23, hl23⟩
 refine ⟨(arr d4, c4), rfl, ?_⟩
 obtain ⟨rfl, rfl, hview2⟩ := qb3 hP21 hP23 hview htot
 have s23 := hx23.1
 have hb23 := hx23.get (hx22.get (hx21.get hb14 (n9 (by omega))) (by simp; omega)) (fun h => by rcases fp12ge _ h with h1 | h1 <;> omega)
 refine z4k hd3 rfl hb23 (by simp [hd1]) fun w24 hw24 => ?_
 have hx24 : Ext [w12.heap.size] w23.heap w24.heap := by rw [hw24]; exact Ext.set _ (by simp)
 have hb24 : w24.heap[w12.heap.size]? = some (.cells (byteCells d3).toArray zf (0, 0)) := by rw [hw24]; exact qm hb23
 have s24 := hx24.1
 have hb24a := hx24.get (hx23.get hb22 (fun h => by rcases fp12ge _ h with h1 | h1 <;> omega)) (by simp; omega)
 refine zk (qen rfl) ?_
 rintro e w25 ⟨rfl, hx25⟩
 refine ⟨(arr Bl.nought, 7), rfl, ?_⟩
 refine qg0 Bl.zda rfl fun w27 hw27 => ?_
 have hx27 : Ext [] w25.heap w27.heap := by rw [hw27]; exact .push _
 refine zk (qfq (D := D) rfl) ?_
 rintro e w28 ⟨rfl, hx28⟩
 refine ⟨(arr Bl.nought, 7), rfl, ?_⟩
 refine qg0 Bl.zda rfl fun w30 hw30 => ?_
 have hx30 : Ext [] w28.heap w30.heap := by rw [hw30]; exact .push _
 have hx2430 := ((hx25.trans hx27).trans hx28).trans hx30
 refine vg rfl fun w31 hw31 => ?_
 refine jf hw31 (hx2430.get hb24a (by simp)) (by simp [hd3]) ?_
 refine jf hw31 (hx2430.get hb24 (by simp)) (by simp [hd3]) ?_
 refine xg (s := .bool) _ (z9x Bl.u27 Bl.u5 Bl.c5 Bl.g27 hd3 hd3) ?_
 refine zaa (by simp) ?_
 refine zaa (by simp) ?_
 have hS22 := hS21.ext hx22 (fun b hb h => by
  simp at h; subst h
  rcases hf21b _ hb with h | h
  ·exact n9 (Nat.le_refl _) h
  ·omega)
 have hS23 := hS22.ext hx23 (fun b hb h => by
  rcases hf21b _ hb with h1 | h1
  ·rcases fp12ge _ h with h2 | h2 <;> rcases fp9ge _ h1 with h3 | h3 <;> omega
  ·have := fp12lt _ h; omega)
 have hS24 := hS23.ext hx24 (fun b hb h => by
  simp at h; subst h
  rcases hf21b _ hb with h | h
  ·exact n9 (by omega) h
  ·omega)
 have hS30 := hS24.ext hx2430 (by simp)
 have hT24 := hT23.ext hx24 (fun b hb h => by
  simp at h; subst h
  rcases hf23b _ hb with h | h
  ·rcases fp12ge _ h with h1 | h1 <;> omega
  ·omega)
 have hT30 := hT24.ext hx2430 (by simp)
 obtain ⟨htot2, hlen2⟩ := Bl.zsz hS30.ok.keys hT30.keys hview2
 obtain ⟨y, y1, y2⟩ := store (W := w30) hS30 hT30 hlen2
 simp only [xq, jv]
 refine jh (s := .slc) (t := y) hw31 y1 rfl ?_
 refine zk (Bl.qfs hw31 hS30) ?_
 rintro e w32 ⟨rfl, rfl⟩
 refine ⟨(r21.length : Int), rfl, ⟨jh (s := .slc) (o := 1) (t := y) (K := fun v => Value.slice v.1 v.2.1 v.2.2 = Value.slice y.1 y.2.1 y.2.2) hw31 y1 rfl rfl, ?_⟩⟩
 refine zaa (by simp only [beq_iff_eq]; omega) ?_
 refine zk (Bl.z18 hw31 hS30) ?_
 rintro e w33 ⟨rfl, rfl⟩
 refine ⟨(Bl.total r21 : Int), rfl, ?_⟩
 refine zk (Bl.z3j hw31 hT30 (by simp at hn12; omega) (by omega)) ?_
 rintro e w34 ⟨rfl, rfl⟩
 refine ⟨(Bl.total r23 : Int), rfl, ?_⟩
 refine zaa (by simp only [beq_iff_eq]; omega) ?_
 refine zaa rfl ?_
 have hx021 : Ext [] H w21.heap := hx014.own hx21 (fun c hc hlt => by rcases fp9ge c hc with h | h <;> omega)
 have hx022 : Ext [] H w22.heap := hx021.own hx22 (fun c hc hlt => by simp at hc; omega)
 have hx023 : Ext [] H w23.heap := hx022.own hx23 (fun c hc hlt => by rcases fp12ge c hc with h | h <;> omega)
 have hx024 : Ext [] H w24.heap := hx023.own hx24 (fun c hc hlt => by simp at hc; omega)
 exact ⟨rfl, by rw [hw31]; exact hx024.trans hx2430⟩
def dgS (s : Rest) : List UInt8 × Rest := match s with | none => (Bl.nought, none) | some R => if 32 ≤ R.length then (R.take 32, some (R.drop 32)) else (Bl.nought, none)
theorem zvm {s : Rest} : (dgS s).1.length = 32 := by
 unfold dgS
 cases s with
 | none => exact Bl.zda
 | some R =>
  simp only
  split
  ·simp; omega
  ·exact Bl.zda
theorem slA {b : Nat} {w : World} : (Instr.sliceAt zf (Value.pointer (some (⟨b, 0, none⟩ : Addr))) none none none).run P w = .ok (.slice (some ⟨b, 0, none⟩) 32 32) w := by
 rw [zdp (l := 0) (h := 32) Bl.u27 sz8 .no .no (by omega) (by omega)]
 simp [Addr.add]
theorem qmm {w : World} {H : Heap} {b : Nat} {c : Array Value} {T : TypeId} {y : Option Addr × Nat × Nat} {k : List UInt8} (hk : k.length ≤ 32) (hw : w.heap = H) (hb : H[b]? = some (.cells c T (0, 0))) (hs : c.size = 32) (hy : Cells H y.1 (byteCells k)) (hl : y.2.1 = k.length) {K : Int → World → Prop}
  (hK : ∀ n w', w'.heap = H.setIfInBounds b (.cells (setCells c 0 (byteCells k)) T (0, 0)) → K n w') :
  zan P (Builtin.copy_ #[zh, zh] zdx #[(Value.slice (some ⟨b, 0, none⟩) 32 32), (Value.slice y.1 y.2.1 y.2.2)]) (.int .i64) w K := by
 obtain ⟨w4, hrun, hcm4, hw4⟩ := qe7 (P := P) (w := w) (st := zh) (xt := zh) (ty := zdx) (od := 0) (dl := 32) (dc := 32) (sa := y.1) (sl := y.2.1) (sc := y.2.2) (vs := byteCells k) uS8 sz8 hw hy (by rw [hl]; simp; omega) ku hb (by rw [hs]; simpa using hk)
 exact zai _ w4 hrun (hK _ w4 hw4) hcm4
theorem qn6 : zc P zf = (byteCells Bl.nought).toArray := by kernel_rfl
theorem qit {w : World} {H : Heap} {b : Nat} {F : List Nat} {s : Rest} (hw : w.heap = H) (hI : InW H b F s) (hF : ∀ c ∈ F, c < H.size) :
  qg P zf0 #[.pointer (some ⟨b, 0, none⟩)] w fun e w' => e = .returned (arr (dgS s).1) ∧ InW w'.heap b F (dgS s).2 ∧ Ext [b] H w'.heap := by
 have hbl := hI.lt
 refine zuv ?_
 unfold zja
 refine jw hw fun w1 hw1 => ?_
 have hx1 : Ext [] H w1.heap := by rw [hw1]; exact .push _
 have hb1 : w1.heap[H.size]? = some (.cells (zc P zf) zf (0, 0)) := by rw [hw1]; exact zn
 refine jw rfl fun w2 hw2 => ?_
 have hx2 : Ext [] w1.heap w2.heap := by rw [hw2]; exact .push _
 have hb2 : w2.heap[w1.heap.size]? = some (.cells (zc P zf) zf (0, 0)) := by rw [hw2]; exact zn
 refine vg rfl fun w3 hw3 => ?_
 have hx3 : Ext [] H w3.heap := by rw [hw3]; exact hx1.trans hx2
 have hb3 : w3.heap[w1.heap.size]? = some (.cells (zc P zf) zf (0, 0)) := by rw [hw3]; exact hb2
 have hd3 : w3.heap[H.size]? = some (.cells (zc P zf) zf (0, 0)) := by rw [hw3]; exact hx2.get hb1 (by simp)
 have s1 := lt_of_get hb1
 have s3 := lt_of_get hb3
 have hI3 := hI.ext hx3 (by simp) (by simp)
 refine xg (s := .slc) (some ⟨w1.heap.size, 0, none⟩, 32, 32) slA ?_
 have htake : qg P zfv #[.pointer (some ⟨b, 0, none⟩), .int .i64 32] w3 fun e w' => Ext [b] w3.heap w'.heap ∧ InW w'.heap b F (dgS s).2 ∧ ∃ y k, e = .returned (zc9 y) ∧ Cells w'.heap y.1 (byteCells k) ∧ y.2.1 = k.length ∧ k.length ≤ 32 ∧ (∀ c ∈ xu y, c ∈ F) ∧ setCells (zc P zf) 0 (byteCells k) = (byteCells (dgS s).1).toArray := by
  have hnil : setCells (zc P zf) 0 (byteCells []) = (byteCells Bl.nought).toArray := by rw [qn6]; rfl
  cases s with
  | none =>
   obtain ⟨x, e, h1, h2, h3, h4⟩ := id hI3
   refine zpy ?_
   unfold zh8
   refine zac ?_
   refine jl rfl ?_
   simp only [xq, jv]
   refine jh (s := .int .i64) (t := e) rfl h1 rfl ?_
   refine zaa (by simpa using h4) ?_
   exact ⟨.refl _ _, hI3, (none, 0, 0), [], rfl, .inl rfl, rfl, by simp, by simp [xu], hnil⟩
  | some R =>
   refine (qfy (n := 32) rfl hI3 (by omega)).mono ?_
   rintro e w' ⟨hx, ⟨hl, rfl, h3⟩ | ⟨hl, y, rfl, hC, hy, ho, h3⟩⟩
   ·have e1 : dgS (some R) = (Bl.nought, none) := by unfold dgS; simp only; rw [if_neg (by omega)]
    rw [e1]
    exact ⟨hx, h3, (none, 0, 0), [], rfl, .inl rfl, rfl, by simp, by simp [xu], hnil⟩
   ·have e1 : dgS (some R) = (R.take 32, some (R.drop 32)) := by unfold dgS; simp only; rw [if_pos hl]
    rw [e1]
    have hl32 : (R.take 32).length = 32 := by simp; omega
    exact ⟨hx, h3, y, R.take 32, rfl, hC, by rw [hl32, hy], by omega, ho, zam (by rw [zcD]; simp [hl32])⟩
 refine zk htake ?_
 rintro e w4 ⟨hx4, hI4, y, k, rfl, hC, hyl, hk, ho, hset⟩
 refine ⟨y, rfl, ⟨xg (s := .slc) (some ⟨w1.heap.size, 0, none⟩, 32, 32) slA rfl, ?_⟩⟩
 have hb4 := hx4.get hb3 (by simp; omega)
 have hd4 := hx4.get hd3 (by simp; omega)
 refine qmm hk rfl hb4 zcD hC hyl fun n w5 hw5 => ?_
 rw [hset] at hw5
 have hx5 : Ext [w1.heap.size] w4.heap w5.heap := by rw [hw5]; exact Ext.set _ (by simp)
 have hb5 : w5.heap[w1.heap.size]? = some (.cells (byteCells (dgS s).1).toArray zf (0, 0)) := by rw [hw5]; exact qm hb4
 refine jf rfl hb5 (by simp [zvm]) ?_
 have hd5 := hx5.get hd4 (by simp; omega)
 refine z4k (k := (dgS s).1) zvm rfl hd5 zcD fun w6 hw6 => ?_
 have hx6 : Ext [H.size] w5.heap w6.heap := by rw [hw6]; exact Ext.set _ (by simp)
 have hd6 : w6.heap[H.size]? = some (.cells (byteCells (dgS s).1).toArray zf (0, 0)) := by rw [hw6]; exact qm hd5
 refine jf rfl hd6 (by simp [zvm]) ?_
 refine ⟨rfl, ?_, ?_⟩
 ·refine (hI4.ext hx5 (by simp; omega) fun c hc h => ?_).ext hx6 (by simp; omega) fun c hc h => ?_
  ·simp at h; subst h; have := hF _ hc; omega
  ·simp at h; subst h; have := hF _ hc; omega
 ·have h03 : Ext [b] H w3.heap := hx3.mono (by simp)
  exact ((h03.trans hx4).own hx5 (fun c hc hlt => by simp at hc; omega)).own hx6 (fun c hc hlt => by simp at hc; omega)
theorem bNk (n : Int) (w : World) : (Instr.build zi #[(0, .int .i64 n)]).run P w = .ok (.agg #[.int .i64 n, .string .empty, .int .i64 0, .slice none 0 0, .slice none 0 0]) w := by kernel_rfl
theorem qnr (s : ByteArray) (n : Int) (a0 a1 a2 a3 a4 a5 a6 a7 a8 a9 a10 a11 a12 a13 a14 a15 a16 a17 a18 a19 a20 a21 a22 a23 a24 a25 a26 a27 a28 a29 a30 a31 : UInt8) (w : World) : (Instr.build qj #[(0, .string s), (1, .int .i64 n), (2, arr [a0, a1, a2, a3, a4, a5, a6, a7, a8, a9, a10, a11, a12, a13, a14, a15, a16, a17, a18, a19, a20, a21, a22, a23, a24, a25, a26, a27, a28, a29, a30, a31])]).run P w = .ok (.agg ([Value.string s, Value.int .i64 n] ++ byteCells [a0, a1, a2, a3, a4, a5, a6, a7, a8, a9, a10, a11, a12, a13, a14, a15, a16, a17, a18, a19, a20, a21, a22, a23, a24, a25, a26, a27, a28, a29, a30, a31]).toArray) w := by kernel_rfl
theorem bT3 (s : ByteArray) (n : Int) {k : List UInt8} (hk : k.length = 32) (w : World) : (Instr.build qj #[(0, .string s), (1, .int .i64 n), (2, arr k)]).run P w = .ok (.agg ([Value.string s, Value.int .i64 n] ++ byteCells k).toArray) w := by
 match k, hk with
 | [a0, a1, a2, a3, a4, a5, a6, a7, a8, a9, a10, a11, a12, a13, a14, a15, a16, a17, a18, a19, a20, a21, a22, a23, a24, a25, a26, a27, a28, a29, a30, a31], _ => exact qnr s n a0 a1 a2 a3 a4 a5 a6 a7 a8 a9 a10 a11 a12 a13 a14 a15 a16 a17 a18 a19 a20 a21 a22 a23 a24 a25 a26 a27 a28 a29 a30 a31 w
theorem qkp (m : Nat) (n : Nat) (w : World) : (Builtin.min_ #[zdd, zdd] zdd #[.int .u64 (n : Int), .int .u64 (m : Int)]).run P w = .ok (.int .u64 ((min n m : Nat) : Int)) w := by
 rw [run_min_int2]
 congr 2
 split <;> omega
def zgg : Nat → Rest → List (List UInt8) × Rest
 | 0, s => ([], s)
 | k + 1, s => ((zgg k s).1 ++ [(dgS (zgg k s).2).1], (dgS (zgg k s).2).2)
def qgq (s : Rest) : Itm × Rest := (⟨(txS 16 s).1, ((min (nmS (txS 16 s).2).1 9 : Nat) : Int), (dgS (nmS (txS 16 s).2).2).1⟩, (dgS (nmS (txS 16 s).2).2).2)
def zek : Nat → Rest → List Itm × Rest
 | 0, s => ([], s)
 | k + 1, s => ((zek k s).1 ++ [(qgq (zek k s).2).1], (qgq (zek k s).2).2)
def zci (s : Rest) : Nod × Rest :=
 if min (nmS s).1 9 = 1 then (⟨1, (txS 64 (nmS s).2).1, 0, [], []⟩, (txS 64 (nmS s).2).2)
 else if min (nmS s).1 9 = 2 then (⟨2, [], ((min (nmS (nmS s).2).1 1025 : Nat) : Int), (zgg ((min (nmS (nmS s).2).1 1025 + 63) / 64) (nmS (nmS s).2).2).1, []⟩, (zgg ((min (nmS (nmS s).2).1 1025 + 63) / 64) (nmS (nmS s).2).2).2)
 else if min (nmS s).1 9 = 3 then (⟨3, [], 0, [], (zek (min (nmS (nmS s).2).1 65) (nmS (nmS s).2).2).1⟩, (zek (min (nmS (nmS s).2).1 65) (nmS (nmS s).2).2).2)
 else (⟨((min (nmS s).1 9 : Nat) : Int), [], 0, [], []⟩, (nmS s).2)
theorem zq4 {s : Rest} : ∀ {k : Nat}, (zgg k s).1.length = k
 | 0 => rfl
 | k + 1 => by rw [zgg, List.length_append, zq4]; rfl
theorem z07 {s : Rest} : ∀ {k : Nat}, ∀ p ∈ (zgg k s).1, p.length = 32
 | 0, p, h => by cases h
 | k + 1, p, h => by
  simp only [zgg, List.mem_append, List.mem_singleton] at h
  rcases h with h | rfl
  ·exact z07 p h
  ·exact zvm
theorem zuf {s : Rest} : ∀ {k : Nat}, (zek k s).1.length = k
 | 0 => rfl
 | k + 1 => by rw [zek, List.length_append, zuf]; rfl
theorem z5z {s : Rest} : ∀ {k : Nat}, ∀ p ∈ (zek k s).1, p.sum.length = 32
 | 0, p, h => by cases h
 | k + 1, p, h => by
  simp only [zek, List.mem_append, List.mem_singleton] at h
  rcases h with h | rfl
  ·exact z5z p h
  ·exact zvm
theorem z4u {s : Rest} : (∀ p ∈ (zci s).1.parts, p.length = 32) ∧ ∀ i ∈ (zci s).1.items, i.sum.length = 32 := by
 unfold zci
 split
 ·simp
 ·split
  ·exact ⟨z07, by simp⟩
  ·split
   ·exact ⟨by simp, z5z⟩
   ·simp
structure NodM (H : Heap) (B : Nat) (n : Nod) (xp xi : Option Addr × Nat × Nat) : Prop where
 parts : Mine H B zf 32 xp (n.parts.flatMap Bl.zf3)
 items : Mine H B qj 34 xi (n.items.flatMap zfk)
 p32 : ∀ p ∈ n.parts, p.length = 32
 i32 : ∀ i ∈ n.items, i.sum.length = 32
theorem NodM.nodW {H : Heap} {B : Nat} {n : Nod} {xp xi : Option Addr × Nat × Nat} (h : NodM H B n xp xi) : NodW H n xp xi := by
 have l1 := h.parts.len
 have l2 := h.items.len
 rw [qc Bl.zf3 Bl.zd8] at l1
 rw [qc zfk zay] at l2
 exact ⟨h.parts.cells, by omega, h.items.cells, by omega, h.p32, h.i32⟩
theorem NodM.ext {H H' : Heap} {B : Nat} {n : Nod} {xp xi : Option Addr × Nat × Nat} {M : List Nat} (h : NodM H B n xp xi) (hx : Ext M H H') (hM : ∀ m ∈ M, m < B) : NodM H' B n xp xi :=
 ⟨h.parts.ext hx (fun c hc hm => by have := jc h.parts c hc; have := hM c hm; omega), h.items.ext hx (fun c hc hm => by have := jc h.items c hc; have := hM c hm; omega), h.p32, h.i32⟩
theorem NodM.mono {H : Heap} {B B' : Nat} {n : Nod} {xp xi : Option Addr × Nat × Nat} (h : NodM H B n xp xi) (hB : B' ≤ B) : NodM H B' n xp xi :=
 ⟨h.parts.mono hB, h.items.mono hB, h.p32, h.i32⟩
theorem NodM.bare {H : Heap} {B : Nat} {n : Nod} (hp : n.parts = []) (hi : n.items = []) : NodM H B n (none, 0, 0) (none, 0, 0) :=
 ⟨by rw [hp]; exact .inl ⟨rfl, rfl⟩, by rw [hi]; exact .inl ⟨rfl, rfl⟩, by rw [hp]; simp, by rw [hi]; simp⟩
theorem qf7 {w : World} {H : Heap} {B : Nat} {x : Option Addr × Nat × Nat} {T : List Itm} {i : Itm} {Q : World → Prop} (hw : w.heap = H) (hm : Mine H B qj 34 x (T.flatMap zfk)) (hBs : B ≤ H.size) (hlen : T.length ≤ 1073741824) (hQ : ∀ w', Ext [] H w'.heap → Q w') {K : (Option Addr × Nat × Nat) → World → Prop}
  (hK : ∀ x' w', Mine w'.heap B qj 34 x' ((T ++ [i]).flatMap zfk) → Ext (xu x) H w'.heap → (∀ c ∈ xu x', c ∈ xu x ∨ H.size ≤ c) → K x' w') :
  zan P (Instr.buildSlice zah 1 #[(0, .agg (zfk i).toArray)]) .slc w fun (t27 : (Option Addr × Nat × Nat)) w_13 => Q w_13 ∧
  zan P (Builtin.append_ #[zah, zah] zah #[(Value.slice x.1 x.2.1 x.2.2), (Value.slice t27.1 t27.2.1 t27.2.2)]) .slc w_13 K := by
 have hlx : x.2.1 = T.length := by
  have := hm.len
  rw [qc zfk zay] at this
  omega
 refine zai (s := .slc) (some ⟨w.heap.size, 0, none⟩, 1, 1) _ (zdy ET uST (v := .agg (zfk i).toArray) (by simp [Value.cells, zay]) (by omega) (by omega)) ?_
 subst hw
 have hxp : Ext [] w.heap (w.heap.push (.cells (Value.agg (zfk i).toArray).cells qj)) := .push _
 refine ⟨hQ _ hxp, ?_⟩
 refine zcr (bts := 56) (n := 1) (us := zfk i) (H := w.heap.push (.cells (Value.agg (zfk i).toArray).cells qj)) ET (by omega) uST (za6 uST) rfl (hm.ext hxp (by simp)) (by simp; omega)
  (Src.slc rfl (.inr ⟨w.heap.size, 0, _, _, _, rfl, zn, by simp [zin], by simp [zin, List.take_of_length_le]⟩) (by rw [zay])) z3m (by omega) ?_
 intro x' w4 hm4 hl4 hx4 hs4
 refine hK x' w4 (by rw [List.flatMap_append, List.flatMap_singleton]; exact hm4) ((hxp.mono (by simp)).trans hx4) (fun c hc => ?_)
 rcases hs4 c hc with h | h
 ·exact .inl h
 ·right; have := hxp.1; omega
set_option maxHeartbeats 8000000 in
theorem qjq {w : World} {H : Heap} {b : Nat} {F : List Nat} {s : Rest} (hw : w.heap = H) (hI : InW H b F s) (hF : ∀ c ∈ F, c < H.size) :
  qg P zq6 #[.pointer (some ⟨b, 0, none⟩)] w fun e w' => ∃ xp xi, e = .returned (.agg (zdv (zci s).1 xp xi).toArray) ∧ NodM w'.heap H.size (zci s).1 xp xi ∧ InW w'.heap b F (zci s).2 ∧ Ext [b] H w'.heap := by
 have hbl := hI.lt
 refine z4l ?_
 unfold zq7
 refine jw hw fun w1 hw1 => ?_
 have hx1 : Ext [] H w1.heap := by rw [hw1]; exact .push _
 have hd1 : w1.heap[H.size]? = some (.cells (zc P zi) zi (0, 0)) := by rw [hw1]; exact zn
 have s1 := lt_of_get hd1
 refine zk (z6z rfl (hI.ext hx1 (by simp) (by simp))) ?_
 rintro e w2 ⟨rfl, hI2, hx2⟩
 refine ⟨((nmS s).1 : Int), rfl, ?_⟩
 have s2 := hx2.1
 refine xg (s := .int .u64) ((min (nmS s).1 9 : Nat) : Int) (qkp 9 _ _) ?_
 refine z2l (by omega) (by omega) ?_
 refine xg (s := .any) _ (bNk _ _) ?_
 refine qg2 ⟨((min (nmS s).1 9 : Nat) : Int), [], 0, [], []⟩ (none, 0, 0) (none, 0, 0) rfl fun w4 hw4 => ?_
 have hx4 : Ext [] w2.heap w4.heap := by rw [hw4]; exact .push _
 have hn4 : w4.heap[w2.heap.size]? = some (.cells (zdv ⟨((min (nmS s).1 9 : Nat) : Int), [], 0, [], []⟩ (none, 0, 0) (none, 0, 0)).toArray zi (0, 0)) := by rw [hw4]; exact zn
 have s4 := lt_of_get hn4
 have hd4 := hx4.get (hx2.get hd1 (by simp; omega)) (by simp)
 have hI4 := hI2.ext hx4 (by simp) (by simp)
 have hx04 : Ext [b] H w4.heap := ((hx1.mono (by simp)).trans hx2).trans (hx4.mono (by simp))
 refine Go.Fw.joinP_of (fun _ W => ∃ xp xi, W.heap[w2.heap.size]? = some (.cells (zdv (zci s).1 xp xi).toArray zi (0, 0)) ∧ (Mine W.heap w4.heap.size zf 32 xp ((zci s).1.parts.flatMap Bl.zf3) ∧ Mine W.heap w4.heap.size qj 34 xi ((zci s).1.items.flatMap zfk)) ∧ InW W.heap b F (zci s).2 ∧ Ext [b] H W.heap ∧ W.heap[H.size]? = some (.cells (zc P zi) zi (0, 0))) ?_ ?_
 rotate_left
 ·rintro _ W ⟨xp, xi, h1, h2, h3, h4, hd⟩
  refine jf rfl h1 rfl ?_
  refine zbf (v := .agg (zdv (zci s).1 xp xi).toArray) (by rw [szN]; rfl) (by simp [Value.cells, zdv]) (by
   intro v hv
   simp only [Value.cells, zdv, List.mem_cons, List.not_mem_nil, or_false] at hv
   rcases hv with rfl | rfl | rfl | rfl | rfl <;> rfl) rfl hd (by rw [zcN]; simp [Value.cells, zdv]) fun w5 hw5 => ?_
  rw [zam (by rw [zcN]; simp [Value.cells, zdv])] at hw5
  have hx5 : Ext [H.size] W.heap w5.heap := by rw [hw5]; exact Ext.set _ (by simp)
  have hd5 : w5.heap[H.size]? = some (.cells (zdv (zci s).1 xp xi).toArray zi (0, 0)) := by rw [hw5]; exact qm hd
  refine jf rfl hd5 rfl ?_
  have hnod : NodM w5.heap H.size (zci s).1 xp xi := by
   obtain ⟨m1, m2⟩ := h2
   exact (NodM.ext ⟨m1, m2, z4u.1, z4u.2⟩ hx5 (fun c hc => by simp at hc; omega)).mono (by omega)
  refine ⟨xp, xi, rfl, hnod, h3.ext hx5 (by simp; omega) (fun c hc h => by simp at h; subst h; have := hF _ hc; omega), h4.own hx5 (fun c hc hlt => by simp at hc; omega)⟩
 refine jh (s := .int .i64) (t := ((min (nmS s).1 9 : Nat) : Int)) rfl hn4 rfl ?_
 refine zac ?_
 have nil2 : ∀ {W : World}, Mine W.heap w4.heap.size zf 32 (none, 0, 0) (([] : List (List UInt8)).flatMap Bl.zf3) ∧ Mine W.heap w4.heap.size qj 34 (none, 0, 0) (([] : List Itm).flatMap zfk) := ⟨.inl ⟨rfl, rfl⟩, .inl ⟨rfl, rfl⟩⟩
 have bn : w2.heap.size ≠ b := by have := hx2.1; have := hx1.1; omega
 have fn : ∀ c ∈ F, w2.heap.size ≠ c := fun c hc => by have := hF c hc; have := hx2.1; have := hx1.1; omega
 refine zbv (fun h1 => ?_) (fun h1 => ?_)
 ·have h1 : min (nmS s).1 9 = 1 := by omega
  have hr : zci s = (⟨1, (txS 64 (nmS s).2).1, 0, [], []⟩, (txS 64 (nmS s).2).2) := by unfold zci; rw [if_pos h1]
  rw [h1] at hn4
  refine zk (qez (most := 64) rfl hI4 (by omega)) ?_
  rintro e w5 ⟨rfl, hI5, hx5⟩
  refine ⟨strOf (txS 64 (nmS s).2).1, rfl, ?_⟩
  have hn5 := hx5.get hn4 (by simp; exact bn)
  refine zcd rfl hn5 (by simp [zdv]) fun w6 hw6 => ?_
  have hx6 : Ext [w2.heap.size] w5.heap w6.heap := by rw [hw6]; exact Ext.set _ (by simp)
  rw [hr]
  refine ⟨(none, 0, 0), (none, 0, 0), by rw [hw6]; exact qm hn5, nil2, hI5.ext hx6 (by simp; exact bn.symm) (fun c hc h => by simp at h; exact fn c hc h.symm), (hx04.trans hx5).own hx6 (fun c hc hlt => by simp at hc; omega), hx6.get (hx5.get hd4 (by simp; omega)) (by simp; omega)⟩
 refine zbv (fun h2 => ?_) (fun h2 => ?_)
 ·have h1 : min (nmS s).1 9 ≠ 1 := by omega
  have h2 : min (nmS s).1 9 = 2 := by omega
  generalize hs2 : nmS (nmS s).2 = a2 at *
  have hr : zci s = (⟨2, [], ((min a2.1 1025 : Nat) : Int), (zgg ((min a2.1 1025 + 63) / 64) a2.2).1, []⟩, (zgg ((min a2.1 1025 + 63) / 64) a2.2).2) := by unfold zci; rw [if_neg h1, if_pos h2, hs2]
  rw [h2] at hn4
  refine zk (z6z rfl hI4) ?_
  rintro e w5 ⟨rfl, hI5, hx5⟩
  refine ⟨((nmS (nmS s).2).1 : Int), rfl, ?_⟩
  rw [hs2] at hI5 ⊢
  refine xg (s := .int .u64) ((min a2.1 1025 : Nat) : Int) (qkp 1025 _ _) ?_
  generalize hK : min a2.1 1025 = K at *
  have hK2 : K ≤ 1025 := by omega
  refine z2l (by omega) (by omega) ?_
  have hn5 := hx5.get hn4 (by simp; exact bn)
  refine zcd rfl hn5 (by simp [zdv]) fun w6 hw6 => ?_
  have hx6 : Ext [w2.heap.size] w5.heap w6.heap := by rw [hw6]; exact Ext.set _ (by simp)
  have hn6 : w6.heap[w2.heap.size]? = some (.cells (zdv ⟨2, [], (K : Int), [], []⟩ (none, 0, 0) (none, 0, 0)).toArray zi (0, 0)) := by rw [hw6]; exact qm hn5
  refine jh (s := .int .i64) (t := (K : Int)) rfl hn6 rfl ?_
  have hparts : qg P zij #[.int .i64 (K : Int)] w6 fun e w' => e = .returned (.int .i64 (((K + 63) / 64 : Nat) : Int)) ∧ w' = w6 := by
   refine ztz ?_
   unfold zlg
   refine xw ((K : Int) + 64) rfl (by omega) (by omega) ?_
   refine zbs ((K : Int) + 63) (by omega) (by omega) (by omega) ?_
   refine qa3 (K + 63) 64 (by omega) rfl (by omega) (by omega) ?_
   exact ⟨rfl, rfl⟩
  refine zk hparts ?_
  rintro e w7 ⟨rfl, rfl⟩
  refine ⟨(((K + 63) / 64 : Nat) : Int), rfl, ?_⟩
  have hI6 := hI5.ext hx6 (by simp; exact bn.symm) (fun c hc h => by simp at h; exact fn c hc h.symm)
  have hx06 := (hx04.trans hx5).own hx6 (fun c hc hlt => by simp at hc; omega)
  have hd6 := hx6.get (hx5.get hd4 (by simp; omega)) (by simp; omega)
  have s46 : w4.heap.size ≤ w7.heap.size := Nat.le_trans hx5.1 hx6.1
  generalize hM : (K + 63) / 64 = M at *
  rw [hr]
  refine jd (fun (t : Int) W => ∃ (i : Nat) (xp : Option Addr × Nat × Nat), t = (i : Int) ∧ i ≤ M ∧ W.heap[w2.heap.size]? = some (.cells (zdv ⟨2, [], (K : Int), (zgg i a2.2).1, []⟩ xp (none, 0, 0)).toArray zi (0, 0)) ∧ Mine W.heap w4.heap.size zf 32 xp ((zgg i a2.2).1.flatMap Bl.zf3) ∧
   InW W.heap b F (zgg i a2.2).2 ∧ Ext [b] H W.heap ∧ W.heap[H.size]? = some (.cells (zc P zi) zi (0, 0)) ∧ w4.heap.size ≤ W.heap.size) (fun t _ => (M - t).toNat) ⟨0, (none, 0, 0), rfl, Nat.zero_le _, hn6, .inl ⟨rfl, rfl⟩, hI6, hx06, hd6, s46⟩ ?_
  rintro _ W ⟨i, xp, rfl, hi, g1, g2, g3, g4, g5, g6⟩
  refine zq (fun hlt => ?_) (fun hge => ?_)
  ·refine vg rfl fun w8 hw8 => ?_
   rw [← hw8] at g1 g2 g3 g4 g5 g6
   refine jh (s := .slc) (t := xp) rfl g1 rfl ?_
   refine zk (qit rfl g3 (fun c hc => by have := hF c hc; have := g4.1; omega)) ?_
   rintro e w9 ⟨rfl, hI9, hx9⟩
   refine ⟨arr (dgS (zgg i a2.2).2).1, rfl, ?_⟩
   have k1 := hx9.get g1 (by simp; exact bn)
   have k2 := g2.ext hx9 (fun c hc h => by simp at h; subst h; have := jc g2 _ hc; omega)
   have s9 := hx9.1
   refine ⟨jh (s := .slc) (o := 3) (t := xp) (K := fun z => Value.slice z.1 z.2.1 z.2.2 = Value.slice xp.1 xp.2.1 xp.2.2) rfl k1 rfl rfl, ?_⟩
   refine z7c rfl k2 (by omega) zvm (by rw [zq4]; omega) (fun w10 hx10 => jh (s := .slc) (o := 3) (t := xp) (K := fun z => Value.slice z.1 z.2.1 z.2.2 = Value.slice xp.1 xp.2.1 xp.2.2) rfl (hx10.get k1 (by simp)) rfl rfl) fun xp2 w11 hm11 hx11 hs11 => ?_
   have own3 : ∀ {c : Nat}, c < w4.heap.size → c ∉ xu xp := fun h hc => by have := jc g2 _ hc; omega
   have k11 := hx11.get k1 (own3 s4)
   refine zcd rfl k11 (by simp [zdv]) fun w12 hw12 => ?_
   have hx12 : Ext [w2.heap.size] w11.heap w12.heap := by rw [hw12]; exact Ext.set _ (by simp)
   have s11 := hx11.1
   have s12 := hx12.1
   refine xw ((i + 1 : Nat) : Int) (by simp) (by omega) (by omega) ?_
   refine ⟨⟨i + 1, xp2, rfl, by omega, by rw [hw12]; exact qm k11, hm11.ext hx12 (fun c hc h => by simp at h; subst h; have := jc hm11 _ hc; omega), ?_, ?_, ?_, by omega⟩, by omega⟩
   ·refine (hI9.ext hx11 (own3 (by omega)) fun c hc => own3 (by have := hF c hc; omega)).ext hx12 (by simp; exact bn.symm) (fun c hc h => by simp at h; exact fn c hc h.symm)
   ·exact ((g4.trans hx9).own hx11 (fun c hc hlt => by have := jc g2 _ hc; omega)).own hx12 (fun c hc hlt => by simp at hc; omega)
   ·exact hx12.get (hx11.get (hx9.get g5 (by simp; omega)) (own3 (by omega))) (by simp; omega)
  ·obtain rfl : i = M := by omega
   exact ⟨xp, (none, 0, 0), g1, ⟨g2, .inl ⟨rfl, rfl⟩⟩, g3, g4, g5⟩
 refine zbv (fun h3 => ?_) (fun h3 => ?_)
 ·have h1 : min (nmS s).1 9 ≠ 1 := by omega
  have h2 : min (nmS s).1 9 ≠ 2 := by omega
  have h3 : min (nmS s).1 9 = 3 := by omega
  generalize hs2 : nmS (nmS s).2 = a2 at *
  have hr : zci s = (⟨3, [], 0, [], (zek (min a2.1 65) a2.2).1⟩, (zek (min a2.1 65) a2.2).2) := by unfold zci; rw [if_neg h1, if_neg h2, if_pos h3, hs2]
  rw [h3] at hn4
  refine zk (z6z rfl hI4) ?_
  rintro e w7 ⟨rfl, hI6, hx5⟩
  refine ⟨((nmS (nmS s).2).1 : Int), rfl, ?_⟩
  rw [hs2] at hI6 ⊢
  refine xg (s := .int .u64) ((min a2.1 65 : Nat) : Int) (qkp 65 _ _) ?_
  generalize hM : min a2.1 65 = M at *
  have hn6 := hx5.get hn4 (by simp; exact bn)
  have hx06 := hx04.trans hx5
  have hd6 := hx5.get hd4 (by simp; omega)
  have s46 : w4.heap.size ≤ w7.heap.size := hx5.1
  rw [hr]
  refine jd (fun (t : Int) W => ∃ (i : Nat) (xi : Option Addr × Nat × Nat), t = (i : Int) ∧ i ≤ M ∧ W.heap[w2.heap.size]? = some (.cells (zdv ⟨3, [], 0, [], (zek i a2.2).1⟩ (none, 0, 0) xi).toArray zi (0, 0)) ∧ Mine W.heap w4.heap.size qj 34 xi ((zek i a2.2).1.flatMap zfk) ∧
   InW W.heap b F (zek i a2.2).2 ∧ Ext [b] H W.heap ∧ W.heap[H.size]? = some (.cells (zc P zi) zi (0, 0)) ∧ w4.heap.size ≤ W.heap.size) (fun t _ => (M - t).toNat) ⟨0, (none, 0, 0), rfl, Nat.zero_le _, hn6, .inl ⟨rfl, rfl⟩, hI6, hx06, hd6, s46⟩ ?_
  rintro _ W ⟨i, xi, rfl, hi, g1, g2, g3, g4, g5, g6⟩
  refine zq (fun hlt => ?_) (fun hge => ?_)
  ·refine vg rfl fun w8 hw8 => ?_
   rw [← hw8] at g1 g2 g3 g4 g5 g6
   have re : ∀ {W' : World}, W'.heap[w2.heap.size]? = some (.cells (zdv ⟨3, [], 0, [], (zek i a2.2).1⟩ (none, 0, 0) xi).toArray zi (0, 0)) → ld .slc (⟨w2.heap.size, 4, none⟩ : Addr) W' fun z => Value.slice z.1 z.2.1 z.2.2 = Value.slice xi.1 xi.2.1 xi.2.2 := fun h => jh (s := .slc) (o := 4) (t := xi) (K := fun z => Value.slice z.1 z.2.1 z.2.2 = Value.slice xi.1 xi.2.1 xi.2.2) rfl h rfl rfl
   refine jh (s := .slc) (t := xi) rfl g1 rfl ?_
   refine zk (qez (most := 16) rfl g3 (by omega)) ?_
   rintro e w9 ⟨rfl, hI9, hx9⟩
   refine ⟨strOf (txS 16 (zek i a2.2).2).1, rfl, ?_⟩
   have k9 := hx9.get g1 (by simp; exact bn)
   refine ⟨re k9, ?_⟩
   refine zk (z6z rfl hI9) ?_
   rintro e w10 ⟨rfl, hI10, hx10⟩
   refine ⟨((nmS (txS 16 (zek i a2.2).2).2).1 : Int), rfl, ?_⟩
   have k10 := hx10.get k9 (by simp; exact bn)
   refine ⟨re k10, ?_⟩
   refine xg (s := .int .u64) ((min (nmS (txS 16 (zek i a2.2).2).2).1 9 : Nat) : Int) (qkp 9 _ _) ?_
   refine z2l (by omega) (by omega) ?_
   have s9 := hx9.1
   have s10 := hx10.1
   have s04 := g4.1
   refine zk (qit rfl hI10 (fun c hc => by have := hF c hc; omega)) ?_
   rintro e w11 ⟨rfl, hI11, hx11⟩
   refine ⟨arr (dgS (nmS (txS 16 (zek i a2.2).2).2).2).1, rfl, ?_⟩
   have k11 := hx11.get k10 (by simp; exact bn)
   refine ⟨xg (s := .int .u64) ((min (nmS (txS 16 (zek i a2.2).2).2).1 9 : Nat) : Int) (qkp 9 _ _) rfl, re k11, ?_⟩
   refine xg (s := .any) (.agg (zfk (qgq (zek i a2.2).2).1).toArray) (by rw [bT3 _ _ zvm]; unfold zfk qgq; rw [Bl.zgy zvm]; rfl) ?_
   have hx811 := (hx9.trans hx10).trans hx11
   have k2 := g2.ext hx811 (fun c hc h => by simp at h; subst h; have := jc g2 _ hc; omega)
   have s11 := hx11.1
   refine qf7 (i := (qgq (zek i a2.2).2).1) rfl k2 (by omega) (by rw [zuf]; omega) (fun w12 hx12 => re (hx12.get k11 (by simp))) fun xi2 w13 hm13 hx13 hs13 => ?_
   have own3 : ∀ {c : Nat}, c < w4.heap.size → c ∉ xu xi := fun h hc => by have := jc g2 _ hc; omega
   have k13 := hx13.get k11 (own3 s4)
   refine zcd rfl k13 (by simp [zdv]) fun w14 hw14 => ?_
   have hx14 : Ext [w2.heap.size] w13.heap w14.heap := by rw [hw14]; exact Ext.set _ (by simp)
   have s13 := hx13.1
   have s14 := hx14.1
   refine ⟨((i + 1 : Nat) : Int), (by rw [wrap_u64] <;> omega), ?_⟩
   have hI : InW w11.heap b F (zek (i + 1) a2.2).2 := hI11
   refine ⟨⟨i + 1, xi2, rfl, by omega, by rw [hw14]; exact qm k13, hm13.ext hx14 (fun c hc h => by simp at h; subst h; have := jc hm13 _ hc; omega), ?_, ?_, ?_, by omega⟩, by omega⟩
   ·refine (hI.ext hx13 (own3 (by omega)) fun c hc => own3 (by have := hF c hc; omega)).ext hx14 (by simp; exact bn.symm) (fun c hc h => by simp at h; exact fn c hc h.symm)
   ·exact ((g4.trans hx811).own hx13 (fun c hc hlt => by have := jc g2 _ hc; omega)).own hx14 (fun c hc hlt => by simp at hc; omega)
   ·exact hx14.get (hx13.get (hx811.get g5 (by simp; omega)) (own3 (by omega))) (by simp; omega)
  ·obtain rfl : i = M := by omega
   exact ⟨(none, 0, 0), xi, g1, ⟨.inl ⟨rfl, rfl⟩, g2⟩, g3, g4, g5⟩
 ·have h1 : min (nmS s).1 9 ≠ 1 := by omega
  have h2 : min (nmS s).1 9 ≠ 2 := by omega
  have h3 : min (nmS s).1 9 ≠ 3 := by omega
  have hr : zci s = (⟨((min (nmS s).1 9 : Nat) : Int), [], 0, [], []⟩, (nmS s).2) := by unfold zci; rw [if_neg h1, if_neg h2, if_neg h3]
  rw [hr]
  exact ⟨(none, 0, 0), (none, 0, 0), hn4, nil2, hI4, hx04, hd4⟩
def zhj : Nod := ⟨0, [], 0, [], []⟩
def zqd (L : List UInt8) : Nod × Int := if (zci (some L)).2 = some [] ∧ zdb (zci (some L)).1 = true then ((zci (some L)).1, 0) else (zhj, 21)
theorem qev {m : Nat} {s : Rest} : (txS m s).1.length ≤ m := by
 unfold txS
 cases s with
 | none => simp
 | some R =>
  simp only
  cases h : zxf m R with
  | none => simp
  | some y =>
   unfold zxf at h
   cases h2 : rdNum R with
   | none => rw [h2] at h; cases h
   | some z =>
    rw [h2] at h
    simp only at h
    split at h
    ·cases h
    ·rename_i h3
     simp only [Option.some.injEq] at h
     rw [← h]; simp; omega
theorem zvr {s : Rest} : ∀ {k : Nat}, ∀ i ∈ (zek k s).1, i.name.length ≤ 16
 | 0, p, h => by cases h
 | k + 1, p, h => by
  simp only [zek, List.mem_append, List.mem_singleton] at h
  rcases h with h | rfl
  ·exact zvr p h
  ·exact qev
theorem zvh {s : Rest} : (zci s).1.size ≤ 1025 ∧ (∀ i ∈ (zci s).1.items, i.name.length ≤ 16) ∧ (zci s).1.items.length ≤ 65 := by
 unfold zci
 split
 ·simp
 ·split
  ·exact ⟨by simp only; omega, by simp, by simp⟩
  ·split
   ·exact ⟨by simp, zvr, by simp only; rw [zuf]; omega⟩
   ·simp
theorem bN0 (w : World) : (Instr.build zi #[]).run P w = .ok (.agg (zdv zhj (none, 0, 0) (none, 0, 0)).toArray) w := by kernel_rfl
theorem stN {w : World} {H : Heap} {b : Nat} {c : Array Value} {T : TypeId} (n : Nod) (xp xi : Option Addr × Nat × Nat) (hw : w.heap = H) (hb : H[b]? = some (.cells c T (0, 0))) (hs : c.size = 5) {K : World → Prop}
  (hK : ∀ w', w'.heap = H.setIfInBounds b (.cells (zdv n xp xi).toArray T (0, 0)) → K w') : zbn P (storeVar zi (⟨b, 0, none⟩ : Addr) (.agg (zdv n xp xi).toArray)) w K := by
 refine zbf (v := .agg (zdv n xp xi).toArray) (by rw [szN]; rfl) (by simp [Value.cells, zdv]) (by
   intro v hv
   simp only [Value.cells, zdv, List.mem_cons, List.not_mem_nil, or_false] at hv
   rcases hv with rfl | rfl | rfl | rfl | rfl <;> rfl) hw hb (by rw [hs]; simp [Value.cells, zdv]) fun w5 hw5 => hK w5 ?_
 rw [zam (by rw [hs]; simp [Value.cells, zdv])] at hw5
 simpa [Value.cells] using hw5
theorem zsw {w : World} {H : Heap} {b : Nat} {R : Array Value → World → Prop} (hw : w.heap = H) (hb : H[b]? = some (.cells (zc P zi) zi (0, 0))) (hR : ∀ w', Ext [b] H w'.heap → R (zdv zhj (none, 0, 0) (none, 0, 0)).toArray w') :
  za0 P (Instr.build zi #[]) .any w fun (t : Value) => zbn P (storeVar zi (⟨b, 0, none⟩ : Addr) t) w fun w2 => ldA P 5 (⟨b, 0, none⟩ : Addr) w2 fun t4 => R t4 w2 := by
 refine xg (s := .any) _ (bN0 _) ?_
 refine stN zhj (none, 0, 0) (none, 0, 0) hw hb zcN fun w2 hw2 => ?_
 have hb2 : w2.heap[b]? = some (.cells (zdv zhj (none, 0, 0) (none, 0, 0)).toArray zi (0, 0)) := by rw [hw2]; exact qm hb
 refine jf rfl hb2 rfl ?_
 exact hR w2 (by rw [hw2]; exact Ext.set _ (by simp))
set_option maxHeartbeats 4000000 in
theorem qei {w : World} {H : Heap} {a : Option Addr} {n nc : Nat} {L : List UInt8} (hw : w.heap = H) (hL : Cells H a (byteCells L)) (hn : n = L.length) (hl : L.length ≤ 1099511627776) :
  qg P znj #[.slice a n nc] w fun e w' => ∃ xp xi, e = .returned (.tuple #[.agg (zdv (zqd L).1 xp xi).toArray, .int .i64 (zqd L).2]) ∧ NodM w'.heap H.size (zqd L).1 xp xi ∧ Ext [] H w'.heap := by
 refine zzj ?_
 unfold zof
 refine jw hw fun w1 hw1 => ?_
 have hx1 : Ext [] H w1.heap := by rw [hw1]; exact .push _
 have hd1 : w1.heap[H.size]? = some (.cells (zc P zi) zi (0, 0)) := by rw [hw1]; exact zn
 have s1 := lt_of_get hd1
 refine zk (qly rfl (hL.ext hx1 (by simp)) hn hl) ?_
 rintro e w2 ⟨b, F, rfl, hI2, hx2, hb2, hF2, hb2l, hF2l⟩
 refine ⟨some ⟨b, 0, none⟩, rfl, ?_⟩
 have hd2 := hx2.get hd1 (by simp)
 refine zk (qjq rfl hI2 hF2l) ?_
 rintro e w3 ⟨xp, xi, rfl, hN3, hI3, hx3⟩
 refine ⟨.agg (zdv (zci (some L)).1 xp xi).toArray, rfl, ?_⟩
 have hsm := zvh (s := some L)
 have hdec : zqd L = if (zci (some L)).2 = some [] ∧ zdb (zci (some L)).1 = true then ((zci (some L)).1, 0) else (zhj, 21) := rfl
 generalize zci (some L) = D at *
 have hx13 : Ext [] w1.heap w3.heap := hx2.own hx3 (fun c hc hlt => by simp at hc; omega)
 have hd3 := hx13.get hd1 (by simp)
 refine qg2 D.1 xp xi rfl fun w5 hw5 => ?_
 have hx5 : Ext [] w3.heap w5.heap := by rw [hw5]; exact .push _
 have hn5 : w5.heap[w3.heap.size]? = some (.cells (zdv D.1 xp xi).toArray zi (0, 0)) := by rw [hw5]; exact zn
 have s3 := hx13.1
 have hd5 := hx5.get hd3 (by simp)
 have hx05 := (hx1.trans hx13).trans hx5
 have bad : ∀ {W W' : World}, ¬ (D.2 = some [] ∧ zdb D.1 = true) → Ext [] w5.heap W.heap → Ext [H.size] W.heap W'.heap → ∃ xp xi, Ending.returned (.tuple #[.agg (zdv zhj (none, 0, 0) (none, 0, 0)).toArray, .int .i64 21]) = .returned (.tuple #[.agg (zdv (zqd L).1 xp xi).toArray, .int .i64 (zqd L).2]) ∧ NodM W'.heap H.size (zqd L).1 xp xi ∧ Ext [] H W'.heap := by
  intro W W' h hxa hxb
  rw [hdec, if_neg h]
  exact ⟨_, _, rfl, .bare rfl rfl, (hx05.trans hxa).own hxb (fun c hc hlt => by simp at hc; omega)⟩
 refine Go.Fw.joinP_of (fun _ W => Ext [] w5.heap W.heap ∧ (D.2 = some [] ∧ zdb D.1 = true)) ?_ ?_
 ·refine zk (qkr rfl (hI3.ext hx5 (by simp) (by simp))) ?_
  rintro e w6 ⟨rfl, rfl⟩
  refine ⟨decide (D.2 = some []), rfl, ?_⟩
  by_cases he : D.2 = some []
  ·refine jl (by simp [he]) ?_
   refine jf rfl hn5 rfl ?_
   refine zk (qfh rfl (hN3.nodW.ext hx5) (by omega) (fun i hi => by have := hsm.2.1 i hi; omega) (by omega)) ?_
   rintro e w8 ⟨rfl, hx8⟩
   refine ⟨zdb D.1, rfl, ?_⟩
   cases hr : zdb D.1 with
   | true => exact jl rfl ⟨hx8, he, rfl⟩
   | false => exact zaa rfl (zsw rfl (hx8.get hd5 (by simp)) fun w9 hx9 => bad (fun h => by rw [hr] at h; cases h.2) hx8 hx9)
  ·exact zaa (by simp [he]) (zsw rfl hd5 fun w7 hx7 => bad (fun h => he h.1) (.refl _ _) hx7)
 ·rintro _ W ⟨hx, hok⟩
  refine jf rfl (hx.get hn5 (by simp)) rfl ?_
  refine stN D.1 xp xi rfl (hx.get hd5 (by simp)) zcN fun w11 hw11 => ?_
  have hx11 : Ext [H.size] W.heap w11.heap := by rw [hw11]; exact Ext.set _ (by simp)
  have hd11 : w11.heap[H.size]? = some (.cells (zdv D.1 xp xi).toArray zi (0, 0)) := by rw [hw11]; exact qm (hx.get hd5 (by simp))
  refine jf rfl hd11 rfl ?_
  rw [hdec, if_pos hok]
  refine ⟨xp, xi, rfl, ?_, (hx05.trans hx).own hx11 (fun c hc hlt => by simp at hc; omega)⟩
  have s2 := hx2.1
  exact (((hN3.ext hx5 (by simp)).ext hx (by simp)).ext hx11 (fun c hc => by simp at hc; omega)).mono (by omega)
def zt1 (v : Option (List UInt8)) (k : List UInt8) (kind : Int) : Nod × Int :=
 if Bl.got v k ≠ 0 then (zhj, Bl.got v k) else if (zqd (v.getD [])).2 ≠ 0 ∨ (zqd (v.getD [])).1.kind ≠ kind then (zhj, 21) else ((zqd (v.getD [])).1, 0)
set_option maxHeartbeats 4000000 in
theorem qeb {w : World} {H : Heap} {fp : List Nat} {p : Nat} {q : Int} {r : Bl.SM} {c : Nat} {k : List UInt8} {kind : Int} (hw : w.heap = H) (hS : Bl.Store H fp p q r c) (hk : k.length = 32) (hR : Bl.Rounds H) (hlen : ∀ L, Bl.zax r k = some L → L.length < 1099511627776) :
  qg P zh0 #[.pointer (some ⟨p, 0, none⟩), arr k, .int .i64 kind] w fun e w' => ∃ xp xi, e = .returned (.tuple #[.agg (zdv (zt1 (Bl.zax r k) k kind).1 xp xi).toArray, .int .i64 (zt1 (Bl.zax r k) k kind).2]) ∧ NodM w'.heap H.size (zt1 (Bl.zax r k) k kind).1 xp xi ∧ Ext [] H w'.heap := by
 refine z9g ?_
 unfold zuu
 rw [show (arr k).cells = (byteCells k).toArray from rfl]
 refine jw hw fun w1 hw1 => ?_
 have hx1 : Ext [] H w1.heap := by rw [hw1]; exact .push _
 have hb1 : w1.heap[H.size]? = some (.cells (byteCells k).toArray zf (0, 0)) := by rw [hw1]; exact zn
 have s1 := lt_of_get hb1
 refine jw rfl fun w2 hw2 => ?_
 have hx2 : Ext [] w1.heap w2.heap := by rw [hw2]; exact .push _
 have hd2 : w2.heap[w1.heap.size]? = some (.cells (zc P zi) zi (0, 0)) := by rw [hw2]; exact zn
 have s2 := lt_of_get hd2
 have hx02 := hx1.trans hx2
 refine jf rfl (hx2.get hb1 (by simp)) (by simp [hk]) ?_
 refine zk (Bl.qeb (k := k) rfl (hS.ext hx02 (by simp)) hk (hR.ext hx02 (by simp)) hlen) ?_
 rintro e w3 ⟨x, rfl, hx3, hgot, hno⟩
 refine ⟨(x, Bl.got (Bl.zax r k) k), rfl, ?_⟩
 have hd3 := hx3.get hd2 (by simp)
 have hx03 := hx02.trans hx3
 refine zb5 (fun h => ?_) (fun h => ?_)
 ·have hv : zt1 (Bl.zax r k) k kind = (zhj, Bl.got (Bl.zax r k) k) := by unfold zt1; rw [if_pos h]
  refine zsw rfl hd3 fun w4 hx4 => ?_
  rw [hv]
  exact ⟨_, _, rfl, .bare rfl rfl, hx03.own hx4 (fun c hc hlt => by simp at hc; omega)⟩
 have h : Bl.got (Bl.zax r k) k = 0 := h
 obtain ⟨L, hL, hm⟩ := hgot h
 have hv : zt1 (Bl.zax r k) k kind = if (zqd L).2 ≠ 0 ∨ (zqd L).1.kind ≠ kind then (zhj, 21) else ((zqd L).1, 0) := by
  unfold zt1; rw [if_neg (by simpa using h), hL]; rfl
 have hxl : x.2.1 = L.length := by have := hm.len; simp at this; omega
 refine zk (qei (L := L) rfl hm.cells hxl (by have := hlen L hL; omega)) ?_
 rintro e w5 ⟨xp, xi, rfl, hN5, hx5⟩
 refine ⟨(.agg (zdv (zqd L).1 xp xi).toArray, (zqd L).2), rfl, ?_⟩
 generalize zqd L = D at *
 have hd5 := hx5.get hd3 (by simp)
 have s3 := hx3.1
 have s5 := hx5.1
 refine qg2 D.1 xp xi rfl fun w7 hw7 => ?_
 have hx7 : Ext [] w5.heap w7.heap := by rw [hw7]; exact .push _
 have hn7 : w7.heap[w5.heap.size]? = some (.cells (zdv D.1 xp xi).toArray zi (0, 0)) := by rw [hw7]; exact zn
 have hd7 := hx7.get hd5 (by simp)
 have hx07 := (hx03.trans hx5).trans hx7
 have bad : ∀ {W' : World}, (D.2 ≠ 0 ∨ D.1.kind ≠ kind) → Ext [w1.heap.size] w7.heap W'.heap → ∃ xp xi, Ending.returned (.tuple #[.agg (zdv zhj (none, 0, 0) (none, 0, 0)).toArray, .int .i64 21]) = .returned (.tuple #[.agg (zdv (zt1 (Bl.zax r k) k kind).1 xp xi).toArray, .int .i64 (zt1 (Bl.zax r k) k kind).2]) ∧ NodM W'.heap H.size (zt1 (Bl.zax r k) k kind).1 xp xi ∧ Ext [] H W'.heap := by
  intro W' h hxb
  rw [hv, if_pos h]
  exact ⟨_, _, rfl, .bare rfl rfl, hx07.own hxb (fun c hc hlt => by simp at hc; omega)⟩
 refine Go.Fw.joinP_of (fun _ W => W.heap = w7.heap ∧ ¬ (D.2 ≠ 0 ∨ D.1.kind ≠ kind)) ?_ ?_
 ·refine zb5 (fun h1 => ?_) (fun h1 => ?_)
  ·exact zsw rfl hd7 fun w8 hx8 => bad (.inl h1) hx8
  ·refine jh (s := .int .i64) (t := D.1.kind) rfl hn7 rfl ?_
   refine zb5 (fun h2 => ?_) (fun h2 => ?_)
   ·exact zsw rfl hd7 fun w8 hx8 => bad (.inr h2) hx8
   ·exact ⟨rfl, fun h => h.elim (fun h => h h1) (fun h => h h2)⟩
 ·rintro _ W ⟨hW, hok⟩
  rw [← hW] at hn7 hd7
  have hxW : Ext [] H W.heap := by rw [hW]; exact hx07
  refine jf rfl hn7 rfl ?_
  refine stN D.1 xp xi rfl hd7 zcN fun w11 hw11 => ?_
  have hx11 : Ext [w1.heap.size] W.heap w11.heap := by rw [hw11]; exact Ext.set _ (by simp)
  have hd11 : w11.heap[w1.heap.size]? = some (.cells (zdv D.1 xp xi).toArray zi (0, 0)) := by rw [hw11]; exact qm hd7
  refine jf rfl hd11 rfl ?_
  rw [hv, if_neg hok]
  refine ⟨xp, xi, rfl, ?_, hxW.own hx11 (fun c hc hlt => by simp at hc; omega)⟩
  have k1 := hN5.ext hx7 (by simp)
  rw [← hW] at k1
  exact (k1.ext hx11 (fun c hc => by simp at hc; omega)).mono (by omega)
theorem qej {w : World} {H : Heap} {b : Nat} (hw : w.heap = H) (hb : H[b]? = some (.cells #[.pointer none, .slice none 0 0] ji (0, 0))) :
  qg P zbl #[.pointer (some ⟨b, 0, none⟩)] w fun e w' => e = .returned (.string (strOf [])) ∧ w'.heap = H := by
 refine zfw ?_
 unfold zct
 refine vg hw fun w1 hw1 => ?_
 simp only [xq, jv, Nat.zero_add]
 refine jh (s := .slc) (t := (none, 0, 0)) hw1 hb rfl ?_
 refine jh (s := .slc) (t := (none, 0, 0)) hw1 hb rfl ?_
 refine zai (s := .ptr) none w1 (Lib.run_unsafeSliceData_nil w1 _ _ _ _) ?_
 refine ⟨jh (s := .slc) (t := (none, 0, 0)) hw1 hb rfl rfl, ?_⟩
 refine zai (s := .str) (strOf []) w1 (Lib.run_unsafeString_none w1 _ _ _ _) ?_
 exact ⟨rfl, hw1⟩
def z9t (g : List UInt8 → Nod × Int) (size : Int) : Nat → List (List UInt8) → List UInt8 → List UInt8 × Int
 | _, [], acc => (acc, 0)
 | i, p :: ps, acc => if (g p).2 ≠ 0 then ([], (g p).2) else if ((g p).1.data.length : Int) ≠ min 64 (size - 64 * i) then ([], 21) else z9t g size (i + 1) ps (acc ++ (g p).1.data)
def zfo (r : Bl.SM) (n : Nod) : List UInt8 × Int := z9t (fun k => zt1 (Bl.zax r k) k 1) n.size 0 n.parts []
theorem z5e {L : List UInt8} : (zqd L).1.data.length ≤ 64 ∧ ((zqd L).2 = 0 → (zqd L).1.kind = 1 → (zqd L).1.data ≠ []) := by
 unfold zqd
 split
 ·rename_i h
  constructor
  ·unfold zci
   split
   ·exact qev
   ·split
    ·simp
    ·split <;> simp
  ·intro _ hk hd
   have h2 := h.2
   unfold zdb at h2
   rw [if_pos hk] at h2
   simp only [decide_eq_true_eq] at h2
   simp only at hd
   rw [hd] at h2
   simp at h2
 ·exact ⟨by simp [zhj], by intro h; simp at h⟩
theorem qfx {v : Option (List UInt8)} {k : List UInt8} : (zt1 v k 1).1.data.length ≤ 64 ∧ ((zt1 v k 1).2 = 0 → (zt1 v k 1).1.data ≠ []) := by
 unfold zt1
 split
 ·rename_i h; exact ⟨by simp [zhj], fun h' => absurd h' h⟩
 ·split
  ·exact ⟨by simp [zhj], by intro h; simp at h⟩
  ·rename_i h
   refine ⟨z5e.1, fun _ => z5e.2 ?_ ?_⟩
   ·exact Decidable.byContradiction fun h' => h (.inl h')
   ·exact Decidable.byContradiction fun h' => h (.inr h')
set_option maxHeartbeats 4000000 in
theorem qfz {w : World} {H : Heap} {fp : List Nat} {p : Nat} {q : Int} {r : Bl.SM} {c : Nat} {n : Nod} {xp xi : Option Addr × Nat × Nat} (hw : w.heap = H) (hS : Bl.Store H fp p q r c) (hR : Bl.Rounds H) (hlen : ∀ k L, Bl.zax r k = some L → L.length < 1099511627776)
  (hN : NodW H n xp xi) (hpl : n.parts.length ≤ 65536) (hs1 : -1099511627776 ≤ n.size) (hs2 : n.size ≤ 1099511627776) :
  qg P zbt #[.pointer (some ⟨p, 0, none⟩), .agg (zdv n xp xi).toArray] w fun e w' => e = .returned (.tuple #[.string (strOf (zfo r n).1), .int .i64 (zfo r n).2]) ∧ Ext [] H w'.heap := by
 refine zy9 ?_
 unfold zms
 refine jw hw fun w1 hw1 => ?_
 have hx1 : Ext [] H w1.heap := by rw [hw1]; exact .push _
 have hb1 : w1.heap[H.size]? = some (.cells (zdv n xp xi).toArray zi (0, 0)) := by rw [hw1]; exact zn
 have s1 := lt_of_get hb1
 refine jw rfl fun w2 hw2 => ?_
 have hx2 : Ext [] w1.heap w2.heap := by rw [hw2]; exact .push _
 have hd2 : w2.heap[w1.heap.size]? = some (.cells #[.pointer none, .slice none 0 0] ji (0, 0)) := by rw [hw2, zcB]; exact zn
 have s2 := lt_of_get hd2
 have hx02 := hx1.trans hx2
 refine jh (s := .slc) (t := xp) rfl (hx2.get hb1 (by simp)) rfl ?_
 refine jd (fun (s : Int) W => ∃ (i : Nat) (acc : List UInt8), s = (i : Int) ∧ i ≤ n.parts.length ∧ z9t (fun k => zt1 (Bl.zax r k) k 1) n.size i (n.parts.drop i) acc = zfo r n ∧ Ext [] H W.heap ∧ w2.heap.size ≤ W.heap.size ∧ acc.length ≤ 64 * i ∧ W.heap[H.size]? = some (.cells (zdv n xp xi).toArray zi (0, 0)) ∧
   Bd W.heap w2.heap.size w1.heap.size acc ∧ ((acc = [] ∧ W.heap[w1.heap.size]? = some (.cells #[.pointer none, .slice none 0 0] ji (0, 0))) ∨ acc ≠ [])) (fun s _ => (n.parts.length - s).toNat)
  ⟨0, [], rfl, Nat.zero_le _, rfl, hx02, Nat.le_refl _, by simp, hx2.get hb1 (by simp), ⟨(none, 0, 0), none, hd2, .inl rfl, s2, .inl ⟨rfl, rfl⟩⟩, .inl ⟨rfl, hd2⟩⟩ ?_
 rintro _ W ⟨i, acc, rfl, hi, hc, hx, hsz, hal, hbW, hB, hne⟩
 have hxl : xp.2.1 = n.parts.length := hN.plen
 refine zq (fun hlt => ?_) (fun hge => ?_)
 ·have hil : i < n.parts.length := by omega
  have hget := List.getElem?_eq_getElem hil
  have hk32 := hN.p32 _ (List.getElem_mem hil)
  rw [List.drop_eq_getElem_cons hil] at hc
  generalize n.parts[i] = k at hget hk32 hc
  refine zkm (i := i) Bl.zd8 (by omega) rfl (hN.parts.ext hx (by simp)) hxl hget rfl ?_
  rw [Bl.zgy hk32]
  refine qg0 hk32 rfl fun w5 hw5 => ?_
  have hx5 : Ext [] W.heap w5.heap := by rw [hw5]; exact .push _
  have hb5 : w5.heap[W.heap.size]? = some (.cells (byteCells k).toArray zf (0, 0)) := by rw [hw5]; exact zn
  refine jf rfl hb5 (by simp [hk32]) ?_
  have hx05 := hx.trans hx5
  refine zk (qeb (k := k) rfl (hS.ext hx05 (by simp)) hk32 (hR.ext hx05 (by simp)) (hlen k)) ?_
  rintro e w6 ⟨yp, yi, rfl, hN6, hx6⟩
  refine ⟨(.agg (zdv (zt1 (Bl.zax r k) k 1).1 yp yi).toArray, (zt1 (Bl.zax r k) k 1).2), rfl, ?_⟩
  have hgd := qfx (v := Bl.zax r k) (k := k)
  unfold z9t at hc
  generalize zt1 (Bl.zax r k) k 1 = D at *
  refine qg2 D.1 yp yi rfl fun w8 hw8 => ?_
  have hx8 : Ext [] w6.heap w8.heap := by rw [hw8]; exact .push _
  have hn8 : w8.heap[w6.heap.size]? = some (.cells (zdv D.1 yp yi).toArray zi (0, 0)) := by rw [hw8]; exact zn
  have hxW8 := (hx5.trans hx6).trans hx8
  refine zb5 (fun h => ?_) (fun h => ?_)
  ·rw [if_pos h] at hc
   rw [← hc]
   exact ⟨rfl, hx.trans hxW8⟩
  have h : D.2 = 0 := h
  rw [if_neg (by simpa using h)] at hc
  refine jh (s := .str) (t := strOf D.1.data) rfl hn8 rfl ?_
  refine jh (s := .int .i64) (t := n.size) rfl (hxW8.get hbW (by simp)) rfl ?_
  refine zfm ((64 * i : Nat) : Int) (by omega) (by omega) (by omega) ?_
  refine zbs (n.size - 64 * (i : Int)) (by omega) (by omega) (by omega) ?_
  refine xg (s := .int .i64) (min 64 (n.size - 64 * (i : Int))) (by
   rw [run_min_int2]; congr 2
   by_cases h : (n.size - 64 * (i : Int)) < 64
   ·rw [if_pos h]; omega
   ·rw [if_neg h]; omega) ?_
  refine zb5 (fun h2 => ?_) (fun h2 => ?_)
  ·simp only [jm] at h2
   rw [if_pos h2] at hc
   rw [← hc]
   exact ⟨rfl, hx.trans hxW8⟩
  simp only [jm] at h2
  rw [if_neg (by simpa using h2)] at hc
  refine jh (s := .str) (t := strOf D.1.data) rfl hn8 rfl ?_
  have hB8 : Bd w8.heap w2.heap.size w1.heap.size acc := by
   obtain ⟨x, pp, b1, b2, b3, b4⟩ := hB
   exact ⟨x, pp, hxW8.get b1 (by simp), b2, b3, b4.ext hxW8 (by simp)⟩
  have s8 := hxW8.1
  refine zk (zjx (M := D.1.data) rfl hB8 (by omega) (by omega)) ?_
  rintro e w9 ⟨rfl, hB9, F, hx9, hF⟩
  refine ⟨((D.1.data.length : Int), .nilIface), rfl, ?_⟩
  refine xw ((i + 1 : Nat) : Int) (by simp) (by omega) (by omega) ?_
  have s9 := hx9.1
  refine ⟨⟨i + 1, acc ++ D.1.data, rfl, by omega, hc, (hx.trans hxW8).own hx9 (fun c hc hlt => by rcases hF c hc with h | h <;> omega), by omega, by simp; omega, hx9.get (hxW8.get hbW (by simp)) (fun hc => by rcases hF _ hc with h | h <;> omega), hB9, .inr (by have := hgd.2 h; simp [this])⟩, by omega⟩
 ·obtain rfl : i = n.parts.length := by omega
  rw [List.drop_length] at hc
  unfold z9t at hc
  rw [← hc]
  rcases hne with ⟨rfl, h0⟩ | h0
  ·refine zk (qej rfl h0) ?_
   rintro e w6 ⟨rfl, h6⟩
   exact ⟨strOf [], rfl, rfl, by rw [h6]; exact hx⟩
  ·refine zk (string_c rfl hB h0 (by omega)) ?_
   rintro e w6 ⟨rfl, F6, hx6, hF6⟩
   exact ⟨strOf acc, rfl, rfl, hx.own hx6 (by intro b hb hlt; have := hF6 b hb; omega)⟩
theorem qbq {w : World} {H : Heap} {B : Nat} {x : Option Addr × Nat × Nat} {p : Path} (hw : w.heap = H) (hm : Mine H B qx 1 x (strRow p)) (hp : p.length ≤ 1099511627776) :
  qg P zbc #[.slice x.1 x.2.1 x.2.2] w fun e w' => ∃ x', e = .returned (zc9 x') ∧ Mine w'.heap H.size qx 1 x' (strRow p) ∧ Ext [] H w'.heap := by
 have hl : x.2.1 = p.length := by have := hm.len; simp at this; omega
 have hC := hm.cells
 refine zho ?_
 unfold zcn
 by_cases h : x.1.isNone = true
 ·have hx0 : x.1 = none := by simpa using h
  refine zaa h ?_
  rcases hm with ⟨_, h2⟩ | ⟨_, _, h2, _⟩
  ·exact ⟨(none, 0, 0), rfl, .inl ⟨rfl, h2⟩, by rw [hw]; exact .refl _ _⟩
  ·rw [hx0] at h2; cases h2
 ·refine jl (by cases hh : x.1 with
   | none => rw [hh] at h; exact absurd rfl h
   | some v => rfl) ?_
  refine qnb hw fun w1 hx1 hm1 => ?_
  refine qkn (xs := []) (ys := p) rfl hm1 hx1.1 (hC.ext hx1 (by simp)) hl (by simp; omega) fun x' w2 hm2 hx2 => ?_
  exact ⟨x', rfl, hm2, hx1.own hx2 (fun c hc hlt => by simp [xu] at hc; omega)⟩
def zlf (g : List UInt8 → Int → Nod × Int) (ct : Nod → List UInt8 × Int) (rec : List Itm → Path → List Fil → List Fil × Int) (names : Path) : List Itm → List Fil → List Fil × Int
 | [], out => (out, 0)
 | it :: its, out =>
  if out.length = 512 then ([], 8) else if 8 < names.length + 1 then ([], 42)
  else if (g it.sum it.kind).2 ≠ 0 then ([], (g it.sum it.kind).2)
  else if it.kind = 3 then
   if (rec (g it.sum it.kind).1.items (names ++ [it.name]) (out ++ [⟨vk (names ++ [it.name]), true, []⟩])).2 ≠ 0 then ([], (rec (g it.sum it.kind).1.items (names ++ [it.name]) (out ++ [⟨vk (names ++ [it.name]), true, []⟩])).2)
   else zlf g ct rec names its (rec (g it.sum it.kind).1.items (names ++ [it.name]) (out ++ [⟨vk (names ++ [it.name]), true, []⟩])).1
  else if (ct (g it.sum it.kind).1).2 ≠ 0 then ([], (ct (g it.sum it.kind).1).2)
  else zlf g ct rec names its (out ++ [⟨vk (names ++ [it.name]), false, (ct (g it.sum it.kind).1).1⟩])
def zro (g : List UInt8 → Int → Nod × Int) (ct : Nod → List UInt8 × Int) : Nat → List Itm → Path → List Fil → List Fil × Int
 | 0, _, _, _ => ([], 42)
 | f + 1, items, names, out => zlf g ct (zro g ct f) names items out
def zdz (H : Heap) (B : Nat) (out : Option Addr × Nat × Nat) (res : List Fil × Int) (e : Ending) (w' : World) : Prop :=
 ∃ x', e = .returned (.tuple #[zc9 x', .int .i64 res.2]) ∧ Ext (xu out) H w'.heap ∧ (res.2 = 0 → Mine w'.heap B zl 3 x' (res.1.flatMap zbo) ∧ res.1.length ≤ 512) ∧ ∀ c ∈ xu x', c ∈ xu out ∨ H.size ≤ c
def zoi (H : Heap) (B : Nat) (out : Option Addr × Nat × Nat) (res : List Fil × Int) (next : List Fil → List Fil × Int) (s : Option Addr × Nat × Nat) (w' : World) : Prop :=
 ∃ L, next L = res ∧ Ext (xu out) H w'.heap ∧ Mine w'.heap B zl 3 s (L.flatMap zbo) ∧ L.length ≤ 512 ∧ ∀ c ∈ xu s, c ∈ xu out ∨ H.size ≤ c
theorem z1p {v : Option (List UInt8)} {k : List UInt8} {kind : Int} : (zt1 v k kind).1.items.length ≤ 65 ∧ (∀ i ∈ (zt1 v k kind).1.items, i.name.length ≤ 16) ∧ (zt1 v k kind).1.size ≤ 1025 ∧ 0 ≤ (zt1 v k kind).1.size ∧ (zt1 v k kind).1.parts.length ≤ 65536 := by
 have hd : ∀ L, (zqd L).1.items.length ≤ 65 ∧ (∀ i ∈ (zqd L).1.items, i.name.length ≤ 16) ∧ (zqd L).1.size ≤ 1025 ∧ 0 ≤ (zqd L).1.size ∧ (zqd L).1.parts.length ≤ 65536 := by
  intro L
  unfold zqd
  split
  ·have := zvh (s := some L)
   refine ⟨this.2.2, this.2.1, this.1, ?_, ?_⟩
   ·unfold zci; repeat' split
    all_goals simp
   ·unfold zci; repeat' split
    all_goals simp [zq4]
    all_goals omega
  ·simp [zhj]
 unfold zt1
 split
 ·simp [zhj]
 ·split
  ·simp [zhj]
  ·exact hd _
theorem qj0 {w : World} {H : Heap} {B : Nat} {x : Option Addr × Nat × Nat} {T : List Fil} {i : Fil} (hw : w.heap = H) (hm : Mine H B zl 3 x (T.flatMap zbo)) (hBs : B ≤ H.size) (hlen : T.length ≤ 1073741824) {K : (Option Addr × Nat × Nat) → World → Prop}
  (hK : ∀ x' w', Mine w'.heap B zl 3 x' ((T ++ [i]).flatMap zbo) → Ext (xu x) H w'.heap → (∀ c ∈ xu x', c ∈ xu x ∨ H.size ≤ c) → K x' w') :
  zan P (Instr.buildSlice zo 1 #[(0, .agg (zbo i).toArray)]) .slc w fun (t27 : (Option Addr × Nat × Nat)) w_13 =>
  zan P (Builtin.append_ #[zo, zo] zo #[(Value.slice x.1 x.2.1 x.2.2), (Value.slice t27.1 t27.2.1 t27.2.2)]) .slc w_13 K := by
 have hlx : x.2.1 = T.length := by have := hm.len; rw [qd9] at this; omega
 refine zai (s := .slc) (some ⟨w.heap.size, 0, none⟩, 1, 1) _ (zdy EFi uFs (v := .agg (zbo i).toArray) (by simp [Value.cells, zb8]) (by omega) (by omega)) ?_
 subst hw
 have hxp : Ext [] w.heap (w.heap.push (.cells (Value.agg (zbo i).toArray).cells zl)) := .push _
 refine zcr (bts := 40) (n := 1) (us := zbo i) (H := w.heap.push (.cells (Value.agg (zbo i).toArray).cells zl)) EFi (by omega) uFs (za6 uFs) rfl (hm.ext hxp (by simp)) (by simp; omega)
  (Src.slc rfl (.inr ⟨w.heap.size, 0, _, _, _, rfl, zn, by simp [zin], by simp [zin, List.take_of_length_le]⟩) (by rw [zb8])) zwg (by omega) ?_
 intro x' w4 hm4 hl4 hx4 hs4
 refine hK x' w4 (by rw [List.flatMap_append, List.flatMap_singleton]; exact hm4) ((hxp.mono (by simp)).trans hx4) (fun c hc => ?_)
 rcases hs4 c hc with h | h
 ·exact .inl h
 ·right; have := hxp.1; omega
theorem qlu {H : Heap} {B : Nat} {out : Option Addr × Nat × Nat} {res : List Fil × Int} {next : List Fil → List Fil × Int} {fp : List Nat} {p : Nat} {q : Int} {r : Bl.SM} {c : Nat} {rec : List Itm → Path → List Fil → List Fil × Int} {names' : Path} {d : Bool} {D : Nod} {yp yi y28 o : Option Addr × Nat × Nat} {b13 b15 : Nat} {L : List Fil} {w : World}
  (hS : Bl.Store w.heap fp p q r c) (hR : Bl.Rounds w.heap) (hfp : ∀ b ∈ fp, b < B) (hB0 : 0 < B) (hBs : B ≤ H.size) (hlen : ∀ k L, Bl.zax r k = some L → L.length < 1099511627776)
  (hx : Ext (xu out) H w.heap) (h13 : w.heap[b13]? = some (.cells (zdv D yp yi).toArray zi (0, 0))) (h15 : w.heap[b15]? = some (.cells (zbo ⟨vk names', d, []⟩).toArray zl (0, 0))) (hb15 : H.size ≤ b15) (hb13 : H.size ≤ b13)
  (hno : b15 ∉ xu o) (hno13 : b13 ∉ xu o) (hD : NodM w.heap B D yp yi) (hDp : D.parts.length ≤ 65536) (hDs : 0 ≤ D.size) (hDs2 : D.size ≤ 1025) (hY : Mine w.heap B qx 1 y28 (strRow names'))
  (hO : Mine w.heap B zl 3 o (L.flatMap zbo)) (hL : L.length < 512) (hoo : ∀ c ∈ xu o, c ∈ xu out ∨ H.size ≤ c)
  (hdir : d = true → res = if (rec D.items names' (L ++ [(⟨vk names', true, []⟩ : Fil)])).2 ≠ 0 then ([], (rec D.items names' (L ++ [(⟨vk names', true, []⟩ : Fil)])).2) else next (rec D.items names' (L ++ [(⟨vk names', true, []⟩ : Fil)])).1)
  (hfile : d = false → res = if (zfo r D).2 ≠ 0 then ([], (zfo r D).2) else next (L ++ [(⟨vk names', false, (zfo r D).1⟩ : Fil)]))
  (hrec : d = true → ∀ {w2 : World} {o2 : Option Addr × Nat × Nat}, Ext (xu o) w.heap w2.heap → Mine w2.heap B zl 3 o2 ((L ++ [(⟨vk names', true, []⟩ : Fil)]).flatMap zbo) → (∀ c ∈ xu o2, c ∈ xu o ∨ w.heap.size ≤ c) → NodM w2.heap B D yp yi → Mine w2.heap B qx 1 y28 (strRow names') →
   qg P zbu #[.pointer (some ⟨p, 0, none⟩), .agg (zdv D yp yi).toArray, .slice y28.1 y28.2.1 y28.2.2, .slice o2.1 o2.2.1 o2.2.2] w2 (zdz w2.heap B o2 (rec D.items names' (L ++ [(⟨vk names', true, []⟩ : Fil)])))) :
  Go.Fw.joinP Unit (fun k_2 =>
  ld .bool (⟨b15, 1, none⟩ : Addr) w fun (t56 : Bool) =>
  xk (!t56) (
  ldA P 5 (⟨b13, 0, none⟩ : Addr) w fun t60 =>
  qp P zbt #[(Value.pointer (some ⟨p, 0, none⟩)), (Value.agg t60)] [.str, .int .i64] true w fun (t61 : (ByteArray × Int)) w_16 =>
  stC (⟨b15, 2, none⟩ : Addr) (Value.string t61.1) w_16 fun w_17 =>
  xk (t61.2 != 0) (
  zdz H B out res (.returned (Value.tuple #[(Value.slice none 0 0), (Value.int .i64 t61.2)])) w_17) (
  k_2 () w_17)) (
  k_2 () w)) (fun _ w_18 =>
  ldA P 3 (⟨b15, 0, none⟩ : Addr) w_18 fun t69 =>
  zan P (Instr.buildSlice zo 1 #[(0, (Value.agg t69))]) .slc w_18 fun (t70 : (Option Addr × Nat × Nat)) w_19 =>
  zan P (Builtin.append_ #[zo, zo] zo #[(Value.slice o.1 o.2.1 o.2.2), (Value.slice t70.1 t70.2.1 t70.2.2)]) .slc w_19 fun (t71 : (Option Addr × Nat × Nat)) w_20 =>
  ld .bool (⟨b15, 1, none⟩ : Addr) w_20 fun (t73 : Bool) =>
  xk t73 (
  ldA P 5 (⟨b13, 0, none⟩ : Addr) w_20 fun t76 =>
  qp P zbu #[(Value.pointer (some ⟨p, 0, none⟩)), (Value.agg t76), (Value.slice y28.1 y28.2.1 y28.2.2), (Value.slice t71.1 t71.2.1 t71.2.2)] [.slc, .int .i64] true w_20 fun (t79 : ((Option Addr × Nat × Nat) × Int)) w_21 =>
  xk (t79.2 != 0) (
  zdz H B out res (.returned (Value.tuple #[(Value.slice none 0 0), (Value.int .i64 t79.2)])) w_21) (
  zoi H B out res next (t79.1.1, t79.1.2.1, t79.1.2.2) w_21)) (
  zoi H B out res next (t71.1, t71.2.1, t71.2.2) w_20)) := by
 have bs := lt_of_get h15
 have sH := hx.1
 refine Go.Fw.joinP_of (fun _ W => Ext [b15] w.heap W.heap ∧ W.heap[b15]? = some (.cells (zbo ⟨vk names', d, if d then [] else (zfo r D).1⟩).toArray zl (0, 0)) ∧ (d = true → W.heap = w.heap) ∧ (d = false → (zfo r D).2 = 0)) ?_ ?_
 ·refine jh (s := .bool) (t := d) rfl h15 rfl ?_
  cases d with
  | true => exact jl rfl ⟨.refl _ _, h15, fun _ => rfl, fun h => by cases h⟩
  | false =>
   refine zaa rfl ?_
   refine jf rfl h13 rfl ?_
   refine zk (qfz rfl hS hR hlen hD.nodW hDp (by omega) (by omega)) ?_
   rintro e w16 ⟨rfl, hx16⟩
   refine ⟨(strOf (zfo r D).1, (zfo r D).2), rfl, ?_⟩
   have k15 := hx16.get h15 (by simp)
   refine zcd rfl k15 (by simp [zbo]) fun w17 hw17 => ?_
   have hx17 : Ext [b15] w16.heap w17.heap := by rw [hw17]; exact Ext.set _ (by simp)
   refine zb5 (fun h => ?_) (fun h => ?_)
   ·have h : (zfo r D).2 ≠ 0 := h
    have hr := hfile rfl
    rw [if_pos h] at hr
    refine ⟨(none, 0, 0), by rw [hr]; rfl, (hx.trans (hx16.mono (by simp))).own hx17 (fun c hc hlt => by simp at hc; omega), fun h0 => ?_, by simp [xu]⟩
    rw [hr] at h0; exact absurd h0 h
   ·exact ⟨(hx16.mono (by simp)).trans hx17, by rw [hw17]; exact qm k15, (fun h => by cases h), fun _ => h⟩
 rintro _ W ⟨hxW, hbW, hWd, hok⟩
 have sW := hxW.1
 refine jf rfl hbW rfl ?_
 have hOW := hO.ext hxW (fun c hc h => by simp at h; subst h; exact hno hc)
 refine qj0 rfl hOW (by omega) (by omega) fun x71 w20 hm20 hx20 hs20 => ?_
 have s20 := hx20.1
 refine jh (s := .bool) (t := d) rfl (hx20.get hbW hno) rfl ?_
 have hx020 : Ext (xu out) H w20.heap := (hx.own hxW (fun c hc hlt => by simp at hc; omega)).own hx20 (fun c hc hlt => by
  rcases hoo c hc with h | h
  ·exact h
  ·omega)
 have ho20 : ∀ c ∈ xu x71, c ∈ xu out ∨ H.size ≤ c := fun c hc => by
  rcases hs20 c hc with h | h
  ·exact hoo c h
  ·right; omega
 cases d with
 | false =>
  have h0 := hok rfl
  have hr := hfile rfl
  rw [if_neg (by simpa using h0)] at hr
  exact jl rfl ⟨_, hr.symm, hx020, hm20, by simp; omega, ho20⟩
 | true =>
  refine zaa rfl ?_
  have hWw := hWd rfl
  rw [hWw] at hx20 hs20
  have k13 := hx20.get h13 hno13
  refine jf rfl k13 rfl ?_
  have hN := hD.parts
  have ne1 := zg1 hD.parts hO (by decide)
  have ne2 := zg1 hD.items hO (by decide)
  have ne3 := zg1 hY hO (by decide)
  refine zk (hrec rfl hx20 hm20 hs20 ⟨hD.parts.ext hx20 ne1, hD.items.ext hx20 ne2, hD.p32, hD.i32⟩ (hY.ext hx20 ne3)) ?_
  rintro e w21 ⟨x79, rfl, hx21, hres, hs21⟩
  have hr := hdir rfl
  generalize rec D.items names' (L ++ [(⟨vk names', true, []⟩ : Fil)]) = Z at *
  refine ⟨(x79, Z.2), rfl, ?_⟩
  have hx021 : Ext (xu out) H w21.heap := hx020.own hx21 (fun c hc hlt => by
   rcases ho20 c hc with h | h
   ·exact h
   ·omega)
  have ho21 : ∀ c ∈ xu x79, c ∈ xu out ∨ H.size ≤ c := fun c hc => by
   rcases hs21 c hc with h | h
   ·exact ho20 c h
   ·right; omega
  refine zb5 (fun h => ?_) (fun h => ?_)
  ·have h : Z.2 ≠ 0 := h
   rw [if_pos h] at hr
   refine ⟨(none, 0, 0), by rw [hr]; rfl, hx021, fun h0 => ?_, by simp [xu]⟩
   rw [hr] at h0; exact absurd h0 h
  ·have h : Z.2 = 0 := h
   rw [if_neg (by simpa using h)] at hr
   exact ⟨Z.1, hr.symm, hx021, (hres h).1, (hres h).2, ho21⟩
theorem bFd (s : ByteArray) (b : Bool) (w : World) : (Instr.build zl #[(0, .string s), (1, .bool b)]).run P w = .ok (.agg #[.string s, .bool b, .string .empty]) w := by kernel_rfl
theorem qko {i : Itm} : (zfk i).toArray.extract 2 34 = (Bl.zf3 i.sum).toArray := by
 apply Array.toList_inj.1
 have := Bl.zd8 i.sum
 simp [zfk, List.take_of_length_le, this]
theorem stF {w : World} {H : Heap} {b : Nat} {c : Array Value} {T : TypeId} (f : Fil) (hw : w.heap = H) (hb : H[b]? = some (.cells c T (0, 0))) (hs : c.size = 3) {K : World → Prop}
  (hK : ∀ w', w'.heap = H.setIfInBounds b (.cells (zbo f).toArray T (0, 0)) → K w') : zbn P (storeVar zl (⟨b, 0, none⟩ : Addr) (.agg (zbo f).toArray)) w K := by
 refine zbf (v := .agg (zbo f).toArray) (by rw [szF]; rfl) (by simp [Value.cells, zbo]) (by simpa [Value.cells] using zwg) hw hb (by rw [hs]; simp [Value.cells, zbo]) fun w5 hw5 => hK w5 ?_
 rw [zam (by rw [hs]; simp [Value.cells, zbo])] at hw5
 simpa [Value.cells] using hw5
def gV (r : Bl.SM) (k : List UInt8) (kind : Int) : Nod × Int := zt1 (Bl.zax r k) k kind
set_option maxHeartbeats 4000000 in
theorem qkt {H : Heap} {B : Nat} {out : Option Addr × Nat × Nat} {res : List Fil × Int} {fp : List Nat} {p : Nat} {q : Int} {r : Bl.SM} {c : Nat} {rec : List Itm → Path → List Fil → List Fil × Int} {names : Path} {it : Itm} {its : List Itm} {y28 o : Option Addr × Nat × Nat} {b11 : Nat} {L : List Fil} {w : World} {next : List Fil → List Fil × Int}
  (hS : Bl.Store w.heap fp p q r c) (hR : Bl.Rounds w.heap) (hfp : ∀ b ∈ fp, b < B) (hB0 : 0 < B) (hBs : B ≤ H.size) (hlen : ∀ k L, Bl.zax r k = some L → L.length < 1099511627776)
  (hx : Ext (xu out) H w.heap) (h11 : w.heap[b11]? = some (.cells (zfk it).toArray qj (0, 0))) (h32 : it.sum.length = 32) (hno : b11 ∉ xu o) (hsm : tlen (names ++ [it.name]) + (names ++ [it.name]).length ≤ 1099511627776)
  (hY : Mine w.heap B qx 1 y28 (strRow (names ++ [it.name])))
  (hO : Mine w.heap B zl 3 o (L.flatMap zbo)) (hL : L.length ≤ 512) (hoo : ∀ c ∈ xu o, c ∈ xu out ∨ H.size ≤ c)
  (hnx : next = zlf (gV r) (zfo r) rec names its) (hres : res = zlf (gV r) (zfo r) rec names (it :: its) L)
  (hrec : names.length + 1 ≤ 8 → ∀ {w2 : World} {o2 : Option Addr × Nat × Nat} {D : Nod} {yp yi : Option Addr × Nat × Nat} {L2 : List Fil}, Bl.Store w2.heap fp p q r c → Bl.Rounds w2.heap → B ≤ w2.heap.size → NodM w2.heap B D yp yi → D.items.length ≤ 65 → (∀ i ∈ D.items, i.name.length ≤ 16) → Mine w2.heap B qx 1 y28 (strRow (names ++ [it.name])) → Mine w2.heap B zl 3 o2 (L2.flatMap zbo) → L2.length ≤ 512 →
   qg P zbu #[.pointer (some ⟨p, 0, none⟩), .agg (zdv D yp yi).toArray, .slice y28.1 y28.2.1 y28.2.2, .slice o2.1 o2.2.1 o2.2.2] w2 (zdz w2.heap B o2 (rec D.items (names ++ [it.name]) L2))) :
  xk ((o.2.1 : Int) == 512) (
  zdz H B out res (.returned (Value.tuple #[(Value.slice none 0 0), (Value.int .i64 8)])) w) (
  xk (decide ((y28.2.1 : Int) > 8)) (
  zdz H B out res (.returned (Value.tuple #[(Value.slice none 0 0), (Value.int .i64 42)])) w) (
  ldA P 32 (⟨b11, 2, none⟩ : Addr) w fun t40 =>
  ld (.int .i64) (⟨b11, 1, none⟩ : Addr) w fun (t42 : Int) =>
  qp P zh0 #[(Value.pointer (some ⟨p, 0, none⟩)), (Value.agg t40), (Value.int .i64 t42)] [.any, .int .i64] true w fun (t43 : (Value × Int)) w_9 =>
  zbi (zc P zi) zi w_9 fun b13 w_10 =>
  zbn P (storeVar zi (⟨b13, 0, none⟩ : Addr) t43.1) w_10 fun w_11 =>
  xk (t43.2 != 0) (
  zdz H B out res (.returned (Value.tuple #[(Value.slice none 0 0), (Value.int .i64 t43.2)])) w_11) (
  zbj w_11 fun w_12 =>
  ld (.int .i64) (⟨b11, 1, none⟩ : Addr) w_12 fun (t52 : Int) =>
  ((qp P zb0 #[(Value.slice y28.1 y28.2.1 y28.2.2)] [.str] false w_12 fun (t50 : ByteArray) w_13 =>
  ((ld (.int .i64) (⟨b11, 1, none⟩ : Addr) w_13 fun (t52_1 : Int) =>
  (Value.int .i64 t52_1) = (Value.int .i64 t52)) ∧
  za0 P (Instr.build zl #[(0, (Value.string t50)), (1, (Value.bool (t52 == 3)))]) .any w_13 fun (t54 : Value) =>
  zbi (zc P zl) zl w_13 fun b15 w_14 =>
  ((za0 P (Instr.build zl #[(0, (Value.string t50)), (1, (Value.bool (t52 == 3)))]) .any w_14 fun (t54_1 : Value) =>
  t54_1 = t54) ∧
  ((ld (.int .i64) (⟨b11, 1, none⟩ : Addr) w_14 fun (t52_2 : Int) =>
  (Value.int .i64 t52_2) = (Value.int .i64 t52)) ∧
  zbn P (storeVar zl (⟨b15, 0, none⟩ : Addr) t54) w_14 fun w_15 =>
  Go.Fw.joinP Unit (fun k_2 =>
  ld .bool (⟨b15, 1, none⟩ : Addr) w_15 fun (t56 : Bool) =>
  xk (!t56) (
  ldA P 5 (⟨b13, 0, none⟩ : Addr) w_15 fun t60 =>
  qp P zbt #[(Value.pointer (some ⟨p, 0, none⟩)), (Value.agg t60)] [.str, .int .i64] true w_15 fun (t61 : (ByteArray × Int)) w_16 =>
  stC (⟨b15, 2, none⟩ : Addr) (Value.string t61.1) w_16 fun w_17 =>
  xk (t61.2 != 0) (
  zdz H B out res (.returned (Value.tuple #[(Value.slice none 0 0), (Value.int .i64 t61.2)])) w_17) (
  k_2 () w_17)) (
  k_2 () w_15)) (fun _ w_18 =>
  ldA P 3 (⟨b15, 0, none⟩ : Addr) w_18 fun t69 =>
  zan P (Instr.buildSlice zo 1 #[(0, (Value.agg t69))]) .slc w_18 fun (t70 : (Option Addr × Nat × Nat)) w_19 =>
  zan P (Builtin.append_ #[zo, zo] zo #[(Value.slice o.1 o.2.1 o.2.2), (Value.slice t70.1 t70.2.1 t70.2.2)]) .slc w_19 fun (t71 : (Option Addr × Nat × Nat)) w_20 =>
  ld .bool (⟨b15, 1, none⟩ : Addr) w_20 fun (t73 : Bool) =>
  xk t73 (
  ldA P 5 (⟨b13, 0, none⟩ : Addr) w_20 fun t76 =>
  qp P zbu #[(Value.pointer (some ⟨p, 0, none⟩)), (Value.agg t76), (Value.slice y28.1 y28.2.1 y28.2.2), (Value.slice t71.1 t71.2.1 t71.2.2)] [.slc, .int .i64] true w_20 fun (t79 : ((Option Addr × Nat × Nat) × Int)) w_21 =>
  xk (t79.2 != 0) (
  zdz H B out res (.returned (Value.tuple #[(Value.slice none 0 0), (Value.int .i64 t79.2)])) w_21) (
  zoi H B out res next (t79.1.1, t79.1.2.1, t79.1.2.2) w_21)) (
  zoi H B out res next (t71.1, t71.2.1, t71.2.2) w_20)))))) ∧
  (zbi (zc P zl) zl w_12 fun b15_1 w_22 =>
  ((ld (.int .i64) (⟨b11, 1, none⟩ : Addr) w_22 fun (t52_3 : Int) =>
  (Value.int .i64 t52_3) = (Value.int .i64 t52)) ∧
  qp P zb0 #[(Value.slice y28.1 y28.2.1 y28.2.2)] [.str] false w_22 fun (t50_1 : ByteArray) w_23 =>
  ((ld (.int .i64) (⟨b11, 1, none⟩ : Addr) w_23 fun (t52_4 : Int) =>
  (Value.int .i64 t52_4) = (Value.int .i64 t52)) ∧
  za0 P (Instr.build zl #[(0, (Value.string t50_1)), (1, (Value.bool (t52 == 3)))]) .any w_23 fun (t54_2 : Value) =>
  zbn P (storeVar zl (⟨b15_1, 0, none⟩ : Addr) t54_2) w_23 fun w_24 =>
  Go.Fw.joinP Unit (fun k_3 =>
  ld .bool (⟨b15_1, 1, none⟩ : Addr) w_24 fun (t56_1 : Bool) =>
  xk (!t56_1) (
  ldA P 5 (⟨b13, 0, none⟩ : Addr) w_24 fun t60_1 =>
  qp P zbt #[(Value.pointer (some ⟨p, 0, none⟩)), (Value.agg t60_1)] [.str, .int .i64] true w_24 fun (t61_1 : (ByteArray × Int)) w_25 =>
  stC (⟨b15_1, 2, none⟩ : Addr) (Value.string t61_1.1) w_25 fun w_26 =>
  xk (t61_1.2 != 0) (
  zdz H B out res (.returned (Value.tuple #[(Value.slice none 0 0), (Value.int .i64 t61_1.2)])) w_26) (
  k_3 () w_26)) (
  k_3 () w_24)) (fun _ w_27 =>
  ldA P 3 (⟨b15_1, 0, none⟩ : Addr) w_27 fun t69_1 =>
  zan P (Instr.buildSlice zo 1 #[(0, (Value.agg t69_1))]) .slc w_27 fun (t70_1 : (Option Addr × Nat × Nat)) w_28 =>
  zan P (Builtin.append_ #[zo, zo] zo #[(Value.slice o.1 o.2.1 o.2.2), (Value.slice t70_1.1 t70_1.2.1 t70_1.2.2)]) .slc w_28 fun (t71_1 : (Option Addr × Nat × Nat)) w_29 =>
  ld .bool (⟨b15_1, 1, none⟩ : Addr) w_29 fun (t73_1 : Bool) =>
  xk t73_1 (
  ldA P 5 (⟨b13, 0, none⟩ : Addr) w_29 fun t76_1 =>
  qp P zbu #[(Value.pointer (some ⟨p, 0, none⟩)), (Value.agg t76_1), (Value.slice y28.1 y28.2.1 y28.2.2), (Value.slice t71_1.1 t71_1.2.1 t71_1.2.2)] [.slc, .int .i64] true w_29 fun (t79_1 : ((Option Addr × Nat × Nat) × Int)) w_30 =>
  xk (t79_1.2 != 0) (
  zdz H B out res (.returned (Value.tuple #[(Value.slice none 0 0), (Value.int .i64 t79_1.2)])) w_30) (
  zoi H B out res next (t79_1.1.1, t79_1.1.2.1, t79_1.1.2.2) w_30)) (
  zoi H B out res next (t71_1.1, t71_1.2.1, t71_1.2.2) w_29))))))))) := by
 have hol : o.2.1 = L.length := by have := hO.len; rw [qd9] at this; omega
 have hyl : y28.2.1 = names.length + 1 := by have := hY.len; simp at this; omega
 have bad : ∀ {W : World} {code : Int}, res = ([], code) → code ≠ 0 → Ext (xu out) H W.heap → zdz H B out res (.returned (.tuple #[.slice none 0 0, .int .i64 code])) W := by
  intro W code hr hc hxW
  refine ⟨(none, 0, 0), by rw [hr]; rfl, hxW, fun h0 => ?_, by simp [xu]⟩
  rw [hr] at h0; exact absurd h0 hc
 rw [zlf] at hres
 refine zbv (fun h => ?_) (fun h => ?_)
 ·exact bad (by rw [hres, if_pos (by omega)]) (by decide) hx
 rw [if_neg (by omega)] at hres
 refine zq (fun h8 => ?_) (fun h8 => ?_)
 ·exact bad (by rw [hres, if_pos (by omega)]) (by decide) hx
 rw [if_neg (by omega)] at hres
 refine zuy rfl h11 (by simp [zay]) ?_
 rw [qko, Bl.zgy h32]
 refine jh (s := .int .i64) (t := it.kind) rfl h11 rfl ?_
 refine zk (qeb (k := it.sum) (kind := it.kind) rfl hS h32 hR (hlen it.sum)) ?_
 rintro e w9 ⟨yp, yi, rfl, hN9, hx9⟩
 refine ⟨(.agg (zdv (gV r it.sum it.kind).1 yp yi).toArray, (gV r it.sum it.kind).2), rfl, ?_⟩
 have hit := z1p (v := Bl.zax r it.sum) (k := it.sum) (kind := it.kind)
 change NodM w9.heap w.heap.size (gV r it.sum it.kind).1 yp yi at hN9
 change (gV r it.sum it.kind).1.items.length ≤ 65 ∧ (∀ i ∈ (gV r it.sum it.kind).1.items, i.name.length ≤ 16) ∧ (gV r it.sum it.kind).1.size ≤ 1025 ∧ 0 ≤ (gV r it.sum it.kind).1.size ∧ (gV r it.sum it.kind).1.parts.length ≤ 65536 at hit
 generalize gV r it.sum it.kind = D at *
 refine qg2 D.1 yp yi rfl fun w11 hw11 => ?_
 have hx11 : Ext [] w9.heap w11.heap := by rw [hw11]; exact .push _
 have h13 : w11.heap[w9.heap.size]? = some (.cells (zdv D.1 yp yi).toArray zi (0, 0)) := by rw [hw11]; exact zn
 have hxw11 := hx9.trans hx11
 have sH := hx.1
 have s9 := hx9.1
 refine zb5 (fun h => ?_) (fun h => ?_)
 ·have h : D.2 ≠ 0 := h
  exact bad (by rw [hres, if_pos h]) h (hx.trans (hxw11.mono (by simp)))
 have h : D.2 = 0 := h
 rw [if_neg (by simpa using h)] at hres
 refine vg rfl fun w12 hw12 => ?_
 rw [← hw12] at hx11 hxw11 h13
 have k11 := hxw11.get h11 (by simp)
 refine jh (s := .int .i64) (t := it.kind) rfl k11 rfl ?_
 have tail : ∀ {w15 : World} {b15 : Nat}, Ext [] w12.heap w15.heap → w12.heap.size ≤ b15 → w15.heap[b15]? = some (.cells (zbo ⟨vk (names ++ [it.name]), it.kind == 3, []⟩).toArray zl (0, 0)) → Go.Fw.joinP Unit (fun k_2 =>
  ld .bool (⟨b15, 1, none⟩ : Addr) w15 fun (t56 : Bool) =>
  xk (!t56) (
  ldA P 5 (⟨w9.heap.size, 0, none⟩ : Addr) w15 fun t60 =>
  qp P zbt #[(Value.pointer (some ⟨p, 0, none⟩)), (Value.agg t60)] [.str, .int .i64] true w15 fun (t61 : (ByteArray × Int)) w_16 =>
  stC (⟨b15, 2, none⟩ : Addr) (Value.string t61.1) w_16 fun w_17 =>
  xk (t61.2 != 0) (
  zdz H B out res (.returned (Value.tuple #[(Value.slice none 0 0), (Value.int .i64 t61.2)])) w_17) (
  k_2 () w_17)) (
  k_2 () w15)) (fun _ w_18 =>
  ldA P 3 (⟨b15, 0, none⟩ : Addr) w_18 fun t69 =>
  zan P (Instr.buildSlice zo 1 #[(0, (Value.agg t69))]) .slc w_18 fun (t70 : (Option Addr × Nat × Nat)) w_19 =>
  zan P (Builtin.append_ #[zo, zo] zo #[(Value.slice o.1 o.2.1 o.2.2), (Value.slice t70.1 t70.2.1 t70.2.2)]) .slc w_19 fun (t71 : (Option Addr × Nat × Nat)) w_20 =>
  ld .bool (⟨b15, 1, none⟩ : Addr) w_20 fun (t73 : Bool) =>
  xk t73 (
  ldA P 5 (⟨w9.heap.size, 0, none⟩ : Addr) w_20 fun t76 =>
  qp P zbu #[(Value.pointer (some ⟨p, 0, none⟩)), (Value.agg t76), (Value.slice y28.1 y28.2.1 y28.2.2), (Value.slice t71.1 t71.2.1 t71.2.2)] [.slc, .int .i64] true w_20 fun (t79 : ((Option Addr × Nat × Nat) × Int)) w_21 =>
  xk (t79.2 != 0) (
  zdz H B out res (.returned (Value.tuple #[(Value.slice none 0 0), (Value.int .i64 t79.2)])) w_21) (
  zoi H B out res next (t79.1.1, t79.1.2.1, t79.1.2.2) w_21)) (
  zoi H B out res next (t71.1, t71.2.1, t71.2.2) w_20)) := by
  intro w15 b15 hx15 hb15 h15
  have hx015 := hxw11.trans hx15
  have s12 := hxw11.1
  refine qlu (rec := rec) (names' := names ++ [it.name]) (d := it.kind == 3) (D := D.1) (L := L) (hS.ext hx015 (by simp)) (hR.ext hx015 (by simp)) hfp hB0 hBs hlen (hx.trans (hx015.mono (by simp))) (hx15.get h13 (by simp)) h15 (by omega) (by omega)
   (fun hc => by have := (za7 hO _ hc).1; omega) (fun hc => by have := (za7 hO _ hc).1; omega) (((hN9.ext hx11 (by simp)).ext hx15 (by simp)).mono (by omega)) hit.2.2.2.2 hit.2.2.2.1 hit.2.2.1 (hY.ext hx015 (by simp)) (hO.ext hx015 (by simp)) (by omega) hoo ?_ ?_ ?_
  ·intro hd
   have hd : it.kind = 3 := by simpa using hd
   rw [hres, if_pos hd, hnx]
  ·intro hd
   have hd : it.kind ≠ 3 := by simpa using hd
   rw [hres, if_neg hd, hnx]
  ·intro _ w2 o2 hx2 hm2 ho2 hD2 hY2
   have hx12 := hx015.1
   refine hrec (by omega) ((hS.ext hx015 (by simp)).ext hx2 fun b hb h => ?_) ((hR.ext hx015 (by simp)).ext hx2 fun h => ?_) (by have := hx2.1; omega) hD2 hit.1 hit.2.1 hY2 hm2 (by simp; omega)
   ·have := jc hO b h; have := hfp b hb; omega
   ·have := jc hO 0 h; omega
 have re : ∀ {W' : World}, Ext [] w12.heap W'.heap → ld (.int .i64) (⟨b11, 1, none⟩ : Addr) W' fun z => Value.int .i64 z = Value.int .i64 it.kind := fun h => jh (s := .int .i64) (o := 1) (t := it.kind) (K := fun z => Value.int .i64 z = Value.int .i64 it.kind) rfl (h.get k11 (by simp)) rfl rfl
 have hb : ∀ W, (Instr.build zl #[(0, .string (strOf (vk (names ++ [it.name])))), (1, .bool (it.kind == 3))]).run P W = .ok (.agg (zbo ⟨vk (names ++ [it.name]), it.kind == 3, []⟩).toArray) W := fun W => bFd _ _ W
 have hY12 := hY.ext hxw11 (by simp)
 have hyl2 : y28.2.1 = (names ++ [it.name]).length := by simp; omega
 refine ⟨?_, ?_⟩
 ·refine zk (z1f (p := names ++ [it.name]) rfl hY12.cells hyl2 (zib hY12) hsm) ?_
  rintro e w13 ⟨rfl, hx13⟩
  refine ⟨strOf (vk (names ++ [it.name])), rfl, re hx13, ?_⟩
  refine xg (s := .any) _ (hb _) ?_
  refine jw rfl fun w14 hw14 => ?_
  have hx14 : Ext [] w13.heap w14.heap := by rw [hw14]; exact .push _
  have h14 : w14.heap[w13.heap.size]? = some (.cells (zc P zl) zl (0, 0)) := by rw [hw14]; exact zn
  refine ⟨xg (s := .any) _ (hb _) rfl, re (hx13.trans hx14), ?_⟩
  refine stF ⟨vk (names ++ [it.name]), it.kind == 3, []⟩ rfl h14 zcF fun w15 hw15 => ?_
  have s13 := hx13.1
  have hx15 : Ext [w13.heap.size] w14.heap w15.heap := by rw [hw15]; exact Ext.set _ (by simp)
  exact tail ((hx13.trans hx14).own hx15 (fun c hc hlt => by simp at hc; omega)) s13 (by rw [hw15]; exact qm h14)
 ·refine jw rfl fun w22 hw22 => ?_
  have hx22 : Ext [] w12.heap w22.heap := by rw [hw22]; exact .push _
  have h22 : w22.heap[w12.heap.size]? = some (.cells (zc P zl) zl (0, 0)) := by rw [hw22]; exact zn
  refine ⟨re hx22, ?_⟩
  have hY22 := hY12.ext hx22 (by simp)
  refine zk (z1f (p := names ++ [it.name]) rfl hY22.cells hyl2 (zib hY22) hsm) ?_
  rintro e w23 ⟨rfl, hx23⟩
  refine ⟨strOf (vk (names ++ [it.name])), rfl, re (hx22.trans hx23), ?_⟩
  refine xg (s := .any) _ (hb _) ?_
  have h23 := hx23.get h22 (by simp)
  refine stF ⟨vk (names ++ [it.name]), it.kind == 3, []⟩ rfl h23 zcF fun w24 hw24 => ?_
  have hx24 : Ext [w12.heap.size] w23.heap w24.heap := by rw [hw24]; exact Ext.set _ (by simp)
  exact tail ((hx22.trans hx23).own hx24 (fun c hc hlt => by simp at hc; omega)) (Nat.le_refl _) (by rw [hw24]; exact qm h23)
set_option maxHeartbeats 8000000 in
theorem qlf {fp : List Nat} {p : Nat} {q : Int} {r : Bl.SM} {c : Nat} {B : Nat} (hfp : ∀ b ∈ fp, b < B) (hB0 : 0 < B) (hlen : ∀ k L, Bl.zax r k = some L → L.length < 1099511627776) : ∀ (f : Nat) {w : World} {H : Heap} {n : Nod} {xp xi nx out : Option Addr × Nat × Nat} {names : Path} {L : List Fil}, w.heap = H → Bl.Store H fp p q r c → Bl.Rounds H → B ≤ H.size → NodM H B n xp xi → n.items.length ≤ 65 → (∀ i ∈ n.items, i.name.length ≤ 16) →
  Mine H B qx 1 nx (strRow names) → (∀ x ∈ names, x.length ≤ 16) → names.length + f = 9 → names.length ≤ 8 → Mine H B zl 3 out (L.flatMap zbo) → L.length ≤ 512 →
  qg P zbu #[.pointer (some ⟨p, 0, none⟩), .agg (zdv n xp xi).toArray, .slice nx.1 nx.2.1 nx.2.2, .slice out.1 out.2.1 out.2.2] w (zdz H B out (zro (gV r) (zfo r) f n.items names L)) := by
 intro f
 induction f with
 | zero => intro w H n xp xi nx out names L _ _ _ _ _ _ _ _ _ h1 h2 _ _; omega
 | succ f ih =>
 intro w H n xp xi nx out names L hw hS hR hBs hN hil hinm hM hnm hf h8 hO hL
 refine z5y ?_
 unfold zra
 refine jw hw fun w1 hw1 => ?_
 have hx1 : Ext [] H w1.heap := by rw [hw1]; exact .push _
 have hb1 : w1.heap[H.size]? = some (.cells (zdv n xp xi).toArray zi (0, 0)) := by rw [hw1]; exact zn
 have s1 := lt_of_get hb1
 refine jh (s := .slc) (t := xi) rfl hb1 rfl ?_
 have hxil : xi.2.1 = n.items.length := hN.nodW.ilen
 rw [zro]
 generalize hrs : zlf (gV r) (zfo r) (zro (gV r) (zfo r) f) names n.items L = res
 refine jd (fun (s : (Option Addr × Nat × Nat) × Int) W => ∃ (i : Nat) (Lc : List Fil), s.2 = (i : Int) ∧ i ≤ n.items.length ∧ zlf (gV r) (zfo r) (zro (gV r) (zfo r) f) names (n.items.drop i) Lc = res ∧ Ext (xu out) H W.heap ∧ Mine W.heap B zl 3 s.1 (Lc.flatMap zbo) ∧ Lc.length ≤ 512 ∧ (∀ c ∈ xu s.1, c ∈ xu out ∨ H.size ≤ c)) (fun s _ => (n.items.length - s.2).toNat)
  ⟨0, L, rfl, Nat.zero_le _, hrs, hx1.mono (by simp), hO.ext hx1 (by simp), hL, fun c hc => .inl hc⟩ ?_
 rintro ⟨o, _⟩ W ⟨i, Lc, rfl, hi, hres, hx, hmo, hLc, hoo⟩
 simp only at hmo hoo
 have sW := hx.1
 refine zq (fun hlt => ?_) (fun hge => ?_)
 ·have hilt : i < n.items.length := by simp only at hlt; omega
  have hget := List.getElem?_eq_getElem hilt
  have hmem : n.items[i] ∈ n.items := List.getElem_mem hilt
  rw [List.drop_eq_getElem_cons hilt] at hres
  generalize n.items[i] = it at hget hmem hres
  have h32 := hN.i32 _ hmem
  have h16 := hinm _ hmem
  refine Go.Fw.joinP_of (zoi H B out res (zlf (gV r) (zfo r) (zro (gV r) (zfo r) f) names (n.items.drop (i + 1)))) ?_ ?_
  rotate_left
  ·rintro s' W' ⟨L', g1, g2, g3, g4, g5⟩
   refine xw ((i + 1 : Nat) : Int) (by simp) (by omega) (by omega) ?_
   exact ⟨⟨i + 1, L', rfl, by omega, g1, g2, g3, g4, g5⟩, by simp only; omega⟩
  have hNW := hN.items.ext hx (zg1 hN.items hO (by decide))
  have hMW := hM.ext hx (zg1 hM hO (by decide))
  have hSW := hS.ext hx (fun b hb h => by have := jc hO b h; have := hfp b hb; omega)
  have hRW := hR.ext hx (fun h => by have := jc hO 0 h; omega)
  refine zkm (i := i) zay (by omega) rfl hNW.cells hxil hget rfl ?_
  refine qlv it rfl fun w4 hw4 => ?_
  have hx4 : Ext [] W.heap w4.heap := by rw [hw4]; exact .push _
  have hb4 : w4.heap[W.heap.size]? = some (.cells (zfk it).toArray qj (0, 0)) := by rw [hw4]; exact zn
  refine vg rfl fun w5 hw5 => ?_
  rw [← hw5] at hx4 hb4
  have s4 := hx4.1
  refine jh (s := .str) (t := strOf it.name) rfl hb4 rfl ?_
  have hM5 := hMW.ext hx4 (by simp)
  have hsm : tlen (names ++ [it.name]) + (names ++ [it.name]).length ≤ 1099511627776 := by
   have : ∀ (l : Path), (∀ x ∈ l, x.length ≤ 16) → tlen l ≤ 16 * l.length := by
    intro l
    induction l with
    | nil => intro _; simp [tlen]
    | cons x l ihl =>
     intro h
     have h1 := h x (by simp)
     have h2 := ihl fun y hy => h y (by simp [hy])
     simp only [tlen, List.map_cons, List.sum_cons, List.length_cons] at *
     omega
   have h2 := this (names ++ [it.name]) (fun x hx => by
    rcases List.mem_append.1 hx with h | h
    ·exact hnm x h
    ·simp at h; subst h; exact h16)
   simp only [List.length_append, List.length_singleton] at *
   omega
  have mid : ∀ {w8 : World} {y28 : Option Addr × Nat × Nat}, Ext [] w5.heap w8.heap → Mine w8.heap B qx 1 y28 (strRow (names ++ [it.name])) → Bl.Store w8.heap fp p q r c → True := fun _ _ _ => trivial
  have hyp : ∀ {w8 : World}, Ext [] w5.heap w8.heap → Ext (xu out) H w8.heap := fun h => hx.trans ((hx4.trans h).mono (by simp))
  have recur : ∀ {y28 : Option Addr × Nat × Nat}, names.length + 1 ≤ 8 → ∀ {w2 : World} {o2 : Option Addr × Nat × Nat} {D : Nod} {yp yi : Option Addr × Nat × Nat} {L2 : List Fil}, Bl.Store w2.heap fp p q r c → Bl.Rounds w2.heap → B ≤ w2.heap.size → NodM w2.heap B D yp yi → D.items.length ≤ 65 → (∀ i ∈ D.items, i.name.length ≤ 16) → Mine w2.heap B qx 1 y28 (strRow (names ++ [it.name])) → Mine w2.heap B zl 3 o2 (L2.flatMap zbo) → L2.length ≤ 512 →
   qg P zbu #[.pointer (some ⟨p, 0, none⟩), .agg (zdv D yp yi).toArray, .slice y28.1 y28.2.1 y28.2.2, .slice o2.1 o2.2.1 o2.2.2] w2 (zdz w2.heap B o2 (zro (gV r) (zfo r) f D.items (names ++ [it.name]) L2)) := by
   intro y28 hl8 w2 o2 D yp yi L2 a1 a2 a3 a4 a5 a6 a7 a8 a9
   exact ih rfl a1 a2 a3 a4 a5 a6 a7 (fun x hx => by
    rcases List.mem_append.1 hx with h | h
    ·exact hnm x h
    ·simp at h; subst h; exact h16) (by simp; omega) (by simp; omega) a8 a9
  refine ⟨?_, ?_⟩
  ·refine zk (qbq rfl hM5 (by omega)) ?_
   rintro e w6 ⟨y, rfl, hm6, hx6⟩
   refine ⟨y, rfl, jh (s := .str) (o := 0) (t := strOf it.name) (K := fun z => Value.string z = Value.string (strOf it.name)) rfl (hx6.get hb4 (by simp)) rfl rfl, ?_⟩
   refine qi4 it.name rfl fun a7 w7 hx7 hc7 => ?_
   refine qkn (ys := [it.name]) rfl (hm6.ext hx7 (by simp)) (by have := hx7.1; have := hx6.1; omega) hc7 rfl (by simp; omega) fun y28 w8 hm8 hx8 => ?_
   have g6 := jc hm6
   have hx58 : Ext [] w5.heap w8.heap := (hx6.trans hx7).own hx8 (fun c hc hlt => by have := g6 c hc; omega)
   have hxW8 := hx4.trans hx58
   exact qkt (rec := zro (gV r) (zfo r) f) (names := names) (it := it) (its := n.items.drop (i + 1)) (L := Lc) (hSW.ext hxW8 (by simp)) (hRW.ext hxW8 (by simp)) hfp hB0 hBs hlen (hyp hx58) (hx58.get hb4 (by simp)) h32 (fun hc => by have := (za7 hmo _ hc).1; omega) hsm (hm8.mono (by omega)) (hmo.ext hxW8 (by simp)) hLc hoo rfl hres.symm recur
  ·refine qi4 it.name rfl fun a7 w7 hx7 hc7 => ?_
   refine zk (qbq rfl (hM5.ext hx7 (by simp)) (by omega)) ?_
   rintro e w6 ⟨y, rfl, hm6, hx6⟩
   refine ⟨y, rfl, jh (s := .str) (o := 0) (t := strOf it.name) (K := fun z => Value.string z = Value.string (strOf it.name)) rfl ((hx7.trans hx6).get hb4 (by simp)) rfl rfl, ?_⟩
   refine qkn (ys := [it.name]) rfl hm6 (by have := hx6.1; omega) (hc7.ext hx6 (by simp)) rfl (by simp; omega) fun y28 w8 hm8 hx8 => ?_
   have g6 := jc hm6
   have s7 := hx7.1
   have hx58 : Ext [] w5.heap w8.heap := (hx7.trans hx6).own hx8 (fun c hc hlt => by have := g6 c hc; omega)
   have hxW8 := hx4.trans hx58
   exact qkt (rec := zro (gV r) (zfo r) f) (names := names) (it := it) (its := n.items.drop (i + 1)) (L := Lc) (hSW.ext hxW8 (by simp)) (hRW.ext hxW8 (by simp)) hfp hB0 hBs hlen (hyp hx58) (hx58.get hb4 (by simp)) h32 (fun hc => by have := (za7 hmo _ hc).1; omega) hsm (hm8.mono (by omega)) (hmo.ext hxW8 (by simp)) hLc hoo rfl hres.symm recur
 ·obtain rfl : i = n.items.length := by simp only at hge; omega
  rw [List.drop_length, zlf] at hres
  exact ⟨o, by rw [← hres]; rfl, hx, fun _ => by rw [← hres]; exact ⟨hmo, hLc⟩, hoo⟩
def qdk (r : Bl.SM) (root : List UInt8) : List Fil × Int := if (gV r root 3).2 ≠ 0 then ([], (gV r root 3).2) else zro (gV r) (zfo r) 9 (gV r root 3).1.items [] []
set_option maxHeartbeats 2000000 in
theorem qjn {w : World} {H : Heap} {fp : List Nat} {p : Nat} {q : Int} {r : Bl.SM} {c : Nat} {root : List UInt8} (hw : w.heap = H) (hS : Bl.Store H fp p q r c) (hR : Bl.Rounds H) (hfp : ∀ b ∈ fp, b < H.size) (h32 : root.length = 32) (hlen : ∀ k L, Bl.zax r k = some L → L.length < 1099511627776) :
  qg P zsa #[.pointer (some ⟨p, 0, none⟩), arr root] w fun e w' => ∃ x', e = .returned (.tuple #[zc9 x', .int .i64 (qdk r root).2]) ∧ Ext [] H w'.heap ∧ ((qdk r root).2 = 0 → Mine w'.heap H.size zl 3 x' ((qdk r root).1.flatMap zbo)) := by
 have hH0 : 0 < H.size := by obtain ⟨_, _, _, h, _⟩ := hR; exact lt_of_get h
 refine z7a ?_
 unfold zrt
 rw [show (arr root).cells = (byteCells root).toArray from rfl]
 refine jw hw fun w1 hw1 => ?_
 have hx1 : Ext [] H w1.heap := by rw [hw1]; exact .push _
 have hb1 : w1.heap[H.size]? = some (.cells (byteCells root).toArray zf (0, 0)) := by rw [hw1]; exact zn
 have s1 := lt_of_get hb1
 refine jl rfl ?_
 refine jf rfl hb1 (by simp [h32]) ?_
 refine zk (qeb (k := root) (kind := 3) rfl (hS.ext hx1 (by simp)) h32 (hR.ext hx1 (by simp)) (hlen root)) ?_
 rintro e w2 ⟨yp, yi, rfl, hN2, hx2⟩
 refine ⟨(.agg (zdv (gV r root 3).1 yp yi).toArray, (gV r root 3).2), rfl, ?_⟩
 have hit := z1p (v := Bl.zax r root) (k := root) (kind := 3)
 have hN2 : NodM w2.heap w1.heap.size (gV r root 3).1 yp yi := hN2
 have hit1 : (gV r root 3).1.items.length ≤ 65 := hit.1
 have hit2 : ∀ i ∈ (gV r root 3).1.items, i.name.length ≤ 16 := hit.2.1
 unfold qdk
 generalize gV r root 3 = D at *
 refine qg2 D.1 yp yi rfl fun w4 hw4 => ?_
 have hx4 : Ext [] w2.heap w4.heap := by rw [hw4]; exact .push _
 have hb4 : w4.heap[w2.heap.size]? = some (.cells (zdv D.1 yp yi).toArray zi (0, 0)) := by rw [hw4]; exact zn
 have hx04 := (hx1.trans hx2).trans hx4
 refine zb5 (fun h => ?_) (fun h => ?_)
 ·have h : D.2 ≠ 0 := h
  rw [if_pos h]
  exact ⟨(none, 0, 0), rfl, hx04, fun h0 => absurd h0 h⟩
 have h : D.2 = 0 := h
 rw [if_neg (by simpa using h)]
 refine jf rfl hb4 rfl ?_
 have s2 := hx2.1
 refine zk (qlf (B := H.size) (nx := (none, 0, 0)) (out := (none, 0, 0)) (names := []) (L := []) hfp hH0 hlen 9 rfl (hS.ext hx04 (by simp)) (hR.ext hx04 (by simp)) hx04.1 ((hN2.ext hx4 (by simp)).mono (by omega)) hit1 hit2 (.inl ⟨rfl, rfl⟩) (by simp) rfl (by simp) (.inl ⟨rfl, rfl⟩) (by simp)) ?_
 rintro e w5 ⟨x', rfl, hx5, hres, _⟩
 refine ⟨(x', _), rfl, ?_⟩
 exact ⟨x', rfl, hx04.trans (hx5.mono (by simp [xu])), fun h0 => (hres h0).1⟩
def fB : Fil := ⟨[47, 98], false, []⟩
def fF : Fil := ⟨[47, 97, 47, 102], false, [104, 105]⟩
def fA : Fil := ⟨[47, 97], true, []⟩
theorem qnz : zbd fB.path = ([[98]], 0) := by decide +kernel
theorem qnw : zbd fF.path = ([[97], [102]], 0) := by decide +kernel
theorem qns : zbd fA.path = ([[97]], 0) := by decide +kernel
theorem nmb : nm fB = [[98]] := by unfold nm; rw [qnz]
theorem nmf : nm fF = [[97], [102]] := by unfold nm; rw [qnw]
theorem nma : nm fA = [[97]] := by unfold nm; rw [qns]
def L3 : List Fil := [fB, fF, fA]
theorem qmk : zhs L3 = [fA, fF, fB] := by decide +kernel
theorem qk9 : zas L3 = 0 := by decide +kernel
theorem no5 : ¬ zze L3 := by
 rintro ⟨i, hi, h⟩
 match i, hi with
 | 0, _ => simp [L3, nmb] at h
 | 1, _ => simp [L3, nmb, nmf] at h
 | 2, _ => simp [L3, nmb, nmf, nma] at h
theorem no4 : ¬ qeq L3 := by
 rintro ⟨f, hf, h1, h2⟩
 simp only [L3, List.mem_cons, List.not_mem_nil, or_false] at hf
 rcases hf with rfl | rfl | rfl
 ·simp [nmb] at h1
 ·exact h2 fA (by simp [L3]) (by simp [nmf, nma])
 ·simp [nma] at h1
theorem qnn : ¬ zz0 L3 := by
 rintro ⟨f, hf, g, hg, h1, h2⟩
 simp only [L3, List.mem_cons, List.not_mem_nil, or_false] at hf hg
 rcases hf with rfl | rfl | rfl <;> rcases hg with rfl | rfl | rfl <;> first | exact absurd h2 (by decide) | (rw [nmb] at h1; simp [nmb, nmf, nma] at h1; done) | (rw [nmf] at h1; simp [nmb, nmf, nma] at h1; done) | (simp [nmb, nmf, nma] at h1; done)
theorem no8 : ¬ qfl L3 := by
 rintro ⟨f, hf, h⟩
 have : (kids L3 (nm f).dropLast).length ≤ 3 := List.length_filter_le _ _
 omega
theorem qnl : zch L3 = 0 := by rw [zyy qk9, z9w no5 no4 qnn no8]
theorem qnk : zch [fF] = 4 := by
 have hp : zas [fF] = 0 := by decide +kernel
 have h5 : ¬ zze [fF] := by
  rintro ⟨i, hi, h⟩
  match i, hi with
  | 0, _ => simp [nmf] at h
 rw [zyy hp, z15 h5 ⟨fF, by simp, by simp [nmf], by simp [nmf]⟩]
def nC : Nod := zlh [104, 105]
def nF : Nod := ⟨2, [], 2, [Sha.sum (zgl nC)], []⟩
def nB : Nod := ⟨2, [], 0, [], []⟩
def nA : Nod := ⟨3, [], 0, [], [⟨[102], 2, Sha.sum (zgl nF)⟩]⟩
def nR : Nod := ⟨3, [], 0, [], [⟨[97], 3, Sha.sum (zgl nA)⟩, ⟨[98], 2, Sha.sum (zgl nB)⟩]⟩
theorem qlp : ze5 fF.data = [zgl nC, zgl nF] ∧ zc7 fF.data = Sha.sum (zgl nF) := ⟨rfl, rfl⟩
theorem qis : ze5 fB.data = [zgl nB] ∧ zc7 fB.data = Sha.sum (zgl nB) := ⟨rfl, rfl⟩
theorem qmf : kids [fA, fF, fB] [] = [fA, fB] := by decide +kernel
theorem qk2 : kids [fA, fF, fB] [[97]] = [fF] := by decide +kernel
theorem qmo : zls L3 = ([zgl nC, zgl nF, zgl nA, zgl nB, zgl nR], Sha.sum (zgl nR)) := by
 rw [zif, qmk]
 have hA : zca [fA, fF, fB] 8 [[97]] = ([zgl nC, zgl nF, zgl nA], Sha.sum (zgl nA)) := by
  rw [show (8 : Nat) = 7 + 1 from rfl, zca, qk2, zii, zfx]
  simp only [List.map_cons, List.map_nil, zov, zhh, nmf, show fF.dir = false from rfl, Bool.false_eq_true, if_false, qlp.1, qlp.2, List.flatten_cons, List.flatten_nil, List.append_nil]
  rfl
 rw [show (9 : Nat) = 8 + 1 from rfl, zca, qmf, zii, zfx]
 simp only [List.map_cons, List.map_nil, zov, zhh, nma, nmb, hA, show fA.dir = true from rfl, show fB.dir = false from rfl, if_true, Bool.false_eq_true, if_false, qis.1, qis.2, List.flatten_cons, List.flatten_nil, List.append_nil]
 rfl
def bC : List UInt8 := [1, 2, 104, 105]
def bF : List UInt8 := [2, 2, 186, 81, 103, 170, 37, 105, 73, 247, 1, 63, 208, 174, 227, 219, 246, 57, 189, 176, 202, 216, 218, 247, 80, 137, 209, 38, 248, 218, 146, 140, 20, 63]
def bB : List UInt8 := [2, 0]
def bA : List UInt8 := [3, 1, 1, 102, 2, 88, 201, 251, 13, 17, 115, 155, 159, 107, 201, 198, 214, 238, 62, 38, 149, 172, 205, 218, 103, 124, 157, 8, 238, 7, 125, 57, 221, 65, 183, 132, 18]
def bR : List UInt8 := [3, 2, 1, 97, 3, 20, 147, 93, 158, 92, 191, 194, 195, 92, 236, 238, 114, 183, 13, 215, 171, 150, 171, 144, 26, 149, 70, 247, 32, 216, 129, 27, 76, 220, 151, 79, 92, 1, 98, 2, 153, 190, 94, 251, 136, 202, 32, 19, 189, 142, 78, 176, 53, 253, 66, 213, 36, 84, 104, 254, 154, 250, 112, 216, 186, 156, 28, 65, 154, 72, 196, 232]
def dC : List UInt8 := [186, 81, 103, 170, 37, 105, 73, 247, 1, 63, 208, 174, 227, 219, 246, 57, 189, 176, 202, 216, 218, 247, 80, 137, 209, 38, 248, 218, 146, 140, 20, 63]
def dF : List UInt8 := [88, 201, 251, 13, 17, 115, 155, 159, 107, 201, 198, 214, 238, 62, 38, 149, 172, 205, 218, 103, 124, 157, 8, 238, 7, 125, 57, 221, 65, 183, 132, 18]
def dB : List UInt8 := [153, 190, 94, 251, 136, 202, 32, 19, 189, 142, 78, 176, 53, 253, 66, 213, 36, 84, 104, 254, 154, 250, 112, 216, 186, 156, 28, 65, 154, 72, 196, 232]
def dA : List UInt8 := [20, 147, 93, 158, 92, 191, 194, 195, 92, 236, 238, 114, 183, 13, 215, 171, 150, 171, 144, 26, 149, 70, 247, 32, 216, 129, 27, 76, 220, 151, 79, 92]
def dR : List UInt8 := [52, 50, 156, 43, 141, 118, 195, 80, 238, 81, 90, 166, 160, 182, 217, 191, 49, 81, 234, 133, 70, 6, 243, 41, 212, 153, 138, 165, 168, 182, 90, 51]
theorem sC : Sha.sum bC = dC := by rw [Sha.sum_eq]; kernel_rfl
theorem sF : Sha.sum bF = dF := by rw [Sha.sum_eq]; kernel_rfl
theorem sB : Sha.sum bB = dB := by rw [Sha.sum_eq]; kernel_rfl
theorem sA : Sha.sum bA = dA := by rw [Sha.sum_eq]; kernel_rfl
theorem sR : Sha.sum bR = dR := by rw [Sha.sum_eq]; kernel_rfl
theorem eC : zgl nC = bC := by kernel_rfl
theorem eF : zgl nF = bF := by
 rw [show nF = ⟨2, [], 2, [dC], []⟩ from by unfold nF; rw [eC, sC]]; kernel_rfl
theorem eB : zgl nB = bB := by kernel_rfl
theorem eA : zgl nA = bA := by
 rw [show nA = ⟨3, [], 0, [], [⟨[102], 2, dF⟩]⟩ from by unfold nA; rw [eF, sF]]; kernel_rfl
theorem eR : zgl nR = bR := by
 rw [show nR = ⟨3, [], 0, [], [⟨[97], 3, dA⟩, ⟨[98], 2, dB⟩]⟩ from by unfold nR; rw [eA, sA, eB, sB]]; kernel_rfl
theorem qln : zls L3 = ([bC, bF, bA, bB, bR], dR) := by rw [qmo, eC, eF, eA, eB, eR, sR]
theorem vC : zqd bC = (⟨1, [104, 105], 0, [], []⟩, 0) := by kernel_rfl
theorem vF : zqd bF = (⟨2, [], 2, [dC], []⟩, 0) := by kernel_rfl
theorem vB : zqd bB = (⟨2, [], 0, [], []⟩, 0) := by kernel_rfl
theorem vA : zqd bA = (⟨3, [], 0, [], [⟨[102], 2, dF⟩]⟩, 0) := by kernel_rfl
theorem vR : zqd bR = (⟨3, [], 0, [], [⟨[97], 3, dA⟩, ⟨[98], 2, dB⟩]⟩, 0) := by kernel_rfl
theorem qiz : Bl.fresh [bC, bF, bA, bB, bR] = [(dC, bC), (dF, bF), (dA, bA), (dB, bB), (dR, bR)] := by
 have h1 : (Bl.zss [] dC).isSome = false := by decide +kernel
 have h2 : (Bl.zss [(dC, bC)] dF).isSome = false := by decide +kernel
 have h3 : (Bl.zss [(dC, bC), (dF, bF)] dA).isSome = false := by decide +kernel
 have h4 : (Bl.zss [(dC, bC), (dF, bF), (dA, bA)] dB).isSome = false := by decide +kernel
 have h5 : (Bl.zss [(dC, bC), (dF, bF), (dA, bA), (dB, bB)] dR).isSome = false := by decide +kernel
 simp only [Bl.fresh, List.foldl_cons, List.foldl_nil, Bl.zui, sC, sF, sA, sB, sR, h1, h2, h3, h4, h5, Bool.false_eq_true, if_false, List.nil_append, List.cons_append]
theorem qmy {code : Int} {r' : Bl.SM} (h : Bl.zxb 1048576 [] [bC, bF, bA, bB, bR] code r') : code = 0 ∧ Bl.zax r' dC = some bC ∧ Bl.zax r' dF = some bF ∧ Bl.zax r' dA = some bA ∧ Bl.zax r' dB = some bB ∧ Bl.zax r' dR = some bR := by
 obtain ⟨_, _, h3⟩ := h
 have hl : ¬ Bl.long [bC, bF, bA, bB, bR] := by
  rintro ⟨L, hL, h⟩
  simp only [List.mem_cons, List.not_mem_nil, or_false] at hL
  rcases hL with rfl | rfl | rfl | rfl | rfl <;> revert h <;> decide +kernel
 have hx : ¬ (1048576 : Int) < ((Bl.total [] : Nat) : Int) + ((Bl.extra [] (Bl.fresh [bC, bF, bA, bB, bR]) : Nat) : Int) := by
  rw [qiz]; decide +kernel
 obtain ⟨h0, hv⟩ := h3 hl hx
 rw [qiz] at hv
 refine ⟨h0, ?_, ?_, ?_, ?_, ?_⟩ <;> rw [hv] <;> decide +kernel
theorem qe0 {r : Bl.SM} {k b : List UInt8} {kind : Int} {n : Nod} (hv : Bl.zax r k = some b) (hs : Sha.sum b = k) (hd : zqd b = (n, 0)) (hk : n.kind = kind) : gV r k kind = (n, 0) := by
 have hg : Bl.got (some b) k = 0 := by unfold Bl.got; simp [hs]
 unfold gV zt1
 rw [hv, if_neg (by simp [hg])]
 simp only [Option.getD_some, hd]
 rw [if_neg (by simp [hk])]
theorem walk3 {r : Bl.SM} (h1 : Bl.zax r dC = some bC) (h2 : Bl.zax r dF = some bF) (h3 : Bl.zax r dA = some bA) (h4 : Bl.zax r dB = some bB) (h5 : Bl.zax r dR = some bR) : qdk r dR = ([fA, fF, fB], 0) := by
 have gC := qe0 (kind := 1) h1 sC vC rfl
 have gF := qe0 (kind := 2) h2 sF vF rfl
 have gA := qe0 (kind := 3) h3 sA vA rfl
 have gB := qe0 (kind := 2) h4 sB vB rfl
 have gR := qe0 (kind := 3) h5 sR vR rfl
 have cF : zfo r ⟨2, [], 2, [dC], []⟩ = ([104, 105], 0) := by
  unfold zfo
  have gC' : zt1 (Bl.zax r dC) dC 1 = (⟨1, [104, 105], 0, [], []⟩, 0) := gC
  simp [z9t, gC']; decide
 have cB : zfo r ⟨2, [], 0, [], []⟩ = ([], 0) := by simp [zfo, z9t]
 have p1 : vk [[97]] = [47, 97] := by decide +kernel
 have p2 : vk [[97], [102]] = [47, 97, 47, 102] := by decide +kernel
 have p3 : vk [[98]] = [47, 98] := by decide +kernel
 have wA : ∀ {f : Nat}, zro (gV r) (zfo r) (f + 1) [⟨[102], 2, dF⟩] [[97]] [fA] = ([fA, fF], 0) := by
  intro f
  simp [zro, zlf, gF, cF, p2, fF]
 have wA8 : zro (gV r) (zfo r) 8 [⟨[102], 2, dF⟩] [[97]] [fA] = ([fA, fF], 0) := wA (f := 7)
 have w9 : zro (gV r) (zfo r) 9 [⟨[97], 3, dA⟩, ⟨[98], 2, dB⟩] [] [] = zlf (gV r) (zfo r) (zro (gV r) (zfo r) 8) [] [⟨[97], 3, dA⟩, ⟨[98], 2, dB⟩] [] := rfl
 have eA : (⟨[47, 97], true, []⟩ : Fil) = fA := rfl
 unfold qdk
 rw [gR]
 simp only [ne_eq, not_true_eq_false, if_false, w9]
 rw [zlf]
 simp only [gA, List.nil_append, p1, eA, wA8]
 simp [zlf, gB, cB, p3, fB]
theorem bFb (w : World) : (Instr.build zl #[(0, .string (ByteArray.mk #[47, 98]))]).run P w = .ok (.agg (zbo fB).toArray) w := by kernel_rfl
theorem bFf (w : World) : (Instr.build zl #[(0, .string (ByteArray.mk #[47, 97, 47, 102])), (2, .string (ByteArray.mk #[104, 105]))]).run P w = .ok (.agg (zbo fF).toArray) w := by kernel_rfl
theorem bFa (w : World) : (Instr.build zl #[(0, .string (ByteArray.mk #[47, 97])), (1, .bool true)]).run P w = .ok (.agg (zbo fA).toArray) w := by kernel_rfl
theorem bs3 (f g h : Fil) (w : World) : (Instr.buildSlice zo 3 #[(0, .agg (zbo f).toArray), (1, .agg (zbo g).toArray), (2, .agg (zbo h).toArray)]).run P w = .ok (.slice (some ⟨w.heap.size, 0, none⟩) 3 3) { w with heap := w.heap.push (.cells ([f, g, h].flatMap zbo).toArray zl) } := by kernel_rfl
theorem row3 {w : World} {H : Heap} (f g h : Fil) (hw : w.heap = H) {K : (Option Addr × Nat × Nat) → World → Prop} (hK : ∀ a w', Ext [] H w'.heap → Cells w'.heap a ([f, g, h].flatMap zbo) → K (a, 3, 3) w') :
  zan P (Instr.buildSlice zo 3 #[(0, .agg (zbo f).toArray), (1, .agg (zbo g).toArray), (2, .agg (zbo h).toArray)]) .slc w K := by
 refine zai (s := .slc) (some ⟨w.heap.size, 0, none⟩, 3, 3) _ (bs3 f g h w) ?_
 exact hK _ _ (by rw [← hw]; exact .push _) (.inr ⟨w.heap.size, 0, _, _, _, rfl, zn, by simp, by simp [zbo]⟩)
theorem qiq {w : World} {H : Heap} (hw : w.heap = H) : qg P zp4 #[] w fun e w' => ∃ a, e = .returned (.slice a 3 3) ∧ Cells w'.heap a (L3.flatMap zbo) ∧ Ext [] H w'.heap := by
 refine z9m ?_
 unfold zut
 refine xg (s := .any) _ (bFb _) ?_
 refine xg (s := .any) _ (bFf _) ?_
 refine xg (s := .any) _ (bFa _) ?_
 refine row3 fB fF fA hw fun a w' hx hc => ?_
 exact ⟨a, rfl, hc, hx⟩
set_option maxHeartbeats 4000000 in
theorem qhv {w : World} {H : Heap} (hw : w.heap = H) (hR : Bl.Rounds H) : qg P zoe #[] w fun e w' => e = .returned (.bool true) ∧ Ext [] H w'.heap := by
 have hH0 : 0 < H.size := by obtain ⟨_, _, _, h, _⟩ := hR; exact lt_of_get h
 refine z5g ?_
 unfold zru
 refine zk (Bl.qf6 1048576 hw) ?_
 rintro e w1 ⟨p, fp, rfl, hS1, hx1, hfp1⟩
 refine ⟨some ⟨p, 0, none⟩, rfl, ?_⟩
 rw [show max (1048576 : Int) 0 = 1048576 from by decide] at hS1
 refine zk (qiq rfl) ?_
 rintro e w2 ⟨a, rfl, hc2, hx2⟩
 refine ⟨(a, 3, 3), rfl, ?_⟩
 have hx02 := hx1.trans hx2
 have s1 := hx1.1
 have s2 := hx2.1
 have hS2 := hS1.ext hx2 (by simp)
 refine zk (z14 (L := L3) rfl hS2 (fun b hb => by have := (hfp1 b hb).2; omega) (hR.ext hx02 (by simp)) (fun h => by have := (hfp1 0 h).1; omega) hc2 rfl (by decide) (by simp [Bl.total]) (by decide) (by decide) (by intro k L h; simp [Bl.zax, zcf] at h)) ?_
 rintro e w3 ⟨c1, d1, r3, k3, fp3, rfl, hd1, hS3, hx3, hf3a, hf3b, hP3, ht3⟩
 obtain ⟨hP, hd⟩ := hP3.2 qnl
 rw [qln] at hP hd
 obtain ⟨rfl, v1, v2, v3, v4, v5⟩ := qmy hP
 rw [if_pos rfl] at hd
 have hd : d1 = dR := hd
 subst hd
 refine ⟨(arr dR, 0), rfl, ?_⟩
 have hx03 : Ext [] H w3.heap := hx02.own hx3 (fun c hc hlt => by have := (hfp1 c hc).1; omega)
 have s3 := hx3.1
 have hf3 : ∀ b ∈ fp3, H.size ≤ b := fun b hb => by
  rcases hf3b b hb with h | h
  ·exact (hfp1 b h).1
  ·omega
 have tot3 : Bl.total r3 ≤ 225280 := by
  have tz : Bl.total ([] : Bl.SM) = 0 := rfl
  have l3 : L3.length = 3 := rfl
  rw [tz, l3] at ht3
  omega
 have hlen3 : ∀ k L, Bl.zax r3 k = some L → L.length < 1099511627776 := fun k L hv => by
  have := qgl hS3.ok hv
  omega
 refine qg0 hd1 rfl fun w5 hw5 => ?_
 have hx5 : Ext [] w3.heap w5.heap := by rw [hw5]; exact .push _
 have hb5 : w5.heap[w3.heap.size]? = some (.cells (byteCells dR).toArray zf (0, 0)) := by rw [hw5]; exact zn
 refine jf rfl hb5 (by simp [hd1]) ?_
 have hx05 := hx03.trans hx5
 refine zk (qjn (root := dR) rfl (hS3.ext hx5 (by simp)) (hR.ext hx05 (by simp)) (fun b hb => by have := hf3a b hb; have := hx5.1; omega) hd1 hlen3) ?_
 rintro e w6 ⟨x6, rfl, hx6, hw6⟩
 rw [walk3 v1 v2 v3 v4 v5] at hw6 ⊢
 have hm6 := hw6 rfl
 refine ⟨(x6, 0), rfl, ?_⟩
 have hx06 := hx05.trans hx6
 refine zk (qiq rfl) ?_
 rintro e w7 ⟨a7, rfl, hc7, hx7⟩
 refine ⟨(a7, 3, 3), rfl, ?_⟩
 have hx07 := hx06.trans hx7
 refine xg (s := .slc) (if (3 : Nat) = 1 then a7 else a7.map (·.add (1 * 3)), 2 - 1, 3 - 1) (zaz (a := a7) (len := 3) (cap := 3) (l := 1) (h := 2) uFs qm9 (.yes rfl) (.yes rfl) (by omega) (by omega)) ?_
 have hc8 : Cells w7.heap (if (3 : Nat) = 1 then a7 else a7.map (·.add (1 * 3))) ([fF].flatMap zbo) := by
  rw [if_neg (by omega)]
  exact hc7.part 3 3 (by decide)
 have hx37 := (hx5.trans hx6).trans hx7
 have s37 := hx37.1
 refine zk (z14 (L := [fF]) rfl (hS3.ext hx37 (by simp)) (fun b hb => by have := hf3a b hb; omega) (hR.ext hx07 (by simp)) (fun h => by have := hf3 0 h; omega) hc8 rfl (by decide) (by omega) (by decide) (by decide) hlen3) ?_
 rintro e w8 ⟨c2, d2, r8, k8, fp8, rfl, hd2, hS8, hx8, _, _, hP8, _⟩
 obtain ⟨rfl, rfl, _⟩ := hP8.1 (by rw [qnk]; decide)
 refine ⟨(arr Bl.nought, zch [fF]), rfl, ?_⟩
 rw [qnk]
 have hx08 : Ext [] H w8.heap := hx07.own hx8 (fun c hc hlt => by have := hf3 c hc; omega)
 refine qg0 hd2 rfl fun w10 hw10 => ?_
 have hx10 : Ext [] w8.heap w10.heap := by rw [hw10]; exact .push _
 refine zaa rfl (zaa rfl (zaa rfl ?_))
 refine xg (s := .any) _ (bFa _) ?_
 refine xg (s := .any) _ (bFf _) ?_
 refine xg (s := .any) _ (bFb _) ?_
 refine row3 fA fF fB rfl fun a11 w11 hx11 hc11 => ?_
 have hx011 := (hx08.trans hx10).trans hx11
 have hm8 := (hm6.ext hx7 (by simp)).ext hx8 (fun b hb h => by have := jc hm6 b hb; have := hf3a b h; have := hx5.1; omega)
 have hm11 := ((hm8.ext hx10 (by simp)).ext hx11 (by simp))
 have hl6 : x6.2.1 = 3 := by have := hm6.len; rw [qd9] at this; simp at this; omega
 refine zk (qbe (L := [fA, fF, fB]) rfl hm11.cells hl6 hc11 rfl (by decide)) ?_
 rintro e w12 ⟨rfl, hw12⟩
 exact ⟨true, rfl, rfl, by rw [hw12]; exact hx011⟩
theorem qcy {w : World} {H : Heap} {a : Option Addr} {n nc : Nat} {L : List Fil} {quota : Int} {D : List UInt8} (hw : w.heap = H) (hR : Bl.Rounds H) (hL : Cells H a (L.flatMap zbo)) (hn : n = L.length) (hm : L.length ≤ 9223372036854775807) (hq : quota ≤ 9223372036854775807) :
  qg P zit #[.slice a n nc, .int .i64 quota, .string (strOf D)] w fun e w' => e = .returned (.bool true) ∧ Ext [] H w'.heap :=
 z8e hw hR hL hn hm hq (qhv hw hR)
end Go.Proofs.YtbmegmbnlajbbaaGreatDoor
namespace Go.Fw
open Go Go.ChangeShapes Go.WideShapes Go.ChangeAt Go.RowKit
theorem zsi {w : World} {b o : Nat} {s : Option _} {v : Value} (h : w.cell? ⟨b, o, s⟩ = some v) : s = none ∧ ∃ c T fr, w.heap[b]? = some (.cells c T fr) ∧ c[o]? = some v := by
 unfold World.cell? at h
 simp only at h
 split at h
 ·rename_i c T fr hc
  split at h
  ·cases h
  ·rename_i hs
   refine ⟨by simpa using hs, c, T, fr, hc, h⟩
 ·cases h
theorem qj1 {W W' : World} (h : ∀ i, i < W.heap.size → W'.heap[i]? = W.heap[i]?) {p : MemPlace} (hp : p.block < W.heap.size) : W.sameAt W' p := by
 cases p with
 | cell b off => simp only [World.sameAt, World.cell?]; rw [h b hp]
 | map b => exact h b hp
theorem zsv {H : Type} {enc : TypeId × Value → H} {P : Program} (hl : laidOutB P = true) {W W' : World} {sp' : Nat → Bool} (h : ∀ i, i < W.heap.size → W'.heap[i]? = W.heap[i]?) :
  ∀ {ts : List TypeId} {vs : List Value} {ds : List (DataW H)} {ps : List MemPlace}, (∀ t ∈ ts, P.readableRec t = true ∧ t < P.types.size) → (∀ p ∈ ps, p.block < W.heap.size ∧ sp' p.block = true) →
  DataW.TrodAll enc P W 0 (fun _ => true) true ts vs ds ps → DataW.TrodAll enc P W' 0 sp' true ts vs ds ps
 | [], vs, ds, ps, _, _, ht => by
  obtain ⟨rfl, rfl, rfl⟩ := trodAll_nil ht
  rfl
 | t :: ts, vs, ds, ps, hr, hp, ht => by
  obtain ⟨v, vs', d, ds', p, q, rfl, rfl, rfl, h1, h2⟩ := trodAll_cons ht
  refine ⟨p, q, ?_, zsv hl h (fun t ht => hr t (by simp [ht])) (fun x hx => hp x (by simp [hx])) h2, rfl⟩
  exact WideElems.Trod_stays hl (hr t (by simp)).1 (hr t (by simp)).2 h1 (fun x hx => qj1 h (hp x (by simp [hx])).1) fun x hx => (hp x (by simp [hx])).2
theorem qgo {H : Type} {enc : TypeId × Value → H} {P : Program} {f : Func} {s : ChangeSpec} {apart fresh handsOn again : Bool} {W W' : World} {args : Array Value} {v : Value} {ds gs : List (DataW H)} {before : List MemPlace}
  (hl : laidOutB P = true) (hpar : ∀ t ∈ f.params.toList, P.readableRec t = true ∧ t < P.types.size) (hvars : s.vars = [])
  (hW : DataW.Whole enc P f.params.toList s.vars apart W args.toList ds gs before) (hfa : (s.fn H (ds ++ gs)).args = ds) (hfv : (s.fn H (ds ++ gs)).vars = [])
  (hres : ∀ (b : Nat) (sp : Nat → Bool) (hd : Bool), DataW.TrodAll enc P W' b sp hd f.resultTypes.toList (v.resultList f.resultTypes.size) (s.fn H (ds ++ gs)).results [])
  (hx : Ext [] W.heap W'.heap) (hc : Calm W W')
  (hok : ∀ (j : Nat) (t : TypeId) (r : Value), f.resultTypes[j]? = some t → (v.resultList f.resultTypes.size)[j]? = some r → Value.okWide P W' .any 0 t r) :
  s.post enc P f apart fresh handsOn again W args v W' := by
 have hsame : ∀ i, i < W.heap.size → W'.heap[i]? = W.heap[i]? := fun i hi => hx.2 i hi (by simp)
 have hlt : ∀ p ∈ before, p.block < W.heap.size := fun p hp => hW.lt p hp
 have hW0 := hW
 obtain ⟨pa, pv, hA, hV, rfl, hz, hn⟩ := hW
 rw [hvars] at hV
 obtain ⟨rfl, rfl⟩ := trodVars_none hV
 rw [List.append_nil] at hlt hz hn
 have hargs : ∀ sp : Nat → Bool, (∀ p ∈ pa, sp p.block = true) → DataW.TrodAll enc P W' 0 sp true f.params.toList args.toList (s.fn H (ds ++ [])).args pa := by
  intro sp hsp
  rw [hfa]
  exact zsv hl hsame hpar (fun p hp => ⟨hlt p hp, hsp p hp⟩) hA
 have hvs : ∀ sp : Nat → Bool, DataW.TrodVars enc P W' sp s.vars (s.fn H (ds ++ [])).vars [] := by
  intro sp
  rw [hvars, hfv]
  rfl
 refine ⟨ds, [], pa ++ [], [], pa, [], hW0, hres _ _ _, hargs _ (fun p hp => by simpa using hlt p hp), hvs _, ⟨hc.1, hc.2.1, fun i hi => ?_⟩, fun _ => ⟨hok, _, _, ([] ++ pa) ++ [], ⟨[] ++ pa, [], trodAll_append (hargs _ (fun _ _ => rfl)) (hres _ _ _), hvs _, rfl, ?_, ?_⟩, ?_⟩⟩
 ·rw [hsame i hi]
  cases W.heap[i]? with
  | none => rfl
  | some o => cases o <;> first | exact ⟨rfl, rfl, rfl, fun _ _ => rfl⟩ | exact .inr ⟨rfl, rfl⟩ | rfl
 ·intro b off hp
  have hp : MemPlace.cell b off ∈ pa := by simpa using hp
  have h1 := hz b off (by simpa using hp)
  have h2 := hsame b (hlt _ hp)
  unfold World.frozen? at h1 ⊢
  rw [h2]
  exact h1
 ·intro ha
  simpa using hn ha
 ·intro p hp _
  simpa using hp
section
variable {H : Type} {enc : TypeId × Value → H} {P : Program} {W : World}
theorem qge {a : Addr} {n : Nat} {cs : List Value} (h0 : 0 < n) (h : W.cells? 0 a n = some cs) : a.spot = none ∧ ∃ c T fr, W.heap[a.block]? = some (.cells c T fr) ∧ a.off + n ≤ c.size ∧ cs = (c.toList.drop a.off).take n := by
 obtain ⟨b, o, s⟩ := a
 simp only [World.cells?, Nat.zero_le, if_true] at h
 have hl : cs.length = n := by simpa using mapM_some_length h
 have hg : ∀ i, i < n → W.cell? (Addr.add ⟨b, o, s⟩ i) = cs[i]? := fun i hi => mapM_some_get h i i (by simp [hi])
 have h1 := hg 0 h0
 rw [List.getElem?_eq_getElem (by omega)] at h1
 obtain ⟨hs, c, T, fr, hb, _⟩ := zsi h1
 have hs' : s = none := by
  cases s with
  | none => rfl
  | some z => simp at hs
 subst hs'
 have hc : ∀ i, i < n → c[o + i]? = cs[i]? := by
  intro i hi
  have h2 := hg i hi
  rw [List.getElem?_eq_getElem (by omega), jv] at h2
  obtain ⟨_, c2, T2, f2, hb2, hc2⟩ := zsi h2
  rw [hb] at hb2; cases hb2
  rw [hc2, List.getElem?_eq_getElem (by omega)]
 have hsz : o + n ≤ c.size := by
  have h3 := hc (n - 1) (by omega)
  rw [List.getElem?_eq_getElem (by omega)] at h3
  have := (Array.getElem?_eq_some_iff.1 h3).1
  omega
 refine ⟨rfl, c, T, fr, hb, hsz, ?_⟩
 apply List.ext_getElem?
 intro i
 by_cases hi : i < n
 ·rw [← hc i hi, List.getElem?_take, if_pos hi, List.getElem?_drop, Array.getElem?_toList]
 ·rw [List.getElem?_eq_none (by omega), List.getElem?_take, if_neg hi]
theorem qhc {a : Addr} (h : (a.add 0).spot = none) : a.spot = none := by
 obtain ⟨b, o, s⟩ := a
 cases s with
 | none => rfl
 | some z => simp [Addr.add] at h
theorem row_of {t e : TypeId} {sz : Nat} (ht : P.underlying t = some (.slice e)) (hc : P.cellsOf e = sz) (h0 : 0 < sz) {v : Value} {fuel : Nat} {x : DataW H × List MemPlace} (h : DataW.trod enc P W 0 (fun _ => true) true fuel t [v] = some x) :
  ∃ (a : Option Addr) (n nc : Nat) (ys : List (DataW H)), v = .slice a n nc ∧ n ≤ nc ∧ ys.length = n ∧ ((n = 0 ∧ ys = [] ∧ x.1 = .nil) ∨ ∃ rest, x.1 = .slice ys rest) ∧
   ∀ i (hi : i < ys.length), ∃ (b o : Nat) (c : Array Value) (T : TypeId) (fr : Nat × Nat) (m : Nat) (ps : List MemPlace), a = some ⟨b, o, none⟩ ∧ W.heap[b]? = some (.cells c T fr) ∧ o + i * sz + sz ≤ c.size ∧ DataW.trod enc P W 0 (fun _ => true) true m e ((c.toList.drop (o + i * sz)).take sz) = some (ys[i], ps) := by
 rcases DataW.trod_slice ht h with ⟨hcs, rfl⟩ | ⟨a', len, cap, elems, rest, m, _, hcs, rfl, _, hle, _, hlen, hel, _⟩
 ·simp only [List.cons.injEq, and_true] at hcs
  exact ⟨none, 0, 0, [], hcs, Nat.le_refl _, rfl, .inl ⟨rfl, rfl, rfl⟩, fun i hi => absurd hi (by simp)⟩
 ·simp only [List.cons.injEq, and_true] at hcs
  refine ⟨some a', len, cap, elems.map (·.1), hcs, hle, by simpa using hlen, .inr ⟨_, rfl⟩, fun i hi => ?_⟩
  have hil : i < len := by simpa [hlen] using hi
  have h1 := hel i hil
  rw [List.getElem?_eq_getElem (by omega), hc] at h1
  simp only [Option.bind_eq_some_iff] at h1
  obtain ⟨cs, h2, h3⟩ := h1
  obtain ⟨hsp, c, T, fr, hb, hsz, rfl⟩ := qge h0 h2
  have hsp' : a'.spot = none := by
   have h1 := hel 0 (by omega)
   rw [List.getElem?_eq_getElem (by omega), hc] at h1
   simp only [Option.bind_eq_some_iff, Nat.zero_mul] at h1
   obtain ⟨cs, h2, _⟩ := h1
   exact qhc (qge h0 h2).1
  obtain ⟨b, o, s⟩ := a'
  obtain rfl : s = none := hsp'
  rw [jv] at hb hsz h3
  exact ⟨b, o, c, T, fr, m, (elems[i]).2, rfl, hb, hsz, by simpa using h3⟩
def shapeOf (P : Program) (t : TypeId) : Option (List (TypeId × Nat)) := match P.underlying t with | some (.struct fs) => some (fs.toList.map fun f => (f.type, f.offset)) | _ => none
theorem qe1 {t : TypeId} {L : List (TypeId × Nat)} (hs : shapeOf P t = some L) {cs : List Value} {fuel : Nat} {x : DataW H × List MemPlace} (h : DataW.trod enc P W 0 (fun _ => true) true fuel t cs = some x) :
  ∃ ys : List (DataW H), x.1 = .agg ys ∧ cs.length = P.cellsOf t ∧ ys.length = L.length ∧ ∀ (i : Nat) (ti : TypeId) (off : Nat), L[i]? = some (ti, off) → ∃ m ps y, ys[i]? = some y ∧ DataW.trod enc P W 0 (fun _ => true) true m ti ((cs.drop off).take (P.cellsOf ti)) = some (y, ps) := by
 unfold shapeOf at hs
 split at hs
 ·rename_i fs hu
  injection hs with hs
  subst hs
  obtain ⟨xs, n, _, rfl, hl, hlen, hf⟩ := DataW.trod_struct hu h
  refine ⟨xs.map (·.1), rfl, hl, by simpa using hlen, fun i ti off hi => ?_⟩
  rw [List.getElem?_map, Option.map_eq_some_iff] at hi
  obtain ⟨f, hfi, he⟩ := hi
  simp only [Prod.mk.injEq] at he
  obtain ⟨rfl, rfl⟩ := he
  have h1 := hf i f (by simpa using hfi)
  have hil : i < xs.length := by
   have := (List.getElem?_eq_some_iff.1 hfi).1
   simp at this; omega
  rw [List.getElem?_eq_getElem hil] at h1
  exact ⟨n, (xs[i]).2, (xs[i]).1, by simp [List.getElem?_eq_getElem hil], h1⟩
 ·cases hs
theorem qje {t : TypeId} (ht : P.underlying t = some .bool) {v : Value} {fuel : Nat} {x : DataW H × List MemPlace} (h : DataW.trod enc P W 0 (fun _ => true) true fuel t [v] = some x) : ∃ b, v = .bool b := by
 cases fuel with
 | zero => simp [DataW.trod] at h
 | succ m =>
  unfold DataW.trod at h
  rw [ht] at h
  split at h <;> simp_all
theorem take_one {c : Array Value} {o : Nat} (h : o < c.size) : (c.toList.drop o).take 1 = [c[o]] := by
 rw [List.drop_eq_getElem_cons (by simpa using h)]
 simp
theorem z6m {c : Array Value} {o sz j : Nat} (hj : j < sz) (h : o + sz ≤ c.size) : (((c.toList.drop o).take sz).drop j).take 1 = [c[o + j]] := by
 rw [List.drop_take, List.drop_drop, List.take_take, Nat.min_eq_left (by omega)]
 exact take_one (by omega)
end
end Go.Fw
namespace Go.Proofs.YtbmegmbnlajbbaaGreatDoor
open Go Go.Fw Go.Proofs Go.ChangeShapes Go.WideShapes Go.ChangeAt Go.RowKit
variable {Hh : Type} {enc : TypeId × Value → Hh} {W : World}
theorem qjo {t e : TypeId} (ht : P.underlying t = some (.slice e)) {a : Option Addr} {n nc : Nat} {fuel : Nat} {x : DataW Hh × List MemPlace} (h : DataW.trod enc P W 0 (fun _ => true) true fuel t [.slice a n nc] = some x) : n ≤ 9223372036854775807 := by
 rcases DataW.trod_slice ht h with ⟨hcs, _⟩ | ⟨a', len, cap, elems, rest, m, _, hcs, _, _, hle, hmax, _⟩
 ·simp only [List.cons.injEq, Value.slice.injEq, and_true] at hcs
  omega
 ·simp only [List.cons.injEq, Value.slice.injEq, and_true] at hcs
  have : maxLen = 9223372036854775807 := by decide
  omega
theorem qer {t : TypeId} (ht : P.underlying t = some .string) {v : Value} {fuel : Nat} {x : DataW Hh × List MemPlace} (h : DataW.trod enc P W 0 (fun _ => true) true fuel t [v] = some x) : ∃ L : List UInt8, v = .string (strOf L) ∧ L.length ≤ 9223372036854775807 := by
 cases fuel with
 | zero => simp [DataW.trod] at h
 | succ m =>
  unfold DataW.trod at h
  rw [ht] at h
  split at h <;> simp_all
  refine ⟨_, qdt.symm, ?_⟩
  have hm : maxLen = 9223372036854775807 := by decide
  have h1 := h.1
  simp only [ByteArray.size] at h1
  rw [Array.length_toList]
  omega
theorem cStr : P.cellsOf qx = 1 := by kernel_rfl
theorem qlr : shapeOf P zl = some [(qx, 0), (z5b, 1), (qx, 2)] := by kernel_rfl
theorem cFile : P.cellsOf zl = 3 := by kernel_rfl
theorem qk5 : P.cellsOf z5b = 1 := by kernel_rfl
theorem qcm {t : TypeId} (ht : P.underlying t = some (.slice zl)) {v : Value} {fuel : Nat} {x : DataW Hh × List MemPlace} (h : DataW.trod enc P W 0 (fun _ => true) true fuel t [v] = some x) :
  ∃ (a : Option Addr) (n nc : Nat) (L : List Fil), v = .slice a n nc ∧ Cells W.heap a (L.flatMap zbo) ∧ n = L.length ∧ L.length ≤ 9223372036854775807 := by
 obtain ⟨a, n, nc, ys, rfl, hle, hn, hx, hel⟩ := row_of ht cFile (by omega) h
 have hmax := qjo ht h
 have key : ∀ i (hi : i < ys.length), ∃ f : Fil, ∃ (b o : Nat) (c : Array Value) (T : TypeId) (fr : Nat × Nat), a = some ⟨b, o, none⟩ ∧ W.heap[b]? = some (.cells c T fr) ∧ o + i * 3 + 3 ≤ c.size ∧ ∀ j, j < 3 → c[o + i * 3 + j]? = (zbo f)[j]? := by
  intro i hi
  obtain ⟨b, o, c, T, fr, m, ps, rfl, hb, hsz, ht2⟩ := hel i hi
  obtain ⟨zs, _, _, _, hf⟩ := qe1 qlr ht2
  obtain ⟨a0, b0, e0, _, g0⟩ := hf 0 qx 0 rfl
  obtain ⟨a1, b1, e1, _, g1⟩ := hf 1 z5b 1 rfl
  obtain ⟨a2, b2, e2, _, g2⟩ := hf 2 qx 2 rfl
  rw [cStr, z6m (by omega) hsz] at g0 g2
  rw [qk5, z6m (by omega) hsz] at g1
  obtain ⟨p, hp, _⟩ := qer z3o g0
  obtain ⟨d, hd⟩ := qje qi1 g1
  obtain ⟨s, hs, _⟩ := qer z3o g2
  have cell : ∀ {j : Nat} {w : Value} (hj : j < 3), c[o + i * 3 + j]'(by omega) = w → c[o + i * 3 + j]? = some w := fun hj h => by rw [← h]; exact Array.getElem?_eq_getElem _
  refine ⟨⟨p, d, s⟩, b, o, c, T, fr, rfl, hb, hsz, fun j hj => ?_⟩
  match j, hj with
  | 0, _ => exact cell (j := 0) (by omega) hp
  | 1, _ => exact cell (j := 1) (by omega) hd
  | 2, _ => exact cell (j := 2) (by omega) hs
 classical
 have hLl : ((List.range n).map fun i => if h : i < ys.length then Classical.choose (key i h) else default).length = n := by simp
 refine ⟨a, n, nc, (List.range n).map fun i => if h : i < ys.length then Classical.choose (key i h) else default, rfl, ?_, by simp, by simpa using hmax⟩
 by_cases h0 : n = 0
 ·subst h0; exact .inl rfl
 ·obtain ⟨b, o, c, T, fr, rfl, hb, _, _⟩ := Classical.choose_spec (key 0 (by omega))
  have at_ : ∀ i (hi : i < ys.length), o + i * 3 + 3 ≤ c.size ∧ ∀ j, j < 3 → c[o + i * 3 + j]? = (zbo (Classical.choose (key i hi)))[j]? := by
   intro i hi
   obtain ⟨b2, o2, c2, T2, fr2, he, hb2, h3, h4⟩ := Classical.choose_spec (key i hi)
   cases he
   rw [hb] at hb2; cases hb2
   exact ⟨h3, h4⟩
  refine .inr ⟨b, o, c, T, fr, rfl, hb, ?_, ?_⟩
  ·have := (at_ (n - 1) (by omega)).1
   rw [qd9, hLl]; omega
  ·apply List.ext_getElem?
   intro j
   rw [Array.getElem?_toList, Array.getElem?_extract, qd9, hLl, getElem_flatMap zbo zb8 (by omega), List.getElem?_map]
   by_cases hj : j < n * 3
   ·have hj3 : j / 3 < ys.length := by omega
    have hsz := (at_ (n - 1) (by omega)).1
    rw [if_pos (by omega), List.getElem?_range (by omega)]
    simp only [Option.map_some, Option.bind_some, hj3, dif_pos]
    rw [← (at_ (j / 3) hj3).2 (j % 3) (by omega)]
    rw [show o + j / 3 * 3 + j % 3 = o + j from by omega]
   ·have hnone : (List.range n)[j / 3]? = none := List.getElem?_eq_none (by rw [List.length_range]; omega)
    rw [if_neg (by omega), hnone]; rfl
end Go.Proofs.YtbmegmbnlajbbaaGreatDoor
namespace Go.Proofs.YtbmegmbnlajbbaaGreatDoor.RowC
open Go.Proofs.YtbmegmbnlajbbaaGreatDoor.Bl Go Go.Fw Go.Proofs Go.ChangeShapes Go.WideShapes Go.ChangeAt Go.RowKit
theorem own : ownKnob Tryz.prog.godebug = none := by kernel_rfl
theorem gTab : Tryz.prog.globalNamed "veneer/sha.rounds" = some 0 := by kernel_rfl
theorem qil : (Tryz.prog.globals[0]?).map (·.type) = some zaf := by kernel_rfl
theorem u66 : Tryz.prog.underlying zaf = some (.array 64 zqa) := by kernel_rfl
theorem u64' : Tryz.prog.underlying zqa = some (.int .u32) := by kernel_rfl
theorem qj8 : Tryz.prog.cellsOf zaf = 64 := by kernel_rfl
theorem qj5 : Tryz.prog.cellsOf zqa = 1 := by kernel_rfl
theorem laidOut : laidOutB Tryz.prog = true := by kernel_rfl
def kz : List Int := Sha.kc.map fun n : Nat => (n : Int)
theorem qkx : (Rows.laid_veneer_sha_rounds : DataW Unit) = Lib.tabData .u32 kz := by kernel_rfl
theorem table {W : World} (h : laidMetH Tryz.prog [("veneer/sha.rounds", Rows.laid_veneer_sha_rounds)] W) : Lib.TabIs Tryz.prog W "veneer/sha.rounds" .u32 kz := by
 have h' : laidMet Tryz.prog [("veneer/sha.rounds", (Rows.laid_veneer_sha_rounds : DataW Unit))] W := h
 rw [qkx] at h'
 exact Lib.tabIs_of_head (rest := []) gTab qil u66 u64' qj5 qj8 h'
theorem qmj : ∀ i, i < 64 → kz.getD i 0 = ((Sha.K i).toNat : Int) := by decide +kernel
theorem qf2 {W : World} (h : Lib.TabIs Tryz.prog W "veneer/sha.rounds" .u32 kz) : Rounds W.heap := by
 have hc : ∀ i, i < 64 → W.cell? ⟨0, i, none⟩ = some (.int .u32 ((Sha.K i).toNat : Int)) := by
  intro i hi
  rw [← qmj i hi]
  exact h.cell gTab i (by simpa [kz, Sha.kc] using hi)
 obtain ⟨_, c, T, fr, hb, _⟩ := zsi (hc 0 (by omega))
 refine ⟨c, T, fr, hb, fun i hi => ?_⟩
 obtain ⟨_, c2, T2, fr2, hb2, h2⟩ := zsi (hc i hi)
 rw [hb] at hb2
 cases hb2
 rw [Nat.zero_add]
 exact h2
noncomputable def laidWorld (os : Os) : World :=
 { World.holding Tryz.prog os ⟨#[], #[], []⟩ with heap := (World.holding Tryz.prog os ⟨#[], #[], []⟩).heap.modify 0 fun
   | .cells _ t frozen => .cells (W32 Sha.K 64) t frozen
   | o => o }
theorem qj4 {n : Int} (h : (Lit.int .i64 n).wf = true) : n ≤ 9223372036854775807 := by
 have h2 : IntKind.i64.max = 9223372036854775807 := rfl
 simp only [Lit.wf, Bool.and_eq_true, decide_eq_true_eq] at h
 omega
end Go.Proofs.YtbmegmbnlajbbaaGreatDoor.RowC
