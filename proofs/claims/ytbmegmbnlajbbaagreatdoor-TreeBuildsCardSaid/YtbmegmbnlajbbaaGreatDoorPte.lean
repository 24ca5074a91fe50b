/- Part 5 of the texts below the card, joined. -/
import Derived.Test.YtbmegmbnlajbbaaGreatDoorPtd
import Derived.Test.YtbmegmbnlajbbaaGreatDoorPtc
import Derived.KernelRfl
import Derived.Shelf.SlSortCmp.WholeK
import Derived.Shelf.Small.Bits
import Derived.Test.YtbmegmbnlajbbaaGreatDoorProg
import Derived.Laws.IdiomStrings
import Derived.Laws.AppendOwn
namespace Go.Proofs.YtbmegmbnlajbbaaGreatDoor.Bl
open Go Go.Fw Go.Proofs
theorem u27 : P.underlying zf = some (.array 32 qy) := by kernel_rfl
theorem u5 : P.underlying qy = some (.int .u8) := by kernel_rfl
theorem c5 : P.cellsOf qy = 1 := by kernel_rfl
theorem g27 : P.eqGuardType P.depth zf = false := by kernel_rfl
theorem u57 : P.underlying zab = some (.map zf zh) := by kernel_rfl
theorem z22 (w : World) : (zeroValue zh).run P w = .ok (.slice none 0 0) w := by kernel_rfl
theorem K27 : KeyOk P zf (List UInt8) (fun L => L.length = 32) arr := .arr u27 u5 c5
theorem b27 (w : World) : (Instr.build zf #[]).run P w = .ok (arr (List.replicate 32 0)) w := by kernel_rfl
theorem b59 (a : Int) (m : Option Nat) (w : World) : (Instr.build zic #[(0, .int .i64 a), (2, .map m)]).run P w = .ok (.agg #[.int .i64 a, .int .i64 0, .map m]) w := by kernel_rfl
abbrev BV := (Option Addr × Nat × Nat) × List UInt8
abbrev SM := ML (List UInt8) BV
def bv (x : BV) : Value := zc9 x.1
def total (r : SM) : Nat := (r.map fun x => x.2.1.2.length).sum
def zax (r : SM) (k : List UInt8) : Option (List UInt8) := (zcf r k).map (·.2)
def qag (H : Heap) (fp : List Nat) (r : SM) : Prop := ∀ x ∈ r, Mine H 0 qy 1 x.2.1.1 (byteCells x.2.1.2) ∧ ∀ b ∈ xu x.2.1.1, b ∈ fp
def Apart (r : SM) : Prop := ∀ x ∈ r, ∀ y ∈ r, x.1 ≠ y.1 → ∀ b ∈ xu x.2.1.1, b ∉ xu y.2.1.1
def Store (H : Heap) (fp : List Nat) (p : Nat) (q : Int) (r : SM) (c : Nat) : Prop :=
 ∃ m, H[p]? = some (.cells #[.int .i64 q, .int .i64 (total r : Int), .map (some m)] zic (0, 0)) ∧ H[m]? = some (.map (ents arr (vl bv r)) c) ∧ MOk (fun L => L.length = 32) r c ∧ p ∈ fp ∧ m ∈ fp ∧ qag H fp r ∧ Apart r
theorem qag.ext {M fp : List Nat} {H H' : Heap} {r : SM} (h : qag H fp r) (hx : Ext M H H') (hM : ∀ b ∈ fp, b ∉ M) : qag H' fp r :=
 fun x hxr => ⟨(h x hxr).1.ext hx fun b hb => hM b ((h x hxr).2 b hb), (h x hxr).2⟩
theorem Store.ext {M fp : List Nat} {H H' : Heap} {p : Nat} {q : Int} {r : SM} {c : Nat} (h : Store H fp p q r c) (hx : Ext M H H') (hM : ∀ b ∈ fp, b ∉ M) : Store H' fp p q r c := by
 obtain ⟨m, h1, h2, h3, h4, h5, h6, h7⟩ := h
 exact ⟨m, hx.get h1 (hM p h4), hx.get h2 (hM m h5), h3, h4, h5, h6.ext hx hM, h7⟩
theorem Store.lt {fp : List Nat} {H : Heap} {p : Nat} {q : Int} {r : SM} {c : Nat} (h : Store H fp p q r c) : p < H.size := by
 obtain ⟨m, h1, _⟩ := h; exact lt_of_get h1
theorem qf6 {w : World} {H : Heap} (q : Int) (hw : w.heap = H) : qg P zpz #[.int .i64 q] w fun e w' => ∃ p fp, e = .returned (.pointer (some ⟨p, 0, none⟩)) ∧ Store w'.heap fp p (max q 0) [] 0 ∧ Ext [] H w'.heap ∧ ∀ b ∈ fp, H.size ≤ b ∧ b < w'.heap.size := by
 refine qak ?_
 unfold zt3
 refine xg (s := .int .i64) (max q 0) ?_ ?_
 ·rw [run_max_int2]
  congr 2
  show (if (0 : Int) > q then 0 else q) = max q 0
  split <;> omega
 refine zai (s := .map) (some H.size) _ (ztc hw) ?_
 refine xg (s := .any) _ (b59 _ _ _) ?_
 refine jw (H := H.push (.map #[] 0)) rfl fun w2 hw2 => ?_
 refine ⟨(H.push (.map #[] 0)).size, [(H.push (.map #[] 0)).size, H.size], rfl, ⟨H.size, ?_, ?_, .nil, by simp, by simp, (by intro x hx; cases hx), (by intro x hx; cases hx)⟩, ?_, by rw [hw2]; simp; omega⟩
 ·rw [hw2]; exact zn
 ·rw [hw2]; exact zec zn
 ·rw [hw2]; exact (Ext.push _).push_own
theorem qef {w : World} {H : Heap} {a : Option Addr} {l lc : Nat} {L : List UInt8} (hw : w.heap = H) (hL : Cells H a (byteCells L)) (hl : l = L.length) (hlen : L.length < 140000000000000) :
  qg P zb9 #[.slice a l lc] w fun e w' => ∃ x, e = .returned (zc9 x) ∧ Mine w'.heap H.size qy 1 x (byteCells L) ∧ Ext [] H w'.heap := by
 subst hl
 refine zkq ?_
 unfold zdi
 cases a with
 | none =>
  refine zaa rfl ?_
  have : byteCells L = [] := by rcases hL with h | ⟨b, o, c, T, fr, h, _⟩; exact h; cases h
  exact ⟨(none, 0, 0), rfl, .inl ⟨rfl, this⟩, by rw [hw]; exact .refl _ _⟩
 | some a =>
  refine jl rfl ?_
  refine zai (s := .slc) (some ⟨H.size, 0, none⟩, 0, 0) { w with heap := H.push (.cells #[] qy) } (by rw [← hw]; kernel_rfl) ?_
  have hxp : Ext [] H (H.push (.cells #[] qy)) := .push _
  have hO : Mine (H.push (.cells #[] qy)) H.size qy 1 (some ⟨H.size, 0, none⟩, 0, 0) [] := .inr ⟨H.size, #[], rfl, Nat.le_refl _, zn, rfl, rfl, Nat.le_refl _, rfl⟩
  refine zv9 (w := { w with heap := H.push (.cells #[] qy) }) rfl hO (by simp) (Src.slc rfl (hL.ext hxp (by simp)) (by simp [byteCells])) ku (by simp only; omega) ?_
  intro x2 w2 hO2 hl2 hx2 hm2
  rw [List.nil_append] at hO2
  exact ⟨x2, rfl, hO2, hxp.own hx2 (by intro b hb; simp [xu] at hb; omega)⟩
theorem qfs {w : World} {H : Heap} {fp : List Nat} {p : Nat} {q : Int} {r : SM} {c : Nat} (hw : w.heap = H) (hS : Store H fp p q r c) : qg P ze0 #[.pointer (some ⟨p, 0, none⟩)] w fun e w' => e = .returned (.int .i64 (r.length : Int)) ∧ w' = w := by
 obtain ⟨m, h1, h2, _⟩ := hS
 refine zrk ?_
 unfold zg7
 refine jl rfl ?_
 simp only [xq]
 refine jh (t := some m) hw h1 rfl ?_
 refine xg (s := .int .i64) _ (qe8 u57 hw h2) ?_
 exact ⟨rfl, trivial⟩
theorem z18 {w : World} {H : Heap} {fp : List Nat} {p : Nat} {q : Int} {r : SM} {c : Nat} (hw : w.heap = H) (hS : Store H fp p q r c) : qg P zey #[.pointer (some ⟨p, 0, none⟩)] w fun e w' => e = .returned (.int .i64 (total r : Int)) ∧ w' = w := by
 obtain ⟨m, h1, h2, _⟩ := hS
 refine zq0 ?_
 unfold zgs
 refine jl rfl ?_
 simp only [xq]
 exact jh (t := (total r : Int)) hw h1 rfl ⟨rfl, trivial⟩
theorem z96 {r : SM} {c : Nat} (h : MOk (fun L => L.length = 32) r c) {k : List UInt8} {v : BV} (hg : zcf r k = some v) : ∃ b, (k, v, b) ∈ r ∧ k.length = 32 := by
 obtain ⟨b, hb⟩ := zfh hg
 exact ⟨b, hb, h.fine _ hb⟩
def got (o : Option (List UInt8)) (k : List UInt8) : Int := match o with | none => 50 | some L => if Sha.sum L = k then 0 else 51
theorem qeb {w : World} {H : Heap} {fp : List Nat} {p : Nat} {q : Int} {r : SM} {c : Nat} {k : List UInt8} (hw : w.heap = H) (hS : Store H fp p q r c) (hk : k.length = 32) (hR : Rounds H) (hlen : ∀ L, zax r k = some L → L.length < 1099511627776) :
  qg P zjn #[.pointer (some ⟨p, 0, none⟩), arr k] w fun e w' => ∃ x, e = .returned (.tuple #[zc9 x, .int .i64 (got (zax r k) k)]) ∧ Ext [] H w'.heap ∧
   (got (zax r k) k = 0 → ∃ L, zax r k = some L ∧ Mine w'.heap H.size qy 1 x (byteCells L)) ∧ (got (zax r k) k ≠ 0 → x = (none, 0, 0)) := by
 obtain ⟨m, h1, h2, h3, h4, h5, h6, h7⟩ := hS
 refine zva ?_
 unfold zio
 refine jw hw fun w1 hw1 => ?_
 have hx1 : Ext [] H (H.push (.cells (Value.cells (arr k)) zf (0, 0))) := .push _
 generalize hH1 : H.push (.cells (Value.cells (arr k)) zf (0, 0)) = H1 at *
 have hk1 : H1[H.size]? = some (.cells (byteCells k).toArray zf (0, 0)) := by rw [← hH1]; exact zn
 refine jl rfl ?_
 refine vg hw1 fun w2 hw2 => ?_
 simp only [xq]
 refine jh (t := some m) hw2 (hx1.get h1 (by simp)) rfl ?_
 refine jf hw2 hk1 (by simp [byteCells, hk]) ?_
 cases hg : zcf r k with
 | none =>
  have hv : zax r k = none := by simp [zax, hg]
  rw [hv]
  refine znk (l := [.slc, .bool]) ((none, 0, 0), false) (by refine (zjz K27 u57 z22 hw2 (hx1.get h2 (by simp)) h3 hk).trans ?_; rw [hg]; rfl) ?_
  refine zaa rfl ?_
  exact ⟨(none, 0, 0), rfl, by rw [hw2]; exact hx1, (by intro h; simp [got] at h), fun _ => rfl⟩
 | some v =>
  have hv : zax r k = some v.2 := by simp [zax, hg]
  obtain ⟨b, hb, _⟩ := z96 h3 hg
  obtain ⟨hO, hOf⟩ := h6 _ hb
  have hO : Mine H 0 qy 1 v.1 (byteCells v.2) := hO
  have hlv := hlen _ hv
  rw [hv]
  refine znk (l := [.slc, .bool]) (v.1, true) (by refine (zjz K27 u57 z22 hw2 (hx1.get h2 (by simp)) h3 hk).trans ?_; rw [hg]; rfl) ?_
  refine jl rfl ?_
  refine vg hw2 fun w3 hw3 => ?_
  refine jf hw3 hk1 (by simp [byteCells, hk]) ?_
  have hO1 := hO.ext hx1 (by simp)
  have hlen1 := hO.len
  have hle : v.1.2.1 ≤ v.1.2.2 := by
   rcases hO with ⟨h, _⟩ | ⟨_, _, _, _, _, _, _, h, _⟩
   ·rw [h]; exact Nat.le_refl _
   ·exact h
  refine zk (qim hw3 hO1.cells (by rw [← je, hlen1, Nat.mul_one]) hle (hR.ext hx1 (by simp)) (by omega)) ?_
  rintro e w4 ⟨rfl, hx4⟩
  refine ⟨arr (Sha.sum v.2), rfl, ?_⟩
  refine ⟨jf rfl (hx4.get hk1 (by simp)) (by simp [byteCells, hk]) rfl, ?_⟩
  refine xg (s := .bool) _ (z3x u27 u5 c5 g27 zad hk) ?_
  by_cases hs : Sha.sum v.2 = k
  ·refine jl (by simp [hs]) ?_
   refine zk (qef rfl (hO1.ext hx4 (by simp)).cells (by rw [← je, hlen1, Nat.mul_one]) (by omega)) ?_
   rintro e w5 ⟨x, rfl, hxO, hx5⟩
   refine ⟨x, rfl, ?_⟩
   have hgot : got (some v.2) k = 0 := by simp [got, hs]
   refine ⟨x, by rw [hgot]; rfl, (hx1.trans hx4).trans hx5, fun _ => ⟨_, rfl, hxO.mono (hx1.trans hx4).1⟩, fun h => absurd hgot h⟩
  ·refine zaa (by simp [hs]) ?_
   have hgot : got (some v.2) k = 51 := by simp [got, hs]
   exact ⟨(none, 0, 0), by rw [hgot]; rfl, hx1.trans hx4, (fun h => by rw [hgot] at h; cases h), fun _ => rfl⟩
theorem qhs {r : SM} {k k' : List UInt8} : zax (z8u r k) k' = if k' = k then none else zax r k' := by
 unfold zax; rw [qhj]; split <;> rfl
def spoilt (L : List UInt8) (at_ : Int) (t : UInt8) : List UInt8 := L.set at_.toNat (L.getD at_.toNat 0 ^^^ t)
def zhg (o : Option (List UInt8)) (at_ : Int) (t : UInt8) : Int := match o with | none => 50 | some L => if at_ < 0 ∨ (L.length : Int) ≤ at_ ∨ t = 0 then 1 else 0
abbrev BL := List (List UInt8 × List UInt8)
def zss (F : BL) (k : List UInt8) : Option (List UInt8) := (F.find? fun x => x.1 == k).map (·.2)
def zui (F : BL) (L : List UInt8) : BL := if (zss F (Sha.sum L)).isSome then F else F ++ [(Sha.sum L, L)]
def fresh (Ls : List (List UInt8)) : BL := Ls.foldl zui []
def extra (r : SM) (F : BL) : Nat := ((F.filter fun x => (zax r x.1).isNone).map fun x => x.2.length).sum
def z4f (V : Option (List UInt8)) (o : Option (List UInt8)) (k : List UInt8) : Option (List UInt8) := match o with
 | none => V
 | some L => match V with
  | none => some L
  | some old => if Sha.sum old = k then some old else some L
def long (Ls : List (List UInt8)) : Prop := ∃ L ∈ Ls, 4096 < L.length
def Rows (H : Heap) (a : Option Addr) (n : Nat) (Ls : List (List UInt8)) : Prop := n = Ls.length ∧ ∀ i (h : i < Ls.length), ∃ b o c T fr x, a = some ⟨b, o, none⟩ ∧ H[b]? = some (.cells c T fr) ∧ c[o + i]? = some (zc9 x) ∧ Cells H x.1 (byteCells Ls[i]) ∧
 x.2.1 = Ls[i].length ∧ x.2.1 ≤ x.2.2
def view (fr : SM) : BL := fr.map fun x => (x.1, x.2.1.2)
theorem ztm {fr : SM} {k : List UInt8} : zss (view fr) k = zax fr k := by
 induction fr with
 | nil => rfl
 | cons x l ih =>
  simp only [zss, view, List.map_cons, List.find?_cons] at ih ⊢
  unfold zax
  by_cases e : x.1 = k
  ·rw [zb1 e]; simp [e]
  ·rw [zbz e]
   have : (x.1 == k) = false := by simp [e]
   simp only [this]
   exact ih
theorem zvc {Ls : List (List UInt8)} {i : Nat} (h : i < Ls.length) : fresh (Ls.take (i + 1)) = zui (fresh (Ls.take i)) Ls[i] := by
 unfold fresh
 rw [List.take_add_one, List.getElem?_eq_getElem h, Option.toList_some, List.foldl_append]
 rfl
theorem Store.mono {H : Heap} {fp fp' : List Nat} {p : Nat} {q : Int} {r : SM} {c : Nat} (h : Store H fp p q r c) (hf : ∀ b ∈ fp, b ∈ fp') : Store H fp' p q r c := by
 obtain ⟨m, h1, h2, h3, h4, h5, h6, h7⟩ := h
 exact ⟨m, h1, h2, h3, hf p h4, hf m h5, fun x hx => ⟨(h6 x hx).1, fun b hb => hf b ((h6 x hx).2 b hb)⟩, h7⟩
def qg1 (r : SM) (k : List UInt8) : Nat := match zax r k with | none => 0 | some L => L.length
theorem z6b {r : SM} {c c' : Nat} (h : MOk (fun L => L.length = 32) r c) {k : List UInt8} {v : BV} : total (zo0 r k v c') + qg1 r k = total r + v.2.length := by
 unfold qg1 zax
 cases hg : zcf r k with
 | none =>
  rw [zm0 hg]
  simp [total]
 | some v' =>
  rw [zpl (by rw [hg]; rfl)]
  simp only [Option.map_some]
  have hk := h.keys
  clear h
  induction r with
  | nil => simp [zcf] at hg
  | cons x r ih =>
   simp only [List.map_cons, List.nodup_cons] at hk
   by_cases e : x.1 = k
   ·rw [zb1 e, Option.some.injEq] at hg
    have : r.map (fun x => if x.1 = k then (x.1, v, x.2.2) else x) = r := by
     rw [List.map_congr_left (g := id), List.map_id]
     intro y hy
     rw [if_neg]; rfl
     intro h; exact hk.1 (by rw [e, ← h]; exact List.mem_map.2 ⟨y, hy, rfl⟩)
    rw [List.map_cons, if_pos e, this, ← hg]
    simp only [total, List.map_cons, List.sum_cons]
    omega
   ·rw [zbz e] at hg
    have := ih hg hk.2
    rw [List.map_cons, if_neg e]
    simp only [total, List.map_cons, List.sum_cons] at this ⊢
    omega
theorem qic {r : SM} {k k' : List UInt8} {v : BV} {c : Nat} : zax (zo0 r k v c) k' = if k' = k then some v.2 else zax r k' := by
 unfold zax; rw [zwb]; split <;> rfl
def Ph1 (H : Heap) (r : SM) (Ls : List (List UInt8)) (i : Nat) (x : Int) (w : World) : Prop :=
 ∃ (fr : SM) (cf : Nat), i ≤ Ls.length ∧ x = (extra r (view fr) : Int) ∧ view fr = fresh (Ls.take i) ∧ Ext [] H w.heap ∧ w.heap[H.size]? = some (.map (ents arr (vl bv fr)) cf) ∧ MOk (fun L => L.length = 32) fr cf ∧ fr.length ≤ i ∧
  (∀ x ∈ fr, Mine w.heap H.size qy 1 x.2.1.1 (byteCells x.2.1.2) ∧ x.2.1.2.length ≤ 4096) ∧ Apart fr ∧ (∀ L ∈ Ls.take i, L.length ≤ 4096)
theorem qb4 {r : SM} {fr : SM} (h : ∀ x ∈ fr, x.2.1.2.length ≤ 4096) : extra r (view fr) ≤ 4096 * fr.length := by
 induction fr with
 | nil => simp [extra, view]
 | cons x l ih =>
  have h1 := ih fun y hy => h y (by simp [hy])
  have h2 := h x (by simp)
  simp only [extra, view, List.map_cons, List.filter_cons] at h1 ⊢
  split
  ·simp only [List.map_cons, List.sum_cons, List.length_cons]; omega
  ·simp only [List.length_cons]; omega
def Ph3 (H : Heap) (fp : List Nat) (p : Nat) (q : Int) (r fr : SM) (cf it : Nat) (n : Nat) (w : World) : Prop :=
 ∃ (seen : Array Nat) (r' : SM) (c' : Nat), Store w.heap (fp ++ fr.flatMap fun x => xu x.2.1.1) p q r' c' ∧ Ext fp H w.heap ∧ w.heap[H.size]? = some (.map (ents arr (vl bv fr)) cf) ∧ w.heap[it]? = some (.mapIter (some H.size) cf seen cf) ∧ H.size ≤ it ∧
  (∀ x ∈ fr, Mine w.heap H.size qy 1 x.2.1.1 (byteCells x.2.1.2)) ∧ (∀ k, zax r' k = if ∃ x ∈ fr, x.1 = k ∧ x.2.2 ∈ seen then z4f (zax r k) (zax fr k) k else zax r k) ∧
  n = (fr.filter fun y => !seen.contains y.2.2).length ∧ total r' + 4096 * n ≤ total r + 4096 * fr.length ∧ (∀ y ∈ r', (∀ b ∈ xu y.2.1.1, b ∈ fp) ∨ ∃ z ∈ fr, z.1 = y.1 ∧ z.2.1 = y.2.1)
def zxb (q : Int) (r : SM) (Ls : List (List UInt8)) (code : Int) (r' : SM) : Prop :=
 (long Ls → code = 2 ∧ r' = r) ∧ (¬ long Ls → q < total r + extra r (fresh Ls) → code = 3 ∧ r' = r) ∧
 (¬ long Ls → ¬ q < total r + extra r (fresh Ls) → code = 0 ∧ ∀ k, zax r' k = z4f (zax r k) (zss (fresh Ls) k) k)
set_option maxHeartbeats 8000000 in
theorem qbj {w : World} {H : Heap} {fp : List Nat} {p : Nat} {q : Int} {r : SM} {c : Nat} {a : Option Addr} {n nc : Nat} {Ls : List (List UInt8)} (hw : w.heap = H) (hS : Store H fp p q r c) (hfp : ∀ b ∈ fp, b < H.size) (hR : Rounds H) (h0 : 0 ∉ fp)
  (hL : Rows H a n Ls) (hb : total r + 4096 * Ls.length < 1125899906842624) (hq : 0 ≤ q) (hq2 : q ≤ 9223372036854775807) (hlen : ∀ k L, zax r k = some L → L.length < 1099511627776) :
  qg P zeh #[.pointer (some ⟨p, 0, none⟩), .slice a n nc] w fun e w' => ∃ code r' c' fp', e = .returned (.int .i64 code) ∧ Store w'.heap fp' p q r' c' ∧ Ext fp H w'.heap ∧ (∀ b ∈ fp', b < w'.heap.size) ∧ (∀ b ∈ fp', b ∈ fp ∨ H.size ≤ b) ∧ zxb q r Ls code r' ∧
   total r' ≤ total r + 4096 * Ls.length := by
 obtain ⟨rfl, hL⟩ := hL
 have hH0 : 0 < H.size := by obtain ⟨_, _, _, h, _⟩ := hR; exact lt_of_get h
 refine zqj ?_
 unfold zf8
 refine jl rfl ?_
 refine zai (s := .map) (some H.size) _ (ztc hw) ?_
 refine jd (fun (s : Int × Int) w => ∃ i : Nat, s.2 = (i : Int) ∧ Ph1 H r Ls i s.1 w) (fun s _ => (Ls.length - s.2).toNat) ⟨0, rfl, [], 0, by omega, rfl, rfl, .push _, zn, .nil, by simp, (by intro x hx; cases hx), (by intro x hx; cases hx), (by simp)⟩ ?_
 rintro ⟨x, _⟩ w2 ⟨i, rfl, fr, cf, hi, rfl, hF, hx2, hm2, hok, hfl, hown, hap, hsm⟩
 refine zq (fun hlt => ?_) (fun hge => ?_)
 ·have hlt : i < Ls.length := by simp only at hlt; omega
  refine joinP_of (fun s w => Ph1 H r Ls (i + 1) s w) ?_ ?_
  rotate_left
  ·intro s2 w3 h3
   refine xw ((i + 1 : Nat) : Int) (by simp only; omega) (by omega) (by omega) ?_
   exact ⟨⟨i + 1, rfl, h3⟩, by simp only; omega⟩
  obtain ⟨ba, oa, ca, Ta, fra, xs, rfl, hba, hca, hxc, hxl, hxc2⟩ := hL i hlt
  refine zoy i rfl hlt ?_
  refine jh (s := .slc) (t := xs) rfl (hx2.get hba (by simp)) hca ?_
  refine zq (fun hbig => ?_) (fun hsmall => ?_)
  ·-- too long
   have hlo : long Ls := ⟨Ls[i], List.getElem_mem hlt, by omega⟩
   exact ⟨2, r, c, fp, rfl, hS.ext hx2 (by simp), hx2.mono (by simp), fun b hb => Nat.lt_of_lt_of_le (hfp b hb) hx2.1, fun b hb => .inl hb, ⟨fun _ => ⟨rfl, rfl⟩, fun h => absurd hlo h, fun h => absurd hlo h⟩, by omega⟩
  have hlen4 : Ls[i].length ≤ 4096 := by omega
  generalize hLi : Ls[i] = L at *
  generalize hH2 : w2.heap = H2 at *
  have hxc' := hxc.ext hx2 (by simp)
  refine zk (qim hH2 hxc' hxl hxc2 (hR.ext hx2 (by simp)) (by omega)) ?_
  rintro e w3 ⟨rfl, hx3⟩
  refine ⟨arr (Sha.sum L), rfl, ?_⟩
  generalize hH3 : w3.heap = H3 at *
  have hx23 : Ext [] H H3 := hx2.trans hx3
  refine jw hH3 fun w4 hw4 => ?_
  refine zbf (z1s.trans (by rw [za3, zad])) (by rw [za3, zad]; omega) ku hw4 zn (by rw [qa1, za3, zad]; simp) fun w5 hw5 => ?_
  rw [show setCells (zc P zf) 0 (Value.cells (arr (Sha.sum L))).toList = (byteCells (Sha.sum L)).toArray from by rw [zam (by rw [qa1, Array.length_toList, za3, zad]; simp)]; simp [Value.cells, arr]] at hw5
  have hx5 : Ext [] H3 w5.heap := by rw [hw5]; exact (Ext.push _).set_own (.inl (Nat.le_refl _))
  have hk5 : w5.heap[H3.size]? = some (.cells (byteCells (Sha.sum L)).toArray zf (0, 0)) := by rw [hw5]; exact qm zn
  generalize hH5 : w5.heap = H5 at *
  have hx25 : Ext [] H2 H5 := hx3.trans hx5
  have hm5 := hx25.get hm2 (by simp)
  refine jf hH5 hk5 (by simp [byteCells, zad]) ?_
  have hown5 : ∀ x ∈ fr, Mine H5 H.size qy 1 x.2.1.1 (byteCells x.2.1.2) ∧ x.2.1.2.length ≤ 4096 := fun x hx => ⟨(hown x hx).1.ext hx25 (by simp), (hown x hx).2⟩
  cases hg : zcf fr (Sha.sum L) with
  | some v =>
   refine znk (l := [.slc, .bool]) (v.1, true) (by refine (zjz K27 u57 z22 hH5 hm5 hok zad).trans ?_; rw [hg]; rfl) ?_
   refine zaa rfl ?_
   refine ⟨fr, cf, hlt, rfl, ?_, ?_, ?_, hok, by omega, ?_, hap, ?_⟩
   ·rw [zvc hlt, ← hF, hLi]
    unfold zui
    rw [ztm, if_pos (by simp [zax, hg])]
   ·rw [hH5]; exact hx2.trans hx25
   ·rw [hH5]; exact hm5
   ·rw [hH5]; exact hown5
   ·intro M hM
    rw [List.take_add_one, List.mem_append] at hM
    rcases hM with hM | hM
    ·exact hsm M hM
    ·rw [List.getElem?_eq_getElem hlt] at hM; simp at hM; rw [hM, hLi]; exact hlen4
  | none =>
   refine znk (l := [.slc, .bool]) ((none, 0, 0), false) (by refine (zjz K27 u57 z22 hH5 hm5 hok zad).trans ?_; rw [hg]; rfl) ?_
   refine jl rfl ?_
   refine vg hH5 fun w6 hw6 => ?_
   refine jf hw6 hk5 (by simp [byteCells, zad]) ?_
   refine zk (qef hw6 (hxc'.ext hx25 (by simp)) hxl (by omega)) ?_
   rintro e w7 ⟨y, rfl, hyO, hx7⟩
   refine ⟨y, rfl, ?_⟩
   generalize hH7 : w7.heap = H7 at *
   refine ⟨jf hH7 (hx7.get hk5 (by simp)) (by simp [byteCells, zad]) rfl, ?_⟩
   have hm7 := hx7.get hm5 (by simp)
   refine zyt _ (ztl K27 u57 hH7 hm7 hok zad (y, L) rfl) ?_
   refine vg rfl fun w8 hw8 => ?_
   simp only [xq]
   obtain ⟨m, h1, h2, h3, h4, h5, h6, h7⟩ := hS
   have hx57 : Ext [] H H7 := (hx2.trans hx25).trans hx7
   have hx8 : Ext [] H (H7.setIfInBounds H.size (.map (ents arr (vl bv (zo0 fr (Sha.sum L) (y, L) cf))) (zu4 fr (Sha.sum L) cf))) := hx57.set_own (.inl (Nat.le_refl _))
   have hx78 : Ext [H.size] H7 (H7.setIfInBounds H.size (.map (ents arr (vl bv (zo0 fr (Sha.sum L) (y, L) cf))) (zu4 fr (Sha.sum L) cf))) := Ext.set _ (by simp)
   have hk8 : (H7.setIfInBounds H.size (.map (ents arr (vl bv (zo0 fr (Sha.sum L) (y, L) cf))) (zu4 fr (Sha.sum L) cf)))[H3.size]? = some (.cells (byteCells (Sha.sum L)).toArray zf (0, 0)) :=
    zhy (hx7.get hk5 (by simp)) (by have := lt_of_get hm2; have := hx3.1; omega)
   have hm8 : (H7.setIfInBounds H.size (.map (ents arr (vl bv (zo0 fr (Sha.sum L) (y, L) cf))) (zu4 fr (Sha.sum L) cf)))[H.size]? = some (.map (ents arr (vl bv (zo0 fr (Sha.sum L) (y, L) cf))) (zu4 fr (Sha.sum L) cf)) := qm hm7
   generalize (H7.setIfInBounds H.size (.map (ents arr (vl bv (zo0 fr (Sha.sum L) (y, L) cf))) (zu4 fr (Sha.sum L) cf))) = H8 at *
   refine jh (t := some m) hw8 (hx8.get h1 (by simp)) rfl ?_
   refine jf hw8 hk8 (by simp [byteCells, zad]) ?_
   have hupd : zo0 fr (Sha.sum L) (y, L) cf = fr ++ [(Sha.sum L, (y, L), cf)] := zm0 hg
   have hvw : view (zo0 fr (Sha.sum L) (y, L) cf) = view fr ++ [(Sha.sum L, L)] := by rw [hupd]; simp [view]
   have hVw : view fr ++ [(Sha.sum L, L)] = fresh (Ls.take (i + 1)) := by
    rw [zvc hlt, ← hF, hLi]
    unfold zui
    rw [ztm, if_neg (by simp [zax, hg])]
   have fin : ∀ (X : Int), X = (extra r (view fr ++ [(Sha.sum L, L)]) : Int) → Ph1 H r Ls (i + 1) X w8 := by
    intro X hX
    refine ⟨zo0 fr (Sha.sum L) (y, L) cf, zu4 fr (Sha.sum L) cf, hlt, by rw [hvw]; exact hX, by rw [hvw, hVw], by rw [hw8]; exact hx8, by rw [hw8]; exact hm8, hok.upd zad _, by rw [hupd]; simp; omega, ?_, ?_, ?_⟩
    ·intro z hz
     rw [hw8]
     rcases zo9 hz with ⟨hz1, hz2⟩ | ⟨_, hz2⟩
     ·rw [hz2]
      refine ⟨(hyO.ext hx78 fun b hb => ?_).mono (hx2.trans hx25).1, hlen4⟩
      have := jc hyO b hb
      have := lt_of_get hm5
      simp; omega
     ·refine ⟨((hown5 z hz2).1.ext hx7 (by simp)).ext hx78 fun b hb => ?_, (hown5 z hz2).2⟩
      rcases (hown5 z hz2).1 with ⟨h, _⟩ | ⟨bb, cc, h, _, hbb, _⟩
      ·simp [xu, h] at hb
      ·simp only [xu, h, List.mem_singleton] at hb
       subst hb
       simp only [List.mem_singleton]
       intro e; rw [e, hm5] at hbb; cases hbb
    ·have far : ∀ z ∈ fr, ∀ b ∈ xu z.2.1.1, b < H5.size := by
      intro z hz b hb
      rcases (hown5 z hz).1 with ⟨h, _⟩ | ⟨bb, cc, h, _, hbb, _⟩
      ·simp [xu, h] at hb
      ·simp only [xu, h, List.mem_singleton] at hb
       subst hb; exact lt_of_get hbb
     intro z hz z' hz' hne b hb hb'
     rcases zo9 hz with ⟨hz1, hz2⟩ | ⟨hz1, hz2⟩ <;> rcases zo9 hz' with ⟨hz1', hz2'⟩ | ⟨hz1', hz2'⟩
     ·exact hne (hz1.trans hz1'.symm)
     ·rw [hz2] at hb
      have := jc hyO b hb
      have := far z' hz2' b hb'
      omega
     ·rw [hz2'] at hb'
      have := jc hyO b hb'
      have := far z hz2 b hb
      omega
     ·exact hap z hz2 z' hz2' hne b hb hb'
    ·intro M hM
     rw [List.take_add_one, List.mem_append] at hM
     rcases hM with hM | hM
     ·exact hsm M hM
     ·rw [List.getElem?_eq_getElem hlt] at hM; simp at hM; rw [hM, hLi]; exact hlen4
   have hxl2 : (xs.2.1 : Int) = (L.length : Int) := by rw [hxl]
   cases hgr : zcf r (Sha.sum L) with
   | none =>
    refine znk (l := [.slc, .bool]) ((none, 0, 0), false) (by refine (zjz K27 u57 z22 hw8 (hx8.get h2 (by simp)) h3 zad).trans ?_; rw [hgr]; rfl) ?_
    refine zaa rfl ?_
    have hel := qb4 (r := r) fun x hx => (hown x hx).2
    refine xw ((extra r (view fr) + L.length : Nat) : Int) (by omega) (by omega) (by omega) ?_
    refine fin _ ?_
    simp only [extra, List.filter_append, List.map_append, List.sum_append]
    have : (zax r (Sha.sum L)).isNone = true := by simp [zax, hgr]
    simp [this]
   | some v =>
    refine znk (l := [.slc, .bool]) (v.1, true) (by refine (zjz K27 u57 z22 hw8 (hx8.get h2 (by simp)) h3 zad).trans ?_; rw [hgr]; rfl) ?_
    refine jl rfl ?_
    refine fin _ ?_
    simp only [extra, List.filter_append, List.map_append, List.sum_append]
    have : (zax r (Sha.sum L)).isNone = false := by simp [zax, hgr]
    simp [this]
 have hiL : i = Ls.length := by simp only at hge; omega
 subst hiL
 rw [List.take_length] at hF hsm
 have hnl : ¬ long Ls := fun ⟨L, hL', h⟩ => by have := hsm L hL'; omega
 have hex := qb4 (r := r) (fr := fr) fun x hx => (hown x hx).2
 have hS0 := hS
 obtain ⟨m, h1, h2, h3, h4, h5, h6, h7⟩ := hS
 refine vg rfl fun w3 hw3 => ?_
 generalize hH2 : w2.heap = H2 at *
 simp only [xq]
 refine jh (t := q) hw3 (hx2.get h1 (by simp)) rfl ?_
 refine jh (t := (total r : Int)) hw3 (hx2.get h1 (by simp)) rfl ?_
 refine zbs (q - total r) rfl (by omega) (by omega) ?_
 refine zq (fun hbig => ?_) (fun hfit => ?_)
 ·have hbig : q < total r + extra r (fresh Ls) := by rw [← hF]; omega
  exact ⟨3, r, c, fp, rfl, by rw [hw3]; exact hS0.ext hx2 (by simp), by rw [hw3]; exact hx2.mono (by simp), fun b hb => by rw [hw3]; exact Nat.lt_of_lt_of_le (hfp b hb) hx2.1, fun b hb => .inl hb, ⟨fun h => absurd h hnl, fun _ _ => ⟨rfl, rfl⟩, fun _ h => absurd hbig h⟩, by omega⟩
 have hfit : ¬ q < total r + extra r (fresh Ls) := by rw [← hF]; omega
 have hHH : H.size < H2.size := lt_of_get hm2
 refine zai (s := .ptr) (some ⟨H2.size, 0, none⟩) _ (qgn u57 hw3 hm2) ?_
 have hxr : Ext [] H2 (H2.push (.mapIter (some H.size) cf #[] cf)) := .push _
 refine zsu (fun n _ w => Ph3 H fp p q r fr cf H2.size n w) fr.length
  ⟨#[], r, c, ((hS0.ext hx2 (by simp)).ext hxr (by simp)).mono fun b hb => List.mem_append.2 (.inl hb), (hx2.trans hxr).mono (by simp), hxr.get hm2 (by simp), zn, Nat.le_of_lt hHH, fun x hx => (hown x hx).1.ext hxr (by simp), ?_, ?_, by omega, fun y hy => .inl (h6 y hy).2⟩ ?_
 ·intro k
  rw [if_neg]
  rintro ⟨x, _, _, h⟩
  simp at h
 ·rw [List.filter_eq_self.2]
  intro y _; simp
 rintro n _ w4 ⟨seen, r', c', hS4, hx4, hm4, hit4, hitl, hown4, hview, hn, htot, hsrc⟩ K hK
 have hFB : ∀ b ∈ fp ++ fr.flatMap (fun x => xu x.2.1.1), b < w4.heap.size ∧ b ≠ H.size ∧ b ≠ H2.size ∧ (b ∈ fp ∨ H.size ≤ b) := by
  intro b hb
  rcases List.mem_append.1 hb with hb | hb
  ·have := hfp b hb
   have := hx4.1
   exact ⟨by omega, by omega, by omega, .inl hb⟩
  ·obtain ⟨x, hx, hb⟩ := List.mem_flatMap.1 hb
   rcases hown4 x hx with ⟨h, _⟩ | ⟨bb, cc, h, hge', hbb, _⟩
   ·simp [xu, h] at hb
   ·simp only [xu, h, List.mem_singleton] at hb
    subst hb
    exact ⟨lt_of_get hbb, fun e => (by rw [e, hm4] at hbb; cases hbb), fun e => (by rw [e, hit4] at hbb; cases hbb), .inr hge'⟩
 have hfrlen : fr.length ≤ Ls.length := hfl
 rcases qix (P := P) (ty := 0) rfl hm4 hit4 hok.old (Nat.le_refl _) with ⟨hall, w5, hr5, hcm5, hw5⟩ | ⟨x, hx, hns, w5, hr5, hcm5, hw5⟩
 ·refine zai (s := .any) _ w5 hr5 ?_ hcm5
  refine zx1 (s := .bool) false rfl rfl ?_
  refine jl rfl ?_
  refine ⟨0, r', c', _, rfl, by rw [hw5]; exact hS4, by rw [hw5]; exact hx4, fun b hb => by rw [hw5]; exact (hFB b hb).1, fun b hb => (hFB b hb).2.2.2, ⟨fun h => absurd h hnl, fun _ h => absurd h hfit, fun _ _ => ⟨rfl, fun k => ?_⟩⟩, by omega⟩
  rw [hview, ← hF, ztm]
  by_cases hk : ∃ x ∈ fr, x.1 = k ∧ x.2.2 ∈ seen
  ·rw [if_pos hk]
  ·rw [if_neg hk]
   have : zax fr k = none := by
    unfold zax
    rw [zle]; rfl
    intro x hx e
    exact hk ⟨x, hx, e, hall x hx⟩
   rw [this]; rfl
 ·refine zai (s := .any) _ w5 hr5 ?_ hcm5
  refine zx1 (s := .bool) true rfl rfl ?_
  refine zaa rfl ?_
  refine joinP_of (fun _ w => ∃ n', n' < n ∧ Ph3 H fp p q r fr cf H2.size n' w) ?_ (fun _ w h => by obtain ⟨n', hn', hp⟩ := h; exact hK n' _ _ hn' hp)
  have hx1 : x.1.length = 32 := hok.fine x hx
  generalize hH4 : w4.heap = H4 at *
  have hit5 : w5.heap[H2.size]? = some (.mapIter (some H.size) cf (seen.push x.2.2) cf) := by rw [hw5]; exact qm hit4
  have hx45 : Ext [H2.size] H4 w5.heap := by rw [hw5]; exact Ext.set _ (by simp)
  generalize hH5 : w5.heap = H5 at *
  clear hw5
  have hm5 := hx45.get hm4 (by simp; omega)
  refine xg (s := .any) _ (qea (last := cf) hH5 hm5 hit5 hx hok) ?_
  refine zx1 (s := .any) (arr x.1) rfl rfl ?_
  refine zx1 (s := .slc) x.2.1.1 rfl rfl ?_
  refine jw hH5 fun w6 hw6 => ?_
  refine zbf (z1s.trans (by rw [za3, hx1])) (by rw [za3, hx1]; omega) ku hw6 zn (by rw [qa1, za3, hx1]; simp) fun w7 hw7 => ?_
  rw [show setCells (zc P zf) 0 (Value.cells (arr x.1)).toList = (byteCells x.1).toArray from by rw [zam (by rw [qa1, Array.length_toList, za3, hx1]; simp)]; simp [Value.cells, arr]] at hw7
  have hx57 : Ext [] H5 w7.heap := by rw [hw7]; exact (Ext.push _).set_own (.inl (Nat.le_refl _))
  have hk7 : w7.heap[H5.size]? = some (.cells (byteCells x.1).toArray zf (0, 0)) := by rw [hw7]; exact qm zn
  generalize hH7 : w7.heap = H7 at *
  clear hw7
  have hx47 : Ext [H2.size] H4 H7 := hx45.trans (hx57.mono (by simp))
  have hS7 := hS4.ext hx47 fun b hb => by simpa using (hFB b hb).2.2.1
  have hx7 : Ext fp H H7 := hx4.own hx47 (by intro b hb hlt; simp at hb; omega)
  have hm7 := hx57.get hm5 (by simp)
  have hit7 := hx57.get hit5 (by simp)
  have hown7 : ∀ x ∈ fr, Mine H7 H.size qy 1 x.2.1.1 (byteCells x.2.1.2) := fun y hy => (hown4 y hy).ext hx47 fun b hb => by
   simpa using (hFB b (List.mem_append.2 (.inr (List.mem_flatMap.2 ⟨y, hy, hb⟩)))).2.2.1
  have hR7 := hR.ext hx7 h0
  obtain ⟨m', g1, g2, g3, g4, g5, g6, g7⟩ := hS7
  have hvx : zax r' x.1 = zax r x.1 := by
   rw [hview, if_neg]
   rintro ⟨y, hy, e, hs⟩
   rw [key_inj hok hy hx e] at hs
   exact hns hs
  have hfx : zax fr x.1 = some x.2.1.2 := by
   unfold zax
   rw [zr7 hok.keys (k := x.1) (v := x.2.1) (c := x.2.2) hx]; rfl
  have hdone : ∀ k, (∃ y ∈ fr, y.1 = k ∧ y.2.2 ∈ seen.push x.2.2) ↔ (k = x.1 ∨ ∃ y ∈ fr, y.1 = k ∧ y.2.2 ∈ seen) := by
   intro k
   constructor
   ·rintro ⟨y, hy, e, hs⟩
    rcases Array.mem_push.1 hs with hs | hs
    ·exact .inr ⟨y, hy, e, hs⟩
    ·rw [← e, Go.Fw.born_inj hok hy hx hs]; exact .inl rfl
   ·rintro (rfl | ⟨y, hy, e, hs⟩)
    ·exact ⟨x, hx, rfl, Array.mem_push.2 (.inr rfl)⟩
    ·exact ⟨y, hy, e, Array.mem_push.2 (.inl hs)⟩
  have hlt := qfn (l := fr) hx hns
  have fin : ∀ (w : World) (r2 : SM) (c2 : Nat), Store w.heap (fp ++ fr.flatMap fun x => xu x.2.1.1) p q r2 c2 → Ext fp H7 w.heap → Ext [p, m'] H7 w.heap → (∀ k, zax r2 k = if k = x.1 then z4f (zax r k) (some x.2.1.2) k else zax r' k) →
    total r2 ≤ total r' + 4096 → (∀ y ∈ r2, (∀ b ∈ xu y.2.1.1, b ∈ fp) ∨ ∃ z ∈ fr, z.1 = y.1 ∧ z.2.1 = y.2.1) → ∃ n', n' < n ∧ Ph3 H fp p q r fr cf H2.size n' w := by
   intro w r2 c2 hS2 hxe hxe2 hv2 ht2 hs2
   have np : ∀ b, (b = H.size ∨ b = H2.size) → b ∉ [p, m'] := by
    intro b hb hb'
    simp only [List.mem_cons, List.not_mem_nil, or_false] at hb'
    rcases hb' with rfl | rfl
    ·have := hFB b g4; omega
    ·have := hFB b g5; omega
   refine ⟨(fr.filter fun y => !(seen.push x.2.2).contains y.2.2).length, by omega, seen.push x.2.2, r2, c2, hS2, hx7.trans hxe, hxe2.get hm7 (np _ (.inl rfl)), hxe2.get hit7 (np _ (.inr rfl)), hitl, ?_, ?_, rfl, by omega, hs2⟩
   ·intro y hy
    refine (hown7 y hy).ext hxe2 fun b hb hb' => ?_
    rcases hown7 y hy with ⟨h, _⟩ | ⟨bb, cc, h, _, hbb, _⟩
    ·simp [xu, h] at hb
    ·simp only [xu, h, List.mem_singleton] at hb
     subst hb
     simp only [List.mem_cons, List.not_mem_nil, or_false] at hb'
     rcases hb' with e | e
     ·rw [e, g1] at hbb; cases hbb
     ·rw [e, g2] at hbb; cases hbb
   ·intro k
    rw [hv2]
    by_cases hk : k = x.1
    ·rw [if_pos hk, if_pos ((hdone k).2 (.inl hk)), hk, hfx]
    ·rw [if_neg hk, hview]
     by_cases hd : ∃ y ∈ fr, y.1 = k ∧ y.2.2 ∈ seen
     ·rw [if_pos hd, if_pos ((hdone k).2 (.inr hd))]
     ·rw [if_neg hd, if_neg fun h => by rcases (hdone k).1 h with h | h; exact hk h; exact hd h]
  refine vg hH7 fun w8 hw8 => ?_
  refine jh (t := some m') hw8 g1 rfl ?_
  refine jf hw8 hk7 (by simp [byteCells, hx1]) ?_
  refine znk (l := [.slc, .bool]) (((zcf r' x.1).map (·.1)).getD (none, 0, 0), (zcf r' x.1).isSome) ?_ ?_
  ·refine (zjz K27 u57 z22 hw8 g2 g3 hx1).trans ?_
   cases zcf r' x.1 <;> rfl
  refine joinP_of (fun _ w => Ext [] H7 w.heap ∧ ∀ old, zax r x.1 = some old → Sha.sum old ≠ x.1) ?_ ?_
  ·refine vg hw8 fun w9 hw9 => ?_
   cases hg : zcf r' x.1 with
   | none =>
    refine jl rfl ?_
    refine ⟨trivial, by rw [hw9]; exact .refl _ _, fun old ho => ?_⟩
    rw [← hvx] at ho
    simp [zax, hg] at ho
   | some v =>
    have hv : zax r x.1 = some v.2 := by rw [← hvx]; simp [zax, hg]
    obtain ⟨bv', hbv, _⟩ := z96 g3 hg
    have hO : Mine H7 0 qy 1 v.1 (byteCells v.2) := (g6 _ hbv).1
    have hvl := hlen _ _ hv
    have hle : v.1.2.1 ≤ v.1.2.2 := by
     rcases hO with ⟨h, _⟩ | ⟨_, _, _, _, _, _, _, h, _⟩
     ·rw [h]; exact Nat.le_refl _
     ·exact h
    have hll := hO.len
    rw [je, Nat.mul_one] at hll
    refine zaa rfl ?_
    refine jf hw9 hk7 (by simp [byteCells, hx1]) ?_
    refine zk (qim hw9 hO.cells (by simp only [Option.map_some, Option.getD_some]; exact hll.symm) (by simpa using hle) hR7 (by omega)) ?_
    rintro e w10 ⟨rfl, hx10⟩
    refine ⟨arr (Sha.sum v.2), rfl, ?_⟩
    refine ⟨jf rfl (hx10.get hk7 (by simp)) (by simp [byteCells, hx1]) rfl, ?_⟩
    refine xg (s := .bool) _ (z9x u27 u5 c5 g27 zad hx1) ?_
    refine zq (fun hs => ?_) (fun hs => ?_)
    ·-- whole already
     refine fin _ r' c' ?_ (hx10.mono (by simp)) (hx10.mono (by simp)) (fun k => ?_) (by omega) hsrc
     ·have := (show Store H7 (fp ++ fr.flatMap fun x => xu x.2.1.1) p q r' c' from ⟨m', g1, g2, g3, g4, g5, g6, g7⟩)
      exact this.ext hx10 (by simp)
     ·by_cases hk : k = x.1
      ·subst hk
       rw [if_pos rfl, hvx, hv]
       simp [z4f, hs]
      ·rw [if_neg hk]
    ·refine ⟨hx10, fun old ho => ?_⟩
     rw [hv] at ho
     cases ho
     exact hs
  ·rintro _ w9 ⟨hx79, hold⟩
   generalize hH9 : w9.heap = H9 at *
   have g1' := hx79.get g1 (by simp)
   have hol : (((((zcf r' x.1).map fun v : BV => v.1).getD ((none, 0, 0) : Option Addr × Nat × Nat)).2.1 : Nat) : Int) = (qg1 r x.1 : Int) := by
    unfold qg1
    rw [← hvx]
    unfold zax
    cases hg : zcf r' x.1 with
    | none => rfl
    | some v =>
     obtain ⟨bv', hbv, _⟩ := z96 g3 hg
     have hO : Mine H7 0 qy 1 v.1 (byteCells v.2) := (g6 _ hbv).1
     have hll := hO.len
     rw [je, Nat.mul_one] at hll
     simp [hll]
   have hxlen : x.2.1.1.2.1 = x.2.1.2.length := by
    have := (hown7 x hx).len
    rw [je] at this; omega
   have hx4k := (hown x hx).2
   have htu := z6b g3 (k := x.1) (v := x.2.1) (c' := c')
   have hol2 : qg1 r' x.1 = qg1 r x.1 := by unfold qg1; rw [hvx]
   rw [hol2] at htu
   have htb : total r' ≤ total r + 4096 * fr.length := by omega
   refine jh (t := (total r' : Int)) hH9 g1' rfl ?_
   refine zbs ((x.2.1.2.length : Int) - (qg1 r x.1 : Int)) (by rw [hol, hxlen]) (by omega) (by omega) ?_
   refine xw ((total (zo0 r' x.1 x.2.1 c') : Nat) : Int) (by omega) (by omega) (by omega) ?_
   refine zcd hH9 g1' (by simp) fun w10 hw10 => ?_
   refine vg hw10 fun w11 hw11 => ?_
   have hpm : p ≠ m' := by intro e; rw [e] at g1; rw [g1] at g2; cases g2
   have g2' := hx79.get g2 (by simp)
   have hk9 := hx79.get hk7 (by simp)
   have hp10 : w10.heap[p]? = some (.cells #[Value.int .i64 q, .int .i64 (total (zo0 r' x.1 x.2.1 c') : Int), .map (some m')] zic (0, 0)) := by rw [hw10]; exact qm g1'
   have hm10 : w10.heap[m']? = some (.map (ents arr (vl bv r')) c') := by rw [hw10]; exact zhy g2' (Ne.symm hpm)
   have hk10 : w10.heap[H5.size]? = some (.cells (byteCells x.1).toArray zf (0, 0)) := by
    rw [hw10]; exact zhy hk9 (show H5.size ≠ p from fun e => by rw [← e, hk7] at g1; injection g1 with g1; injection g1 with _ g1; exact absurd g1 (by decide))
   have hx10 : Ext [p] H7 w10.heap := by rw [hw10]; exact (hx79.mono (by simp)).trans (Ext.set _ (by simp))
   rw [← hw10] at hw11
   generalize w10.heap = H10 at *
   refine jh (t := some m') hw11 hp10 rfl ?_
   refine jf hw11 hk10 (by simp [byteCells, hx1]) ?_
   refine zyt _ (ztl K27 u57 hw11 hm10 g3 hx1 x.2.1 rfl) ?_
   have hx11 : Ext [p, m'] H7 (H10.setIfInBounds m' (.map (ents arr (vl bv (zo0 r' x.1 x.2.1 c'))) (zu4 r' x.1 c'))) := (hx10.mono (by simp)).trans (Ext.set _ (by simp))
   have hpf : p ∈ fp := h4
   have hpm' : m' ∈ fp := by
    rcases List.mem_append.1 g5 with h | h
    ·exact h
    ·obtain ⟨z, hz, hb⟩ := List.mem_flatMap.1 h
     rcases hown7 z hz with ⟨h, _⟩ | ⟨bb, cc, h, _, hbb, _⟩
     ·simp [xu, h] at hb
     ·simp only [xu, h, List.mem_singleton] at hb
      subst hb
      rw [g2] at hbb; cases hbb
   refine fin _ (zo0 r' x.1 x.2.1 c') (zu4 r' x.1 c') ⟨m', zhy hp10 hpm, qm hm10, g3.upd hx1 _, g4, g5, ?_, ?_⟩ (hx11.mono (by simp [hpf, hpm'])) hx11 (fun k => ?_) (by omega) ?_
   ·intro y hy
    have ex : ∀ (s : BV), (∀ b ∈ xu s.1, b ∈ fp ++ fr.flatMap fun x => xu x.2.1.1) → ∀ B, Mine H7 B qy 1 s.1 (byteCells s.2) → Mine (H10.setIfInBounds m' (.map (ents arr (vl bv (zo0 r' x.1 x.2.1 c'))) (zu4 r' x.1 c'))) 0 5 1 s.1 (byteCells s.2) := by
     intro s _ B hO
     refine (hO.mono (Nat.zero_le _)).ext hx11 fun b hb hb' => ?_
     rcases hO with ⟨h, _⟩ | ⟨bb, cc, h, _, hbb, _⟩
     ·simp [xu, h] at hb
     ·simp only [xu, h, List.mem_singleton] at hb
      subst hb
      simp only [List.mem_cons, List.not_mem_nil, or_false] at hb'
      rcases hb' with e | e
      ·rw [e, g1] at hbb; cases hbb
      ·rw [e, g2] at hbb; cases hbb
    rcases zo9 hy with ⟨hy1, hy2⟩ | ⟨hy1, hy2⟩
    ·rw [hy2]
     have hsub : ∀ b ∈ xu x.2.1.1, b ∈ fp ++ fr.flatMap fun x => xu x.2.1.1 := fun b hb => List.mem_append.2 (.inr (List.mem_flatMap.2 ⟨x, hx, hb⟩))
     exact ⟨ex _ hsub _ (hown7 x hx), hsub⟩
    ·exact ⟨ex _ (g6 y hy2).2 _ (g6 y hy2).1, (g6 y hy2).2⟩
   ·-- apart
    have sep : ∀ y ∈ r', y.1 ≠ x.1 → ∀ b ∈ xu y.2.1.1, b ∉ xu x.2.1.1 := by
     intro y hy hne b hb hb'
     rcases hsrc y hy with h | ⟨z, hz, hz1, hz2⟩
     ·have := hfp b (h b hb)
      have := jc (hown7 x hx) b hb'
      omega
     ·rw [← hz2] at hb
      exact hap z hz x hx (by rw [hz1]; exact hne) b hb hb'
    intro y hy y' hy' hne b hb hb'
    rcases zo9 hy with ⟨a1, a2⟩ | ⟨a1, a2⟩ <;> rcases zo9 hy' with ⟨b1, b2⟩ | ⟨b1, b2⟩
    ·exact hne (a1.trans b1.symm)
    ·rw [a2] at hb
     exact sep y' b2 b1 b hb' hb
    ·rw [b2] at hb'
     exact sep y a2 a1 b hb hb'
    ·exact g7 y a2 y' b2 hne b hb hb'
   ·rw [qic]
    by_cases hk : k = x.1
    ·rw [if_pos hk, if_pos hk]
     subst hk
     cases hv : zax r x.1 with
     | none => rfl
     | some old => simp only [z4f, if_neg (hold old hv)]
    ·rw [if_neg hk, if_neg hk]
   ·intro y hy
    rcases zo9 hy with ⟨a1, a2⟩ | ⟨a1, a2⟩
    ·exact .inr ⟨x, hx, a1.symm, a2.symm⟩
    ·exact hsrc y a2
def nought : List UInt8 := List.replicate 32 0
theorem zda : nought.length = 32 := by simp [nought]
def Small (r : SM) : Prop := ∀ k L, zax r k = some L → L.length < 1099511627776
end Go.Proofs.YtbmegmbnlajbbaaGreatDoor.Bl
namespace Go.Fw.Sha
open Go.Fw
def M32 : Nat := 4294967296
def rN (x n : Nat) : Nat := x >>> n ||| (x <<< (32 - n)) % M32
def force (n : Nat) (k : Nat → List Nat) : List Nat := Nat.rec (k 0) (fun m _ => k (Nat.succ m)) n
theorem force_eq (n : Nat) (k : Nat → List Nat) : force n k = k n := by cases n <;> rfl
def qjf (ws : List Nat) : Nat :=
 let x := ws.getD 1 0
 let y := ws.getD 14 0
 ((((rN x 17 ^^^ rN x 19 ^^^ x >>> 10) + ws.getD 6 0) % M32 + (rN y 7 ^^^ rN y 18 ^^^ y >>> 3)) % M32 + ws.getD 15 0) % M32
def z5i : Nat → List Nat → List Nat
 | 0, ws => ws
 | n + 1, ws => force (qjf ws) fun v => z5i n (v :: ws)
def qng (x : Nat) : Nat := 4294967295 - x
def qmq (e f g h k w : Nat) : Nat := ((((h + (rN e 6 ^^^ rN e 11 ^^^ rN e 25)) % M32 + (e &&& f ^^^ qng e &&& g)) % M32 + k) % M32 + w) % M32
def qm8 (a b c : Nat) : Nat := ((rN a 2 ^^^ rN a 13 ^^^ rN a 22) + (a &&& b ^^^ a &&& c ^^^ b &&& c)) % M32
def z3f : List Nat → List Nat → (a b c d e f g h : Nat) → List Nat
 | k :: ks, w :: ws, a, b, c, d, e, f, g, h =>
  force (qmq e f g h k w) fun t1 => force ((t1 + qm8 a b c) % M32) fun a' => force ((d + t1) % M32) fun e' => z3f ks ws a' a b c e' e f g
 | _, _, a, b, c, d, e, f, g, h => [a, b, c, d, e, f, g, h]
def nums (f : Nat → BitVec 32) (n : Nat) : List Nat := (List.range n).map fun i => (f i).toNat
def zoz (f : Nat → BitVec 32) : Nat → List Nat
 | 0 => []
 | n + 1 => (f n).toNat :: zoz f n
theorem zpj (f : Nat → BitVec 32) : ∀ (n i : Nat), i < n → (zoz f n).getD i 0 = (f (n - 1 - i)).toNat
 | 0, _, h => by omega
 | n + 1, 0, _ => by simp [zoz]
 | n + 1, i + 1, h => by
  have := zpj f n i (by omega)
  simp only [zoz, List.getD_cons_succ, this]
  congr 2
  omega
theorem z1w (x : BitVec 32) (n : Nat) : (rotr x n).toNat = rN x.toNat n := by
 simp [rotr, rN, M32]
theorem qhd (m : Nat → BitVec 32) {t : Nat} (h : 16 ≤ t) : qjf (zoz (W m) t) = (W m t).toNat := by
 rw [W_ge h]
 simp only [qjf, zpj _ _ _ (show 1 < t by omega), zpj _ _ _ (show 14 < t by omega), zpj _ _ _ (show 6 < t by omega), zpj _ _ _ (show 15 < t by omega), BitVec.toNat_add, BitVec.toNat_xor, z1w, BitVec.toNat_ushiftRight]
 rw [show t - 1 - 1 = t - 2 from by omega, show t - 1 - 14 = t - 15 from by omega, show t - 1 - 6 = t - 7 from by omega, show t - 1 - 15 = t - 16 from by omega]
 rfl
theorem qap (m : Nat → BitVec 32) : ∀ (n t : Nat), 16 ≤ t → z5i n (zoz (W m) t) = zoz (W m) (t + n)
 | 0, t, _ => rfl
 | n + 1, t, h => by
  rw [z5i, force_eq, qhd m h]
  show z5i n (zoz (W m) (t + 1)) = _
  rw [qap m n (t + 1) (by omega), show t + 1 + n = t + (n + 1) from by omega]
theorem qkl (s : Nat → BitVec 32) (k w : BitVec 32) : (one s k w).toNat = qmq (s 4).toNat (s 5).toNat (s 6).toNat (s 7).toNat k.toNat w.toNat := by
 simp only [one, qmq, BitVec.toNat_add, BitVec.toNat_xor, z1w, BitVec.toNat_and, BitVec.toNat_not, qng]
 rfl
theorem ql2 (s : Nat → BitVec 32) : (two s).toNat = qm8 (s 0).toNat (s 1).toNat (s 2).toNat := by
 simp only [two, qm8, BitVec.toNat_add, BitVec.toNat_xor, z1w, BitVec.toNat_and]
 rfl
def zsr (f : Nat → BitVec 32) (t : Nat) : Nat → List Nat
 | 0 => []
 | n + 1 => (f t).toNat :: zsr f (t + 1) n
theorem z6a (w s : Nat → BitVec 32) : ∀ (n t : Nat), z3f (zsr K t n) (zsr w t n) (rnd w s t 0).toNat (rnd w s t 1).toNat (rnd w s t 2).toNat (rnd w s t 3).toNat (rnd w s t 4).toNat (rnd w s t 5).toNat (rnd w s t 6).toNat (rnd w s t 7).toNat =
  nums (rnd w s (t + n)) 8
 | 0, t => rfl
 | n + 1, t => by
  simp only [zsr, z3f, force_eq]
  rw [← qkl, ← ql2]
  have h := z6a w s n (t + 1)
  rw [show t + 1 + n = t + (n + 1) from by omega] at h
  rw [← h]
  congr 1
theorem z7g (f : Nat → BitVec 32) : ∀ (n : Nat) (l : List Nat), (zoz f n).reverse ++ l = zsr f 0 n ++ l := by
 have key : ∀ (n t : Nat), zsr f t (n + 1) = zsr f t n ++ [(f (t + n)).toNat] := by
  intro n
  induction n with
  | zero => intro t; rfl
  | succ n ih =>
   intro t
   rw [zsr, ih (t + 1), show t + 1 + n = t + (n + 1) from by omega]
   rfl
 intro n
 induction n with
 | zero => intro l; rfl
 | succ n ih =>
  intro l
  rw [zoz, List.reverse_cons, List.append_assoc, ih, key, Nat.zero_add]
  simp
def qjr (ms : List Nat) (s : List Nat) : List Nat :=
 let ws := (z5i 48 ms.reverse).reverse
 (z3f kc ws (s.getD 0 0) (s.getD 1 0) (s.getD 2 0) (s.getD 3 0) (s.getD 4 0) (s.getD 5 0) (s.getD 6 0) (s.getD 7 0)).zipWith (fun x y => (y + x) % M32) s
theorem qmx : zsr K 0 64 = kc := by kernel_rfl
theorem qi3 (s m : Nat → BitVec 32) : qjr (zsr m 0 16) (nums s 8) = nums (comp s m) 8 := by
 have h1 : (zsr m 0 16).reverse = zoz (W m) 16 := by
  have h2 : zoz (W m) 16 = zoz m 16 := by
   have : ∀ n, n ≤ 16 → zoz (W m) n = zoz m n := by
    intro n
    induction n with
    | zero => intro _; rfl
    | succ n ih =>
     intro hn
     rw [zoz, zoz, ih (by omega), W_lt (by omega)]
   exact this 16 (Nat.le_refl _)
  rw [h2]
  have := z7g m 16 []
  simp only [List.append_nil] at this
  rw [← this, List.reverse_reverse]
 have h3 : ((zoz (W m) 64).reverse) = zsr (W m) 0 64 := by
  have := z7g (W m) 64 []
  simpa using this
 unfold qjr
 simp only [h1]
 rw [qap m 48 16 (Nat.le_refl _), h3, ← qmx]
 have h4 := z6a (W m) s 64 0
 have h5 : ∀ i, i < 8 → (nums s 8).getD i 0 = (rnd (W m) s 0 i).toNat := by
  intro i hi
  simp [nums, List.getD_eq_getElem?_getD, hi, rnd]
 rw [h5 0 (by omega), h5 1 (by omega), h5 2 (by omega), h5 3 (by omega), h5 4 (by omega), h5 5 (by omega), h5 6 (by omega), h5 7 (by omega), h4]
 simp only [nums, Nat.zero_add]
 rw [List.zipWith_map, List.zipWith_self]
 apply List.map_congr_left
 intro i _
 simp only [comp, BitVec.toNat_add]
 rfl
def qka (l : List UInt8) (n t : Nat) : Nat := ((nth l (64 * n + 4 * t)).toNat <<< 24) % M32 ||| ((nth l (64 * n + (4 * t + 1))).toNat <<< 16) % M32 ||| ((nth l (64 * n + (4 * t + 2))).toNat <<< 8) % M32 ||| (nth l (64 * n + (4 * t + 3))).toNat
def qat (l : List UInt8) (n : Nat) : Nat → Nat → List Nat
 | _, 0 => []
 | t, k + 1 => qka l n t :: qat l n (t + 1) k
def z16 (l : List UInt8) : Nat → List Nat
 | 0 => ic
 | n + 1 => qjr (qat l n 0 16) (z16 l n)
theorem qjw (b : UInt8) : (b32 b).toNat = b.toNat := by
 have := b.toNat_lt
 simp [b32]
theorem qh2 (l : List UInt8) (n t : Nat) : qka l n t = (word (fun j => nth l (64 * n + j)) t).toNat := by
 simp only [qka, word, BitVec.toNat_or, BitVec.toNat_shiftLeft, qjw]
 rfl
theorem z7w (l : List UInt8) (n : Nat) : ∀ (k t : Nat), qat l n t k = zsr (word (fun j => nth l (64 * n + j))) t k
 | 0, _ => rfl
 | k + 1, t => by rw [qat, zsr, qh2, z7w l n k (t + 1)]
theorem qmv : nums init 8 = ic := by kernel_rfl
theorem z1e (l : List UInt8) : ∀ n, z16 l n = nums (blocks l n) 8
 | 0 => qmv.symm
 | n + 1 => by rw [z16, blocks, ← qi3, z1e l n, z7w]
def qne (l : List UInt8) : List UInt8 :=
 let s := z16 (pad l) ((pad l).length / 64)
 (List.range 32).map fun i => UInt8.ofNat (s.getD (i / 4) 0 >>> (24 - 8 * (i % 4)))
theorem sum_eq (l : List UInt8) : sum l = qne l := by
 unfold sum qne
 apply List.map_congr_left
 intro i hi
 have hi : i < 32 := by simpa using hi
 simp only [z1e, out]
 have : (nums (blocks (pad l) ((pad l).length / 64)) 8).getD (i / 4) 0 = (blocks (pad l) ((pad l).length / 64) (i / 4)).toNat := by
  have : i / 4 < 8 := by omega
  simp [nums, List.getD_eq_getElem?_getD, this]
 rw [this]
 simp [lo8]
end Go.Fw.Sha
namespace Go.Proofs.YtbmegmbnlajbbaaGreatDoor.Bl
open Go Go.Fw Go.Proofs
theorem qcf {r : SM} (hk : (r.map (·.1)).Nodup) {k : List UInt8} {v : BV} (hg : zcf r k = some v) : (z8u r k).length + 1 = r.length := by
 induction r with
 | nil => simp [zcf] at hg
 | cons x r ih =>
  simp only [List.map_cons, List.nodup_cons] at hk
  by_cases e : x.1 = k
  ·rw [zvl e, z5p fun y hy h => hk.1 (by rw [e, ← h]; exact List.mem_map.2 ⟨y, hy, rfl⟩)]
   simp
  ·rw [zbz e] at hg
   have := ih hk.2 hg
   rw [zvs e]
   simp only [List.length_cons]
   omega
theorem qdx {r : SM} (hk : (r.map (·.1)).Nodup) {k : List UInt8} {v : BV} (hg : zcf r k = some v) : total (z8u r k) + v.2.length = total r := by
 induction r with
 | nil => simp [zcf] at hg
 | cons x r ih =>
  simp only [List.map_cons, List.nodup_cons] at hk
  by_cases e : x.1 = k
  ·rw [zb1 e, Option.some.injEq] at hg
   rw [zvl e, z5p fun y hy h => hk.1 (by rw [e, ← h]; exact List.mem_map.2 ⟨y, hy, rfl⟩), ← hg]
   simp [total, Nat.add_comm]
  ·rw [zbz e] at hg
   have := ih hk.2 hg
   rw [zvs e]
   simp only [total, List.map_cons, List.sum_cons] at this ⊢
   omega
theorem zsz : ∀ {r s : SM}, (r.map (·.1)).Nodup → (s.map (·.1)).Nodup → (∀ k, zax r k = zax s k) → total r = total s ∧ r.length = s.length
 | [], s, _, _, h => by
  cases s with
  | nil => exact ⟨rfl, rfl⟩
  | cons y s =>
   have := h y.1
   unfold zax at this
   rw [zb1 rfl] at this
   simp [zcf] at this
 | x :: r, s, hr, hs, h => by
  simp only [List.map_cons, List.nodup_cons] at hr
  have h1 := h x.1
  unfold zax at h1
  rw [zb1 rfl] at h1
  cases hg : zcf s x.1 with
  | none => rw [hg] at h1; simp at h1
  | some v =>
   rw [hg] at h1
   simp only [Option.map_some, Option.some.injEq] at h1
   have hd : ((z8u s x.1).map (·.1)).Nodup := hs.sublist (List.Sublist.map _ List.filter_sublist)
   obtain ⟨i1, i2⟩ := zsz (r := r) (s := z8u s x.1) hr.2 hd fun k => by
    rw [qhs]
    by_cases e : k = x.1
    ·rw [if_pos e]
     unfold zax
     rw [zle]; rfl
     intro y hy e2
     exact hr.1 (by rw [← e, ← e2]; exact List.mem_map.2 ⟨y, hy, rfl⟩)
    ·rw [if_neg e, ← h k]
     unfold zax
     rw [zbz (Ne.symm e)]
   have t1 := qdx hs hg
   have t2 := qcf hs hg
   simp only [total, List.map_cons, List.sum_cons, List.length_cons] at i1 t1 ⊢
   rw [h1]
   omega
theorem Store.ok {H : Heap} {fp : List Nat} {p : Nat} {q : Int} {r : SM} {c : Nat} (h : Store H fp p q r c) : MOk (fun L => L.length = 32) r c := by
 obtain ⟨m, _, _, h3, _⟩ := h; exact h3
theorem qmp {w : World} {H : Heap} {k : List UInt8} (hw : w.heap = H) (hk : k.length = 32) {K : Nat → World → Prop}
  (hK : ∀ w', w'.heap[H.size]? = some (.cells (byteCells k).toArray zf (0, 0)) → Ext [] H w'.heap → H.size < w'.heap.size → K H.size w') :
  zbi (zc P zf) zf w fun b w1 => zbn P (storeVar zf (⟨b, 0, none⟩ : Addr) (arr k)) w1 fun w2 => K b w2 := by
 refine jw hw fun w1 hw1 => ?_
 refine zbf (z1s.trans (by rw [za3, hk])) (by rw [za3, hk]; omega) ku hw1 zn (by rw [qa1, za3, hk]; simp) fun w5 hw5 => ?_
 rw [show setCells (zc P zf) 0 (Value.cells (arr k)).toList = (byteCells k).toArray from by rw [zam (by rw [qa1, Array.length_toList, za3, hk]; simp)]; simp [Value.cells, arr]] at hw5
 exact hK w5 (by rw [hw5]; exact qm zn) (by rw [hw5]; exact (Ext.push _).set_own (.inl (Nat.le_refl _))) (by rw [hw5]; simp)
end Go.Proofs.YtbmegmbnlajbbaaGreatDoor.Bl
namespace Go.Proofs
open Go.Shelf
def Tryz.sortD_ren : Go.Shelf.Ren := ⟨fun | 6 => 149 | 15 => 161 | 14 => 183 | 28 => 198 | 29 => 199 | 20 => 208 | 21 => 209 | 22 => 210 | 23 => 211 | 24 => 212 | 25 => 213 | 26 => 214 | 27 => 215 | 46 => 225 | 47 => 218 | 48 => 219 | 49 => 226 | 50 => 227 | 57 => 230 | n => n, fun | 22 => 59 | 24 => 30 | 25 => 177 | 3 => 3 | 39 => 64 | 0 => 0 | 53 => 163 | 55 => 162 | 4 => 4 | 46 => 279 | 45 => 278 | 50 => 149 | 5 => 5 | 9 => 9 | 66 => 298 | 70 => 301 | 76 => 307 | 77 => 308 | n => n, fun | n => n⟩
def Tryz.sortE_ren : Go.Shelf.Ren := ⟨fun | 6 => 109 | 15 => 161 | 14 => 160 | 28 => 198 | 29 => 199 | 20 => 190 | 21 => 191 | 22 => 192 | 23 => 193 | 24 => 194 | 25 => 195 | 26 => 196 | 27 => 197 | 46 => 217 | 47 => 218 | 48 => 219 | 49 => 220 | 50 => 221 | 57 => 229 | n => n, fun | 22 => 105 | 24 => 117 | 25 => 191 | 3 => 3 | 39 => 64 | 0 => 0 | 53 => 163 | 55 => 162 | 4 => 4 | 46 => 279 | 45 => 278 | 50 => 149 | 5 => 5 | 9 => 9 | 66 => 298 | 70 => 301 | 76 => 307 | 77 => 308 | n => n, fun | n => n⟩
theorem Tryz.sortE : Go.Proofs.SlLaysF0.n6 Tryz.prog Tryz.sortE_ren := {
 mixed := by kernel_rfl
 f6 := ⟨Tryz.f109.name, by decide, Tryz.func109.trans (congrArg some (by kernel_rfl))⟩
 f14 := ⟨Tryz.f160.name, by decide, Tryz.func160.trans (congrArg some (by kernel_rfl))⟩
 f15 := Tryz.func161.trans (congrArg some (by kernel_rfl))
 f20 := ⟨Tryz.f190.name, by decide, Tryz.func190.trans (congrArg some (by kernel_rfl))⟩
 f21 := ⟨Tryz.f191.name, by decide, Tryz.func191.trans (congrArg some (by kernel_rfl))⟩
 f22 := ⟨Tryz.f192.name, by decide, Tryz.func192.trans (congrArg some (by kernel_rfl))⟩
 f23 := ⟨Tryz.f193.name, by decide, Tryz.func193.trans (congrArg some (by kernel_rfl))⟩
 f24 := ⟨Tryz.f194.name, by decide, Tryz.func194.trans (congrArg some (by kernel_rfl))⟩
 f25 := ⟨Tryz.f195.name, by decide, Tryz.func195.trans (congrArg some (by kernel_rfl))⟩
 f26 := ⟨Tryz.f196.name, by decide, Tryz.func196.trans (congrArg some (by kernel_rfl))⟩
 f27 := ⟨Tryz.f197.name, by decide, Tryz.func197.trans (congrArg some (by kernel_rfl))⟩
 f28 := Tryz.func198.trans (congrArg some (by kernel_rfl))
 f29 := Tryz.func199.trans (congrArg some (by kernel_rfl))
 f46 := ⟨Tryz.f217.name, by decide, Tryz.func217.trans (congrArg some (by kernel_rfl))⟩
 f47 := Tryz.func218.trans (congrArg some (by kernel_rfl))
 f48 := Tryz.func219.trans (congrArg some (by kernel_rfl))
 f49 := ⟨Tryz.f220.name, by decide, Tryz.func220.trans (congrArg some (by kernel_rfl))⟩
 f50 := ⟨Tryz.f221.name, by decide, Tryz.func221.trans (congrArg some (by kernel_rfl))⟩
 f57 := ⟨Tryz.f229.name, by decide, Tryz.func229.trans (congrArg some (by kernel_rfl))⟩
 t0 := Tryz.underlying0
 a0 := Tryz.isAgg0
 z0 := Tryz.sizeOf0
 v0 := Tryz.zeroValue0
 t3 := Tryz.underlying3
 a3 := Tryz.isAgg3
 z3 := Tryz.sizeOf3
 v3 := Tryz.zeroValue3
 t4 := Tryz.underlying4
 a4 := Tryz.isAgg4
 z4 := Tryz.sizeOf4
 v4 := Tryz.zeroValue4
 t5 := Tryz.underlying5
 a5 := Tryz.isAgg5
 z5 := Tryz.sizeOf5
 v5 := Tryz.zeroValue5
 t9 := Tryz.underlying9
 a9 := Tryz.isAgg9
 z9 := Tryz.sizeOf9
 v9 := Tryz.zeroValue9
 t22 := Tryz.underlying105
 a22 := Tryz.isAgg105
 z22 := Tryz.sizeOf105
 v22 := Tryz.zeroValue105
 t25 := Tryz.underlying191
 a25 := Tryz.isAgg191
 z25 := Tryz.sizeOf191
 v25 := Tryz.zeroValue191
 t39 := Tryz.underlying64
 a39 := Tryz.isAgg64
 z39 := Tryz.sizeOf64
 v39 := Tryz.zeroValue64
 t45 := Tryz.underlying278
 a45 := Tryz.isAgg278
 z45 := Tryz.sizeOf278
 v45 := Tryz.zeroValue278
 t46 := Tryz.underlying279
 a46 := Tryz.isAgg279
 z46 := Tryz.sizeOf279
 v46 := Tryz.zeroValue279
 t50 := Tryz.underlying149
 a50 := Tryz.isAgg149
 z50 := Tryz.sizeOf149
 v50 := Tryz.zeroValue149
 t53 := Tryz.underlying163
 a53 := Tryz.isAgg163
 z53 := Tryz.sizeOf163
 v53 := Tryz.zeroValue163
 t55 := Tryz.underlying162
 a55 := Tryz.isAgg162
 z55 := Tryz.sizeOf162
 v55 := Tryz.zeroValue162
 t66 := Tryz.underlying298
 a66 := Tryz.isAgg298
 z66 := Tryz.sizeOf298
 v66 := Tryz.zeroValue298
 t70 := Tryz.underlying301
 a70 := Tryz.isAgg301
 z70 := Tryz.sizeOf301
 v70 := Tryz.zeroValue301
 t76 := Tryz.underlying307
 a76 := Tryz.isAgg307
 z76 := Tryz.sizeOf307
 v76 := Tryz.zeroValue307
 t77 := Tryz.underlying308
 a77 := Tryz.isAgg308
 z77 := Tryz.sizeOf308
 v77 := Tryz.zeroValue308 }
end Go.Proofs
namespace Go.Proofs.YtbmegmbnlajbbaaGreatDoor.Bl
open Go Go.Fw Go.Proofs
theorem qkg : P.underlying jy = some (.slice zf) := by kernel_rfl
theorem E27 : Elem P zf 32 32 := zmn (z := arr (List.replicate 32 0)) (by kernel_rfl) rfl
theorem sz5 : (P.info? qy).map (·.size) = some 1 := by kernel_rfl
theorem qc8 {w : World} {H : Heap} {a a' : Option Addr} {l c l' c' : Nat} {L L' : List UInt8} (hw : w.heap = H) (hL : Cells H a (byteCells L)) (hl : l = L.length) (hL' : Cells H a' (byteCells L')) (hl' : l' = L'.length) :
  qg P zkd #[.slice a l c, .slice a' l' c'] w fun e w' => e = .returned (.int .i64 (Lib.compareBytes L L')) ∧ w' = w := by
 refine zv6 ?_
 unfold zk3
 refine zxu (l := [.int .i64]) (t := Lib.compareBytes L L') ?_ ⟨rfl, rfl⟩
 rw [zk6 (e := Extern.BytealgCompare.compare) (by kernel_rfl), zz4 hw hL hl hL' hl']
 rfl
theorem z5n {w : World} {k k' : List UInt8} (hk : k.length = 32) (hk' : k'.length = 32) :
  qg P ztf #[arr k, arr k'] w fun e w' => e = .returned (.int .i64 (Lib.compareBytes k k')) ∧ Ext [] w.heap w'.heap := by
 refine zzh ?_
 unfold zm5
 refine jw rfl fun w1 hw1 => ?_
 refine jw hw1 fun w2 hw2 => ?_
 refine vg hw2 fun w3 hw3 => ?_
 refine xg (s := .slc) (some ⟨w.heap.size, 0, none⟩, 32, 32) (zdp u27 sz5 .no .no (Nat.zero_le _) (Nat.le_refl _)) ?_
 refine xg (s := .slc) (some ⟨(w.heap.push (.cells (Value.cells (arr k)) zf)).size, 0, none⟩, 32, 32) (zdp u27 sz5 .no .no (Nat.zero_le _) (Nat.le_refl _)) ?_
 refine zk (qc8 (L := k) (L' := k') hw3 ?_ hk.symm ?_ hk'.symm) ?_
 ·exact .inr ⟨_, 0, _, _, _, rfl, zec zn, by simp [arr, Value.cells, byteCells], by rw [Nat.zero_add]; simp [arr, Value.cells, byteCells, List.take_of_length_le]⟩
 ·exact .inr ⟨_, 0, _, _, _, rfl, zn, by simp [arr, Value.cells, byteCells], by rw [Nat.zero_add]; simp [arr, Value.cells, byteCells, List.take_of_length_le]⟩
 rintro e w4 ⟨rfl, rfl⟩
 exact ⟨_, rfl, rfl, by rw [hw3]; exact (Ext.push _).trans (Ext.push _)⟩
def pad (L : List UInt8) : List UInt8 := (L ++ List.replicate 32 0).take 32
theorem zun (L : List UInt8) : (pad L).length = 32 := by simp [pad]
theorem qe9 {L : List UInt8} (h : L.length = 32) : pad L = L := by unfold pad; rw [← h]; simp
def zf3 (L : List UInt8) : List Value := byteCells (pad L)
theorem zd8 (L : List UInt8) : (zf3 L).length = 32 := by rw [zf3, je, zun]
theorem zgy {L : List UInt8} (h : L.length = 32) : zf3 L = byteCells L := by rw [zf3, qe9 h]
theorem qlm {L : List UInt8} (h : L.length = 32) : Value.agg (zf3 L).toArray = arr L := by rw [zgy h]; rfl
theorem zyc {L : List UInt8} : zcs (zf3 L) := ku
theorem qav {r : SM} (hk : (r.map (·.1)).Nodup) {y : List UInt8 × BV × Nat} (hy : y ∈ r) : zax r y.1 = some y.2.1.2 := by
 unfold zax
 rw [zr7 hk hy]
 rfl
def zg0 (x : List UInt8 × BV × Nat) : List Value := byteCells (pad x.1) ++ [zc9 x.2.1.1]
theorem zez (x : List UInt8 × BV × Nat) : (zg0 x).length = 33 := by simp [zg0, je, zun]
theorem qhg {x : List UInt8 × BV × Nat} : zcs (zg0 x) := by
 intro v hv
 rcases List.mem_append.1 hv with h | h
 ·exact ku v h
 ·simp only [List.mem_singleton] at h; subst h; rfl
def zk8 (rl : SM) : Prop := rl.Pairwise fun a b => Lib.compareBytes a.1 b.1 < 0
structure ROk (rl : SM) : Prop where
 len : ∀ x ∈ rl, x.1.length = 32
 rise : zk8 rl
def zd9 (H : Heap) (fp : List Nat) (p : Nat) (q : Int) (rl : SM) : Prop :=
 ∃ x, H[p]? = some (.cells #[.int .i64 q, zc9 x] ze3 (0, 0)) ∧ Mine H 0 zbg 33 x (rl.flatMap zg0) ∧ p ∈ fp ∧ (∀ b ∈ xu x, b ∈ fp) ∧ qag H fp rl ∧ Apart rl ∧ ROk rl
theorem zd9.ext {M fp : List Nat} {H H' : Heap} {p : Nat} {q : Int} {rl : SM} (h : zd9 H fp p q rl) (hx : Ext M H H') (hM : ∀ b ∈ fp, b ∉ M) : zd9 H' fp p q rl := by
 obtain ⟨x, h1, h2, h3, h4, h5, h6⟩ := h
 exact ⟨x, hx.get h1 (hM p h3), h2.ext hx (fun b hb => hM b (h4 b hb)), h3, h4, h5.ext hx hM, h6⟩
theorem zk8.nodup {rl : SM} (h : zk8 rl) : (rl.map (·.1)).Nodup := by
 unfold zk8 at h
 rw [List.nodup_iff_pairwise_ne, List.pairwise_map]
 exact h.imp fun {a b} hab e => by rw [e, (zft).2 rfl] at hab; omega
theorem zjw {H : Heap} {B : Nat} {x : Option Addr × Nat × Nat} {rl : SM} (h : Mine H B zbg 33 x (rl.flatMap zg0)) : x.2.1 = rl.length := by
 have := h.len
 rw [qc zg0 zez] at this
 omega
theorem uB : P.underlying vw = some (.slice zbg) := by kernel_rfl
theorem EB : Elem P zbg 33 56 := zmn (z := Value.agg ((List.replicate 32 (Value.int .u8 0)) ++ [Value.slice none 0 0]).toArray) (by kernel_rfl) rfl
theorem szB : (P.info? zbg).map (·.size) = some 33 := by kernel_rfl
theorem bR (a : Int) (w : World) : (Instr.build ze3 #[(0, .int .i64 a)]).run P w = .ok (.agg #[.int .i64 a, .slice none 0 0]) w := by kernel_rfl
theorem qli {w : World} {H : Heap} (q : Int) (hw : w.heap = H) : qg P zxl #[.int .i64 q] w fun e w' => ∃ p, e = .returned (.pointer (some ⟨p, 0, none⟩)) ∧ zd9 w'.heap [p] p (max q 0) [] ∧ Ext [] H w'.heap ∧ H.size ≤ p ∧ p < w'.heap.size := by
 refine qd5 ?_
 unfold zyu
 refine xg (s := .int .i64) (max q 0) ?_ ?_
 ·rw [run_max_int2]
  congr 2
  show (if (0 : Int) > q then 0 else q) = max q 0
  split <;> omega
 refine xg (s := .any) _ (bR _ _) ?_
 refine jw hw fun w1 hw1 => ?_
 refine ⟨H.size, rfl, ⟨(none, 0, 0), by rw [hw1]; exact zn, .inl ⟨rfl, rfl⟩, by simp, by simp [xu], (by intro x hx; cases hx), (by intro x hx; cases hx), ⟨by simp, .nil⟩⟩, by rw [hw1]; exact .push _, Nat.le_refl _, by rw [hw1]; simp⟩
theorem zdf {α : Type} {enc : α → List Value} {sz : Nat} {H : Heap} {a : Option Addr} {len : Nat} (hk : ∀ x, (enc x).length = sz) (h0 : 0 < sz) {xs : List α} {v : α} {i : Nat} {n : Int} (hL : Cells H a (xs.flatMap enc))
  (hlen : len = xs.length) (hi : xs[i]? = some v) (hn : n = (i : Int)) {K : Addr → Prop} (hK : ∀ b o c T fr, a.map (·.block) = some b → H[b]? = some (.cells c T fr) → o + sz ≤ c.size → (∀ j, j < sz → c[o + j]? = (enc v)[j]?) → (a = some ⟨b, 0, none⟩ → o = i * sz) → K ⟨b, o, none⟩) : ixS a len sz n K := by
 have hlt := (List.getElem?_eq_some_iff.1 hi).1
 rcases hL with h | ⟨b, o, c, T, fr, rfl, hb, hsz, hc⟩
 ·have := congrArg List.length h
  rw [qc enc hk] at this
  have := Nat.mul_pos (show 0 < xs.length by omega) h0
  simp_all
 ·refine qh3 i hn (by omega) ?_
  have hm : i * sz + sz ≤ xs.length * sz := by
   have := Nat.mul_le_mul_right sz (show i + 1 ≤ xs.length by omega)
   rw [Nat.add_mul] at this; omega
  rw [qc enc hk] at hsz
  refine hK b (o + i * sz) c T fr rfl hb (by omega) (fun j hj => ?_) (fun h => by cases h; omega)
  have h2 : (xs.flatMap enc)[i * sz + j]? = (enc v)[j]? := by
   rw [getElem_flatMap enc hk h0]
   have h3 : (i * sz + j) / sz = i := by
    rw [Nat.mul_comm, Nat.mul_add_div h0, Nat.div_eq_of_lt hj]; rfl
   have h4 : (i * sz + j) % sz = j := by
    rw [Nat.mul_comm, Nat.mul_add_mod, Nat.mod_eq_of_lt hj]
   rw [h3, h4, hi]; rfl
  rw [← hc, Array.getElem?_toList, Array.getElem?_extract, qc enc hk, if_pos (by omega)] at h2
  rw [← h2]
  congr 1; omega
theorem z7o {c : Array Value} {o : Nat} {x : List UInt8 × BV × Nat} (h32 : x.1.length = 32) (hs : o + 33 ≤ c.size) (h : ∀ j, j < 33 → c[o + j]? = (zg0 x)[j]?) : c.extract o (o + 32) = (byteCells x.1).toArray := by
 apply Array.ext_getElem?
 intro j
 rw [Array.getElem?_extract]
 by_cases hj : j < 32
 ·rw [if_pos (by omega), h j (by omega), zg0, List.getElem?_append_left (by rw [je, zun]; exact hj), qe9 h32]
  simp
 ·rw [if_neg (by omega), Array.getElem?_eq_none (by simp [je, h32]; omega)]
theorem z4d {c : Array Value} {o : Nat} {x : List UInt8 × BV × Nat} (h : ∀ j, j < 33 → c[o + j]? = (zg0 x)[j]?) : c[o + 32]? = some (zc9 x.2.1.1) := by
 rw [h 32 (by omega), zg0, List.getElem?_append_right (by rw [je, zun]; omega), je, zun]
 rfl
theorem z4i {w : World} {H : Heap} {a : Option Addr} {len i : Nat} {n : Int} {rl : SM} {x : List UInt8 × BV × Nat} (hw : w.heap = H) (hL : Cells H a (rl.flatMap zg0)) (hlen : len = rl.length) (hi : rl[i]? = some x) (hn : n = (i : Int)) (h32 : x.1.length = 32) {K : Array Value → Prop}
  (hK : K (byteCells x.1).toArray) : ixS a len 33 n fun p => ldA P 32 p w K := by
 refine zdf zez (by omega) hL hlen hi hn fun b o c T fr _ hb hs hc _ => ?_
 refine zuy hw hb (by omega) ?_
 rw [z7o h32 hs hc]; exact hK
theorem ztn {w : World} {H : Heap} {a : Option Addr} {len i : Nat} {n : Int} {rl : SM} {x : List UInt8 × BV × Nat} (hw : w.heap = H) (hL : Cells H a (rl.flatMap zg0)) (hlen : len = rl.length) (hi : rl[i]? = some x) (hn : n = (i : Int)) {K : Option Addr × Nat × Nat → Prop}
  (hK : K x.2.1.1) : ixS a len 33 n fun p => ld .slc (Addr.add p 32) w K := by
 refine zdf zez (by omega) hL hlen hi hn fun b o c T fr _ hb hs hc _ => ?_
 rw [jv]
 exact jh (s := .slc) hw hb (z4d hc) hK
theorem z7h {w : World} {k k' : List UInt8} (hk : k.length = 32) (hk' : k'.length = 32) :
  qg P znm #[arr k, arr k'] w fun e w' => e = .returned (.int .i64 (Lib.compareBytes k k')) ∧ Ext [] w.heap w'.heap := by
 refine z0k ?_
 unfold zon
 refine jw rfl fun w1 hw1 => ?_
 refine jw hw1 fun w2 hw2 => ?_
 have hx2 : Ext [] w.heap w2.heap := by rw [hw2]; exact (Ext.push _).trans (Ext.push _)
 have ha : w2.heap[w.heap.size]? = some (.cells (byteCells k).toArray zf (0, 0)) := by rw [hw2]; exact zec zn
 have hb : w2.heap[(w.heap.push (.cells (Value.cells (arr k)) zf)).size]? = some (.cells (byteCells k').toArray zf (0, 0)) := by rw [hw2]; exact zn
 generalize (w.heap.push (.cells (Value.cells (arr k)) zf)).size = b3 at *
 have hstep : ∀ (L L' : List UInt8), L.length = L'.length → ∀ i, (∀ j, j < i → L[j]? = L'[j]?) → i ≤ L.length → Lib.compareBytes L L' = Lib.compareBytes (L.drop i) (L'.drop i) := by
  intro L
  induction L with
  | nil => intro L' hl i _ hi; cases L' with
   | nil => simp
   | cons => simp at hl
  | cons x L ih =>
   intro L' hl i hj hi
   cases L' with
   | nil => simp at hl
   | cons y L' =>
    cases i with
    | zero => rfl
    | succ i =>
     have h0 := hj 0 (by omega)
     simp at h0
     subst h0
     simp only [Lib.compareBytes, UInt8.lt_irrefl, if_false, List.drop_succ_cons]
     exact ih L' (by simpa using hl) i (fun j h => by have := hj (j + 1) (by omega); simpa using this) (by simpa using hi)
 refine jd (fun (s : Int) W => ∃ i : Nat, s = (i : Int) ∧ i ≤ 32 ∧ W.heap = w2.heap ∧ ∀ j, j < i → k[j]? = k'[j]?) (fun s _ => (32 - s).toNat) ⟨0, rfl, by omega, rfl, by intro j h; omega⟩ ?_
 rintro _ W ⟨i, rfl, hi, hW, heq⟩
 have hdrop : ∀ (L : List UInt8) (h : i < L.length), L.drop i = L[i] :: L.drop (i + 1) := fun L h => List.drop_eq_getElem_cons h
 have hs := hstep k k' (by omega) i heq (by omega)
 refine zq (fun hlt => ?_) (fun hge => ?_)
 ·have hik : i < k.length := by omega
  have hik' : i < k'.length := by omega
  rw [hdrop k hik, hdrop k' hik'] at hs
  simp only [Lib.compareBytes] at hs
  refine vg hW fun W1 hW1 => ?_
  refine zew i rfl (by omega) ?_
  refine zew i rfl (by omega) ?_
  refine jh (s := .int .u8) (t := (k[i].toNat : Int)) hW1 ha (by rw [List.getElem?_toArray, zdq hik, List.getD_eq_getElem?_getD, List.getElem?_eq_getElem hik]; rfl) ?_
  refine jh (s := .int .u8) (t := (k'[i].toNat : Int)) hW1 hb (by rw [List.getElem?_toArray, zdq hik', List.getD_eq_getElem?_getD, List.getElem?_eq_getElem hik']; rfl) ?_
  refine zq (fun hl => ?_) (fun hnl => ?_)
  ·have : k[i] < k'[i] := by rw [UInt8.lt_iff_toNat_lt]; omega
   rw [if_pos this] at hs
   exact ⟨by rw [hs], by rw [hW1]; exact hx2⟩
  have hn1 : ¬ k[i] < k'[i] := by rw [UInt8.lt_iff_toNat_lt]; omega
  rw [if_neg hn1] at hs
  refine vg hW1 fun W2 hW2 => ?_
  refine zew i rfl (by omega) ?_
  refine zew i rfl (by omega) ?_
  refine jh (s := .int .u8) (t := (k[i].toNat : Int)) hW2 ha (by rw [List.getElem?_toArray, zdq hik, List.getD_eq_getElem?_getD, List.getElem?_eq_getElem hik]; rfl) ?_
  refine jh (s := .int .u8) (t := (k'[i].toNat : Int)) hW2 hb (by rw [List.getElem?_toArray, zdq hik', List.getD_eq_getElem?_getD, List.getElem?_eq_getElem hik']; rfl) ?_
  refine zq (fun hl => ?_) (fun hnl2 => ?_)
  ·have : k'[i] < k[i] := by rw [UInt8.lt_iff_toNat_lt]; omega
   rw [if_pos this] at hs
   exact ⟨by rw [hs], by rw [hW2]; exact hx2⟩
  refine xw ((i + 1 : Nat) : Int) (by omega) (by omega) (by omega) ?_
  refine ⟨⟨i + 1, rfl, by omega, hW2, fun j hj => ?_⟩, by omega⟩
  by_cases e : j = i
  ·subst e
   rw [List.getElem?_eq_getElem hik, List.getElem?_eq_getElem hik']
   congr 1
   rw [← UInt8.toNat_inj]; omega
  ·exact heq j (by omega)
 ·have : i = 32 := by omega
  subst this
  rw [List.drop_of_length_le (by omega), List.drop_of_length_le (by omega)] at hs
  exact ⟨by rw [hs]; rfl, by rw [hW]; exact hx2⟩
structure Split (rl : SM) (k : List UInt8) (pre rest : SM) : Prop where
 eq : rl = pre ++ rest
 lo : ∀ x ∈ pre, Lib.compareBytes x.1 k < 0
 hi : ∀ x ∈ rest, ¬ Lib.compareBytes x.1 k < 0
theorem qhh {rl : SM} {k : List UInt8} (hr : zk8 rl) {i : Nat} (hi : i ≤ rl.length) (h1 : ∀ x ∈ rl.take i, Lib.compareBytes x.1 k < 0) (h2 : ∀ h : i < rl.length, ¬ Lib.compareBytes (rl[i]).1 k < 0) : Split rl k (rl.take i) (rl.drop i) := by
 refine ⟨(List.take_append_drop i rl).symm, h1, fun x hx => ?_⟩
 obtain ⟨j, hj, rfl⟩ := List.mem_iff_getElem.1 hx
 simp only [List.length_drop] at hj
 rw [List.getElem_drop]
 by_cases hj0 : j = 0
 ·subst hj0; exact h2 (by omega)
 ·have h3 := h2 (by omega)
  have h4 : Lib.compareBytes (rl[i]'(by omega)).1 (rl[i + j]'(by omega)).1 < 0 := List.pairwise_iff_getElem.1 hr i (i + j) (by omega) (by omega) (by omega)
  intro h5
  exact h3 (zfa.2 (List.lt_trans (zfa.1 h4) (zfa.1 h5)))
def hit (rest : SM) (k : List UInt8) : Bool := match rest with | [] => false | x :: _ => decide (x.1 = k)
theorem zv8 {rl pre rest : SM} {k : List UInt8} (h : Split rl k pre rest) (hr : zk8 rl) (hh : hit rest k = false) : zax rl k = none := by
 unfold zax
 rw [zle]; rfl
 intro x hx e
 rw [h.eq] at hx
 rcases List.mem_append.1 hx with hx | hx
 ·have := h.lo x hx; rw [e, zft.2 rfl] at this; omega
 ·cases rest with
  | nil => cases hx
  | cons y rest =>
   rcases List.mem_cons.1 hx with rfl | hx
   ·simp [hit, e] at hh
   ·have h1 : Lib.compareBytes y.1 x.1 < 0 := by
     have := hr; unfold zk8 at this; rw [h.eq] at this
     exact (List.pairwise_cons.1 (List.pairwise_append.1 this).2.1).1 x hx
    rw [e] at h1
    exact h.hi y (by simp) h1
theorem z4g {rl pre rest : SM} {k : List UInt8} (h : Split rl k pre rest) (hr : zk8 rl) (hh : hit rest k = true) : ∃ x t, rest = x :: t ∧ x.1 = k ∧ zax rl k = some x.2.1.2 ∧ rl[pre.length]? = some x ∧ x ∈ rl := by
 cases rest with
 | nil => simp [hit] at hh
 | cons x t =>
  have e : x.1 = k := by simpa [hit] using hh
  have hm : x ∈ rl := by rw [h.eq]; simp
  exact ⟨x, t, rfl, e, by rw [← e]; exact qav hr.nodup hm, by rw [h.eq]; simp, hm⟩
theorem qh5 {rl pre rest : SM} {k : List UInt8} (h : Split rl k pre rest) (hr : zk8 rl) : hit rest k = (zax rl k).isSome := by
 cases hh : hit rest k with
 | false => rw [zv8 h hr hh]; rfl
 | true => obtain ⟨x, t, _, _, h1, _⟩ := z4g h hr hh; rw [h1]; rfl
set_option maxHeartbeats 2000000 in
theorem qee {w : World} {H : Heap} {fp : List Nat} {p : Nat} {q : Int} {rl : SM} {k : List UInt8} (hw : w.heap = H) (hS : zd9 H fp p q rl) (hk : k.length = 32) (hn : rl.length < 1099511627776) :
  qg P zeo #[.pointer (some ⟨p, 0, none⟩), arr k] w fun e w' => ∃ pre rest, e = .returned (.tuple #[.int .i64 (pre.length : Int), .bool (hit rest k)]) ∧ Split rl k pre rest ∧ Ext [] H w'.heap := by
 obtain ⟨x, h1, h2, h3, h4, h5, h6, h7⟩ := hS
 have hxl := zjw h2
 refine zve ?_
 unfold zjb
 refine jw hw fun w1 hw1 => ?_
 have hx1 : Ext [] H w1.heap := by rw [hw1]; exact .push _
 have hb1 : w1.heap[H.size]? = some (.cells (byteCells k).toArray zf (0, 0)) := by rw [hw1]; exact zn
 have h11 := hx1.get h1 (by simp)
 have h21 := h2.ext hx1 (by simp)
 refine joinP_of (fun (s : Int) W => ∃ i : Nat, s = (i : Int) ∧ i ≤ rl.length ∧ Ext [] w1.heap W.heap ∧ (∀ y ∈ rl.take i, Lib.compareBytes y.1 k < 0) ∧ ∀ h : i < rl.length, ¬ Lib.compareBytes (rl[i]).1 k < 0) ?_ ?_
 ·refine jd (fun (s : Int) W => ∃ i : Nat, s = (i : Int) ∧ i ≤ rl.length ∧ Ext [] w1.heap W.heap ∧ ∀ y ∈ rl.take i, Lib.compareBytes y.1 k < 0) (fun s _ => (rl.length - s).toNat) ⟨0, rfl, Nat.zero_le _, .refl _ _, by simp⟩ ?_
  rintro _ W ⟨i, rfl, hi, hxW, hlo⟩
  refine zac ?_
  refine vg rfl fun W1 hW1 => ?_
  have hx1 : Ext [] w1.heap W1.heap := by rw [hW1]; exact hxW
  simp only [xq, jv, Nat.zero_add]
  refine jh (s := .slc) (t := x) rfl (hx1.get h11 (by simp)) rfl ?_
  refine zq (fun hlt => ?_) (fun hge => ?_)
  ·have hil : i < rl.length := by omega
   refine jh (s := .slc) (t := x) rfl (hx1.get h11 (by simp)) rfl ?_
   refine z4i rfl (h21.ext hx1 (by simp)).cells hxl (List.getElem?_eq_getElem hil) rfl (h7.len _ (List.getElem_mem hil)) ?_
   refine jf rfl (hx1.get hb1 (by simp)) (by simp [byteCells, hk]) ?_
   refine zk (z7h (h7.len _ (List.getElem_mem hil)) hk) ?_
   rintro e W2 ⟨rfl, hx2⟩
   refine ⟨_, rfl, ?_⟩
   refine zq (fun hl => ?_) (fun hnl => ⟨i, rfl, hi, hx1.trans hx2, hlo, fun _ => hnl⟩)
   refine xw ((i + 1 : Nat) : Int) (by omega) (by omega) (by omega) ?_
   refine ⟨⟨i + 1, rfl, by omega, hx1.trans hx2, fun y hy => ?_⟩, by omega⟩
   rw [List.take_add_one, List.getElem?_eq_getElem hil] at hy
   rcases List.mem_append.1 hy with hy | hy
   ·exact hlo y hy
   ·simp only [Option.toList_some, List.mem_singleton] at hy; subst hy; exact hl
  ·exact ⟨i, rfl, hi, hx1, hlo, fun h => by omega⟩
 ·rintro _ W ⟨i, rfl, hi, hxW, hlo, hhi⟩
  refine vg rfl fun W1 hW1 => ?_
  have hx1' : Ext [] w1.heap W1.heap := by rw [hW1]; exact hxW
  have hsp := qhh h7.rise hi hlo hhi
  have hpl : (rl.take i).length = i := by simp; omega
  simp only [xq, jv, Nat.zero_add]
  refine jh (s := .slc) (t := x) rfl (hx1'.get h11 (by simp)) rfl ?_
  refine zq (fun hlt => ?_) (fun hge => ?_)
  ·have hil : i < rl.length := by omega
   refine jh (s := .slc) (t := x) rfl (hx1'.get h11 (by simp)) rfl ?_
   refine z4i rfl (h21.ext hx1' (by simp)).cells hxl (List.getElem?_eq_getElem hil) rfl (h7.len _ (List.getElem_mem hil)) ?_
   refine jf rfl (hx1'.get hb1 (by simp)) (by simp [byteCells, hk]) ?_
   refine xg (s := .bool) _ (z9x u27 u5 c5 g27 (h7.len _ (List.getElem_mem hil)) hk) ?_
   refine ⟨rl.take i, rl.drop i, ?_, hsp, hx1.trans hx1'⟩
   rw [hpl, List.drop_eq_getElem_cons hil]
   rfl
  ·refine ⟨rl.take i, rl.drop i, ?_, hsp, hx1.trans hx1'⟩
   rw [hpl, List.drop_of_length_le (by omega)]
   rfl
theorem qb8 {rl : SM} {i : Nat} (h : i < rl.length) : total (rl.take (i + 1)) = total (rl.take i) + (rl[i]).2.1.2.length := by
 unfold total
 rw [List.take_add_one, List.getElem?_eq_getElem h, List.map_append, List.sum_append]
 simp
theorem zs6 {rl : SM} {i : Nat} : total (rl.take i) ≤ total rl := by
 conv => rhs; rw [← List.take_append_drop i rl]
 unfold total
 rw [List.map_append, List.sum_append]
 omega
theorem zyh {H : Heap} {fp : List Nat} {rl : SM} (h : qag H fp rl) {i : Nat} {x : List UInt8 × BV × Nat} (hi : rl[i]? = some x) : x.2.1.1.2.1 = x.2.1.2.length := by
 have := (h x (List.mem_of_getElem? hi)).1.len
 rw [je] at this; omega
theorem z3j {w : World} {H : Heap} {fp : List Nat} {p : Nat} {q : Int} {rl : SM} (hw : w.heap = H) (hS : zd9 H fp p q rl) (hn : rl.length < 1099511627776) (ht : total rl < 1125899906842624) :
  qg P zd3 #[.pointer (some ⟨p, 0, none⟩)] w fun e w' => e = .returned (.int .i64 (total rl : Int)) ∧ w' = w := by
 obtain ⟨x, h1, h2, h3, h4, h5, h6, h7⟩ := hS
 have hxl := zjw h2
 refine zsc ?_
 unfold zhq
 refine jd (fun (s : Int × Int) W => ∃ i : Nat, s = ((total (rl.take i) : Int), (i : Int)) ∧ i ≤ rl.length ∧ W = w) (fun s _ => (rl.length - s.2).toNat) ⟨0, rfl, Nat.zero_le _, rfl⟩ ?_
 rintro _ _ ⟨i, rfl, hi, rfl⟩
 simp only [xq, jv, Nat.zero_add]
 refine jh (s := .slc) (t := x) hw h1 rfl ?_
 refine zq (fun hlt => ?_) (fun hge => ?_)
 ·have hil : i < rl.length := by omega
  refine jh (s := .slc) (t := x) hw h1 rfl ?_
  refine ztn hw h2.cells hxl (List.getElem?_eq_getElem hil) rfl ?_
  have hv := zyh h5 (List.getElem?_eq_getElem hil)
  have ht1 := qb8 hil
  have ht2 := zs6 (rl := rl) (i := i + 1)
  refine xw ((total (rl.take (i + 1)) : Nat) : Int) (by rw [hv]; omega) (by omega) (by omega) ?_
  refine xw ((i + 1 : Nat) : Int) (by omega) (by omega) (by omega) ?_
  exact ⟨⟨i + 1, rfl, by omega, trivial⟩, by omega⟩
 ·have : i = rl.length := by omega
  subst this
  rw [List.take_length]
  exact ⟨rfl, trivial⟩
theorem ql7 {w : World} {H : Heap} (hw : w.heap = H) {K : (Option Addr × Nat × Nat) → World → Prop} (hK : ∀ w', Ext [] H w'.heap → Mine w'.heap H.size qy 1 (some ⟨H.size, 0, none⟩, 0, 0) [] → K (some ⟨H.size, 0, none⟩, 0, 0) w') : zan P (Instr.buildSlice zh 0 #[]) .slc w K := by
 refine zai (s := .slc) (some ⟨H.size, 0, none⟩, 0, 0) { w with heap := H.push (.cells #[] qy) } (by rw [← hw]; kernel_rfl) ?_
 exact hK _ (.push _) (.inr ⟨H.size, #[], rfl, Nat.le_refl _, zn, rfl, rfl, Nat.le_refl _, rfl⟩)
theorem qn7 {w : World} {H : Heap} (hw : w.heap = H) {K : (Option Addr × Nat × Nat) → World → Prop} (hK : ∀ w', Ext [] H w'.heap → Mine w'.heap H.size zbg 33 (some ⟨H.size, 0, none⟩, 0, 0) [] → K (some ⟨H.size, 0, none⟩, 0, 0) w') : zan P (Instr.buildSlice vw 0 #[]) .slc w K := by
 refine zai (s := .slc) (some ⟨H.size, 0, none⟩, 0, 0) { w with heap := H.push (.cells #[] zbg) } (by rw [← hw]; kernel_rfl) ?_
 exact hK _ (.push _) (.inr ⟨H.size, #[], rfl, Nat.le_refl _, zn, rfl, rfl, Nat.le_refl _, rfl⟩)
theorem qi6 {w : World} {H : Heap} {B : Nat} {a : Option Addr} {l c : Nat} {L : List UInt8} {x : Option Addr × Nat × Nat} (hw : w.heap = H) (hx : Mine H B qy 1 x []) (hB : B ≤ H.size) (hL : Cells H a (byteCells L)) (hl : l = L.length) (hlen : L.length < 140000000000000) {K : (Option Addr × Nat × Nat) → World → Prop}
  (hK : ∀ x' w', Mine w'.heap B qy 1 x' (byteCells L) → x'.2.1 = L.length → Ext (xu x) H w'.heap → K x' w') : zan P (Builtin.append_ #[zh, zh] zh #[.slice x.1 x.2.1 x.2.2, .slice a l c]) .slc w K := by
 subst hl
 have h0 : x.2.1 = 0 := by have := hx.len; simp at this; omega
 refine zv9 hw hx hB (Src.slc hw hL (by simp)) ku (by omega) ?_
 intro x2 w2 hO2 hl2 hx2 hm2
 rw [List.nil_append] at hO2
 exact hK x2 w2 hO2 (by omega) hx2
theorem zd9.rise {H : Heap} {fp : List Nat} {p : Nat} {q : Int} {rl : SM} (hS : zd9 H fp p q rl) : zk8 rl := by obtain ⟨_, _, _, _, _, _, _, h7⟩ := hS; exact h7.rise
theorem zd9.keys {H : Heap} {fp : List Nat} {p : Nat} {q : Int} {rl : SM} (hS : zd9 H fp p q rl) : (rl.map (·.1)).Nodup := hS.rise.nodup
def zmw (rl ol : SM) : Nat := ((rl.filter fun x => (zax ol x.1).isNone).map fun x => x.2.1.2.length).sum
theorem z9d {rl ol : SM} {i : Nat} (h : i < rl.length) : zmw (rl.take (i + 1)) ol = zmw (rl.take i) ol + if (zax ol (rl[i]).1).isSome then 0 else (rl[i]).2.1.2.length := by
 unfold zmw
 rw [List.take_add_one, List.getElem?_eq_getElem h, List.filter_append, List.map_append, List.sum_append]
 cases hv : zax ol (rl[i]).1 <;> simp [hv]
theorem qes {rl ol : SM} : zmw rl ol ≤ total rl := by
 induction rl with
 | nil => simp [zmw]
 | cons x l ih =>
  unfold zmw total at *
  simp only [List.filter_cons, List.map_cons, List.sum_cons]
  split
  ·simp only [List.map_cons, List.sum_cons]; omega
  ·omega
theorem qh6 {w : World} {H : Heap} {fp fo : List Nat} {p o : Nat} {q qo : Int} {rl ol : SM} (hw : w.heap = H) (hS : zd9 H fp p q rl) (hO : zd9 H fo o qo ol) (hn : rl.length < 1099511627776) (hno : ol.length < 1099511627776) (ht : total rl < 1125899906842624) :
  qg P zhp #[.pointer (some ⟨p, 0, none⟩), .pointer (some ⟨o, 0, none⟩)] w fun e w' => e = .returned (.int .i64 (zmw rl ol : Int)) ∧ Ext [] H w'.heap := by
 obtain ⟨x, h1, h2, h3, h4, h5, h6, h7⟩ := hS
 have hxl := zjw h2
 refine ztx ?_
 unfold zhv
 refine jd (fun (s : Int × Int) W => ∃ i : Nat, s = ((zmw (rl.take i) ol : Int), (i : Int)) ∧ i ≤ rl.length ∧ Ext [] H W.heap) (fun s _ => (rl.length - s.2).toNat) ⟨0, rfl, Nat.zero_le _, by rw [hw]; exact .refl _ _⟩ ?_
 rintro _ W ⟨i, rfl, hi, hxW⟩
 simp only [xq, jv, Nat.zero_add]
 refine jh (s := .slc) (t := x) rfl (hxW.get h1 (by simp)) rfl ?_
 refine zq (fun hlt => ?_) (fun hge => ?_)
 ·have hil : i < rl.length := by omega
  have hget := List.getElem?_eq_getElem hil
  have hk := h7.len _ (List.getElem_mem hil)
  have hv := zyh h5 hget
  refine joinP_of (fun (s : Int) W2 => s = (zmw (rl.take (i + 1)) ol : Int) ∧ Ext [] H W2.heap) ?_ ?_
  ·refine jh (s := .slc) (t := x) rfl (hxW.get h1 (by simp)) rfl ?_
   refine z4i rfl (h2.ext hxW (by simp)).cells hxl hget rfl hk ?_
   refine zk (qee rfl (hO.ext hxW (by simp)) hk hno) ?_
   rintro e W2 ⟨pre, rest, rfl, hsp, hx2⟩
   refine ⟨((pre.length : Int), hit rest (rl[i]).1), rfl, ?_⟩
   have hns := z9d (rl := rl) (ol := ol) hil
   have hle := qes (rl := rl.take (i + 1)) (ol := ol)
   have hle2 := zs6 (rl := rl) (i := i + 1)
   rw [← qh5 hsp hO.rise] at hns
   cases hh : hit rest (rl[i]).1 with
   | false =>
    rw [hh] at hns
    simp only [Bool.false_eq_true, if_false] at hns
    refine zaa rfl ?_
    have hx02 := hxW.trans hx2
    refine jh (s := .slc) (t := x) rfl (hx02.get h1 (by simp)) rfl ?_
    refine ztn rfl (h2.ext hx02 (by simp)).cells hxl hget rfl ?_
    refine xw ((zmw (rl.take (i + 1)) ol : Nat) : Int) (by rw [hv]; omega) (by omega) (by omega) ?_
    exact ⟨rfl, hx02⟩
   | true =>
    rw [hh] at hns
    simp only [if_true, Nat.add_zero] at hns
    refine jl rfl ?_
    exact ⟨by rw [hns], hxW.trans hx2⟩
  ·rintro _ W2 ⟨rfl, hx2⟩
   refine xw ((i + 1 : Nat) : Int) (by omega) (by omega) (by omega) ?_
   exact ⟨⟨i + 1, rfl, by omega, hx2⟩, by omega⟩
 ·have : i = rl.length := by omega
  subst this
  rw [List.take_length]
  exact ⟨rfl, hxW⟩
abbrev BE := List UInt8 × BV × Nat
theorem zw7 {a b : SM} {k : List UInt8} : zcf (a ++ b) k = match zcf a k with | some v => some v | none => zcf b k := by
 induction a with
 | nil => rfl
 | cons x a ih =>
  rw [List.cons_append]
  by_cases e : x.1 = k
  ·rw [zb1 e, zb1 e]
  ·rw [zbz e, zbz e, ih]
theorem ztd {pre t : SM} {y : BE} {k' : List UInt8} (h : ∀ x ∈ pre, x.1 ≠ y.1) : zax (pre ++ y :: t) k' = if k' = y.1 then some y.2.1.2 else zax (pre ++ t) k' := by
 unfold zax
 rw [zw7, zw7]
 by_cases e : k' = y.1
 ·subst e
  rw [if_pos rfl, zle h, zb1 rfl]
  rfl
 ·rw [if_neg e, zbz (Ne.symm e)]
theorem zwf {pre t : SM} {y : BE} : zk8 (pre ++ y :: t) ↔ zk8 (pre ++ t) ∧ (∀ x ∈ pre, Lib.compareBytes x.1 y.1 < 0) ∧ ∀ x ∈ t, Lib.compareBytes y.1 x.1 < 0 := by
 unfold zk8
 rw [List.pairwise_append, List.pairwise_append, List.pairwise_cons]
 constructor
 ·rintro ⟨h1, ⟨h2, h3⟩, h4⟩
  exact ⟨⟨h1, h3, fun a ha b hb => h4 a ha b (by simp [hb])⟩, fun a ha => h4 a ha y (by simp), h2⟩
 ·rintro ⟨⟨h1, h3, h4⟩, h5, h2⟩
  refine ⟨h1, ⟨h2, h3⟩, fun a ha b hb => ?_⟩
  rcases List.mem_cons.1 hb with rfl | hb
  ·exact h5 a ha
  ·exact h4 a ha b hb
theorem z2s {a b : List UInt8} (h : Lib.compareBytes a b < 0) : a ≠ b := by rintro rfl; rw [zft.2 rfl] at h; omega
theorem ze6 {pre t : SM} {y x : BE} : x ∈ pre ++ y :: t ↔ x = y ∨ x ∈ pre ++ t := by
 simp only [List.mem_append, List.mem_cons]
 constructor
 ·rintro (h | h | h)
  ·exact .inr (.inl h)
  ·exact .inl h
  ·exact .inr (.inr h)
 ·rintro (h | h | h)
  ·exact .inr (.inl h)
  ·exact .inl h
  ·exact .inr (.inr h)
theorem Apart.sub {r r' : SM} (h : Apart r) (hs : ∀ x ∈ r', x ∈ r) : Apart r' := fun x hx y hy => h x (hs x hx) y (hs y hy)
theorem Apart.mid {pre t : SM} {y : BE} (h : Apart (pre ++ t)) (hy : ∀ x ∈ pre ++ t, ∀ b ∈ xu y.2.1.1, b ∉ xu x.2.1.1) : Apart (pre ++ y :: t) := by
 intro a ha b hb hne c hc hc2
 rcases ze6.1 ha with e1 | ha' <;> rcases ze6.1 hb with e2 | hb'
 ·exact hne (by rw [e1, e2])
 ·exact hy b hb' c (by rw [← e1]; exact hc) hc2
 ·exact hy a ha' c (by rw [← e2]; exact hc2) hc
 ·exact h a ha' b hb' hne c hc hc2
theorem ROk.sub {pre t : SM} {y : BE} (h : ROk (pre ++ y :: t)) : ROk (pre ++ t) := ⟨fun x hx => h.len x (ze6.2 (.inr hx)), (zwf.1 h.rise).1⟩
theorem ROk.mid {pre t : SM} {y : BE} (h : ROk (pre ++ t)) (hl : y.1.length = 32) (h1 : ∀ x ∈ pre, Lib.compareBytes x.1 y.1 < 0) (h2 : ∀ x ∈ t, Lib.compareBytes y.1 x.1 < 0) : ROk (pre ++ y :: t) :=
 ⟨fun x hx => by rcases ze6.1 hx with rfl | hx; exact hl; exact h.len x hx, zwf.2 ⟨h.rise, h1, h2⟩⟩
theorem z5h {pre t : SM} {y : BE} : total (pre ++ y :: t) = y.2.1.2.length + total (pre ++ t) := by
 unfold total
 simp only [List.map_append, List.map_cons, List.sum_append, List.sum_cons]
 omega
theorem qi8 {pre t : SM} {y y' : BE} (h : zg0 y = zg0 y') : (pre ++ y :: t).flatMap zg0 = (pre ++ y' :: t).flatMap zg0 := by
 simp only [List.flatMap_append, List.flatMap_cons, h]
theorem Cells.dropB {H : Heap} {a : Option Addr} {rl : SM} (h : Cells H a (rl.flatMap zg0)) (k cap : Nat) (hcap : rl.length ≤ cap) : Cells H (if cap = k then a else a.map (·.add (k * 33))) ((rl.drop k).flatMap zg0) := by
 by_cases hk : k < rl.length
 ·rw [if_neg (by omega)]
  have hl : (rl.flatMap zg0).length = rl.length * 33 := qc zg0 zez _
  have := h.part (k * 33) ((rl.length - k) * 33) (by rw [hl, ← Nat.add_mul]; exact Nat.mul_le_mul_right 33 (by omega))
  have he : ((rl.flatMap zg0).drop (k * 33)).take ((rl.length - k) * 33) = (rl.drop k).flatMap zg0 := by
   have h1 : rl.flatMap zg0 = (rl.take k).flatMap zg0 ++ (rl.drop k).flatMap zg0 := by rw [← List.flatMap_append, List.take_append_drop]
   have h2 : ((rl.take k).flatMap zg0).length = k * 33 := by rw [qc zg0 zez, List.length_take, Nat.min_eq_left (by omega)]
   have h3 : ((rl.drop k).flatMap zg0).length = (rl.length - k) * 33 := by rw [qc zg0 zez, List.length_drop]
   rw [h1, List.drop_left' h2, List.take_of_length_le (by omega)]
  rwa [he] at this
 ·left; rw [List.drop_eq_nil_of_le (by omega)]; rfl
theorem Cells.takeB {H : Heap} {a : Option Addr} {rl : SM} (h : Cells H a (rl.flatMap zg0)) (k : Nat) : Cells H a ((rl.take k).flatMap zg0) := by
 have := h.take (((rl.take k).flatMap zg0).length)
 have h1 : rl.flatMap zg0 = (rl.take k).flatMap zg0 ++ (rl.drop k).flatMap zg0 := by rw [← List.flatMap_append, List.take_append_drop]
 rwa [h1, List.take_left] at this
theorem qie {rl : SM} : zcs (rl.flatMap zg0) := by
 intro v hv
 obtain ⟨x, _, hx⟩ := List.mem_flatMap.1 hv
 exact qhg v hx
theorem qmb {w : World} {H : Heap} {B : Nat} {x : Option Addr × Nat × Nat} {a : Option Addr} {l c : Nat} {r1 r2 : SM} (hw : w.heap = H) (hx : Mine H B zbg 33 x (r1.flatMap zg0)) (hB : B ≤ H.size) (hL : Cells H a (r2.flatMap zg0)) (hl : l = r2.length) (hlen : r1.length + r2.length < 1099511627776) {K : (Option Addr × Nat × Nat) → World → Prop}
  (hK : ∀ x' w', Mine w'.heap B zbg 33 x' ((r1 ++ r2).flatMap zg0) → x'.2.1 = r1.length + r2.length → Ext (xu x) H w'.heap → (∀ b, b ∈ xu x' → b ∈ xu x ∨ H.size ≤ b) → K x' w') :
  zan P (Builtin.append_ #[vw, vw] vw #[.slice x.1 x.2.1 x.2.2, .slice a l c]) .slc w K := by
 have hxl := zjw hx
 refine zcr EB (by omega) uB (za6 uB) hw hx hB (Src.slc hw hL (by rw [qc zg0 zez, hl])) qie (by omega) ?_
 intro x' w' hm hl' hx' hs
 refine hK x' w' ?_ (by omega) hx' hs
 rw [List.flatMap_append]; exact hm
set_option maxHeartbeats 2000000 in
theorem ql6 {w : World} {H : Heap} {fp : List Nat} {p : Nat} {q : Int} {rl : SM} {k : List UInt8} {at_ : Int} {t : UInt8} (hw : w.heap = H) (hS : zd9 H fp p q rl) (hk : k.length = 32) (hn : rl.length < 1099511627776) :
  qg P zm1 #[.pointer (some ⟨p, 0, none⟩), arr k, .int .i64 at_, .int .u8 (t.toNat : Int)] w fun e w' => e = .returned (.int .i64 (zhg (zax rl k) at_ t)) ∧ ∃ rl', zd9 w'.heap fp p q rl' ∧ Ext fp H w'.heap ∧
   ∀ k', zax rl' k' = if zhg (zax rl k) at_ t = 0 ∧ k' = k then (zax rl k).map fun L => spoilt L at_ t else zax rl k' := by
 refine zti ?_
 unfold zht
 refine jw hw fun w1 hw1 => ?_
 have hx1 : Ext [] H w1.heap := by rw [hw1]; exact .push _
 refine jf rfl (by rw [hw1]; exact zn) (by simp [arr, Value.cells, byteCells, hk]) ?_
 refine zk (qee rfl (hS.ext hx1 (by simp)) hk hn) ?_
 rintro e w2 ⟨pre, rest, rfl, hsp, hx2⟩
 refine ⟨((pre.length : Int), hit rest k), rfl, ?_⟩
 have hx02 := hx1.trans hx2
 have keep : ∀ (C : Int), C ≠ 0 → zhg (zax rl k) at_ t = C → (Ending.returned (.int .i64 C) = Ending.returned (.int .i64 (zhg (zax rl k) at_ t)) ∧ ∃ rl', zd9 w2.heap fp p q rl' ∧ Ext fp H w2.heap ∧
   ∀ k', zax rl' k' = if zhg (zax rl k) at_ t = 0 ∧ k' = k then (zax rl k).map fun L => spoilt L at_ t else zax rl k') := by
  intro C hC hs
  refine ⟨by rw [hs], rl, hS.ext hx02 (by simp), hx02.mono (by simp), fun k' => ?_⟩
  rw [if_neg (by rw [hs]; exact fun h => hC h.1)]
 cases hh : hit rest k with
 | false =>
  refine zaa rfl ?_
  exact keep 50 (by omega) (by rw [zv8 hsp hS.rise hh]; rfl)
 | true =>
  refine jl rfl ?_
  obtain ⟨y, tl, rfl, hyk, hvy, hget, hmem⟩ := z4g hsp hS.rise hh
  obtain ⟨x, h1, h2, h3, h4, h5, h6, h7⟩ := hS
  have hxl := zjw h2
  have hyl := zyh h5 hget
  have h12 := hx02.get h1 (by simp)
  have h22 := h2.ext hx02 (by simp)
  have one : ∀ h : at_ < 0 ∨ (y.2.1.2.length : Int) ≤ at_ ∨ t = 0, zhg (zax rl k) at_ t = 1 := by intro h; rw [hvy]; simp only [zhg, if_pos h]
  refine zac ?_
  refine zq (fun h => keep 1 (by omega) (one (.inl h))) (fun ha0 => ?_)
  simp only [xq, jv, Nat.zero_add]
  refine jh (s := .slc) (t := x) rfl h12 rfl ?_
  refine ztn rfl h22.cells hxl hget rfl ?_
  refine zq (fun h => keep 1 (by omega) (one (.inr (.inl (by omega))))) (fun hal => ?_)
  refine zbv (fun h => keep 1 (by omega) (one (.inr (.inr (UInt8.toNat_inj.1 (by simpa using h)))))) (fun ht => ?_)
  obtain ⟨i, rfl⟩ : ∃ i : Nat, at_ = (i : Int) := ⟨at_.toNat, by omega⟩
  have hil : i < y.2.1.2.length := by omega
  have hs0 : zhg (zax rl k) (i : Int) t = 0 := by
   rw [hvy]
   simp only [zhg]
   rw [if_neg]
   rintro (h | h | h)
   ·omega
   ·omega
   ·subst h; exact ht rfl
  obtain ⟨hO, hOf⟩ := h5 y hmem
  obtain ⟨bb, cc, hxa, hbb, hic, hci, hput⟩ := (hO.ext hx02 (by simp)).put (i := i) (by simpa using hil) (.int .u8 ((y.2.1.2.getD i 0 ^^^ t).toNat : Int))
  refine jh (s := .slc) (t := x) rfl h12 rfl ?_
  refine ztn rfl h22.cells hxl hget rfl ?_
  rw [hxa]
  refine zoy i rfl (by omega) ?_
  rw [Nat.zero_add]
  refine jh (t := ((y.2.1.2.getD i 0).toNat : Int)) rfl hbb (by rw [hci, zdq hil]; rfl) ?_
  refine qnx _ _ ?_
  refine zoy i rfl (by omega) ?_
  rw [Nat.zero_add]
  refine zcd rfl hbb hic fun w3 hw3 => ?_
  rw [← hw3] at hput
  have hbf : bb ∈ fp := hOf bb (by simp only [xu]; rw [hxa]; simp)
  have hx23 : Ext [bb] w2.heap w3.heap := by rw [hw3]; exact Ext.set _ (by simp)
  have heq := hsp.eq
  subst heq
  obtain ⟨_, hlo, hhi⟩ := zwf.1 h7.rise
  have hlen : (spoilt y.2.1.2 (i : Int) t).length = y.2.1.2.length := by simp [spoilt]
  have hspb : byteCells (spoilt y.2.1.2 (i : Int) t) = (byteCells y.2.1.2).set i (.int .u8 ((y.2.1.2.getD i 0 ^^^ t).toNat : Int)) := by
   simp only [spoilt, byteCells, Int.toNat_natCast, List.map_set]
  refine ⟨by rw [hs0], pre ++ (y.1, (y.2.1.1, spoilt y.2.1.2 (i : Int) t), y.2.2) :: tl, ⟨x, hx23.get h12 ?_, ?_, h3, h4, ?_, ?_, ?_⟩, (hx02.mono (by simp)).trans (hx23.mono (by simpa using hbf)), ?_⟩
  ·simp only [List.mem_singleton]; rintro rfl; rw [h12] at hbb; cases hbb
  ·have henc : (pre ++ (y.1, (y.2.1.1, spoilt y.2.1.2 (i : Int) t), y.2.2) :: tl).flatMap zg0 = (pre ++ y :: tl).flatMap zg0 := qi8 rfl
   rw [henc]
   refine h22.ext hx23 fun b hb => ?_
   simp only [List.mem_singleton]; rintro rfl
   rcases h22 with ⟨rfl, _⟩ | ⟨b2, c2, hx2', _, hb2, _⟩
   ·simp [xu] at hb
   ·simp only [xu, hx2', List.mem_singleton] at hb; subst hb; rw [hbb] at hb2; cases hb2
  ·intro z hz
   rcases ze6.1 hz with rfl | hz
   ·refine ⟨?_, hOf⟩
    show Mine _ _ _ _ _ (byteCells (spoilt y.2.1.2 (i : Int) t))
    rw [hspb]; exact hput
   ·obtain ⟨hz1, hz2⟩ := h5 z (ze6.2 (.inr hz))
    refine ⟨(hz1.ext hx02 (by simp)).ext hx23 fun b hb => ?_, hz2⟩
    simp only [List.mem_singleton]; rintro rfl
    refine h6 y hmem z (ze6.2 (.inr hz)) ?_ b (by simp only [xu]; rw [hxa]; simp) hb
    rcases List.mem_append.1 hz with hz | hz
    ·exact (z2s (hlo z hz)).symm
    ·exact z2s (hhi z hz)
  ·refine Apart.mid (h6.sub fun z hz => ze6.2 (.inr hz)) fun z hz b hb => ?_
   refine h6 y hmem z (ze6.2 (.inr hz)) ?_ b hb
   rcases List.mem_append.1 hz with hz | hz
   ·exact (z2s (hlo z hz)).symm
   ·exact z2s (hhi z hz)
  ·exact h7.sub.mid (h7.len y hmem) hlo hhi
  ·intro k'
   rw [hs0, hvy, ztd (y := (y.1, (y.2.1.1, spoilt y.2.1.2 (i : Int) t), y.2.2)) fun z hz => z2s (hlo z hz)]
   show (if k' = y.1 then some (spoilt y.2.1.2 (i : Int) t) else _) = _
   by_cases e : k' = k
   ·subst e; simp [hyk]
   ·rw [if_neg (by rw [hyk]; exact e), if_neg (fun h => e h.2), ztd (y := y) (fun z hz => z2s (hlo z hz)), if_neg (by rw [hyk]; exact e)]
theorem qjg {H : Heap} {B : Nat} {T : TypeId} {sz : Nat} {x : Option Addr × Nat × Nat} {vs : List Value} (h : Mine H B T sz x vs) : x.2.1 ≤ x.2.2 := by
 rcases h with ⟨rfl, _⟩ | ⟨b, c, _, _, _, _, _, h, _⟩
 ·exact Nat.le_refl _
 ·exact h
theorem za7 {H : Heap} {B : Nat} {T : TypeId} {sz : Nat} {x : Option Addr × Nat × Nat} {vs : List Value} (h : Mine H B T sz x vs) : ∀ b ∈ xu x, b < H.size ∧ ∃ c, H[b]? = some (.cells c T (0, 0)) := by
 intro b hb
 rcases h with ⟨rfl, _⟩ | ⟨b2, c, hx, _, hb2, _⟩
 ·simp [xu] at hb
 ·simp only [xu, hx, List.mem_singleton] at hb
  subst hb; exact ⟨lt_of_get hb2, c, hb2⟩
theorem qlk {H : Heap} {a : Option Addr} {l c : Nat} {rl : SM} {i : Nat} {n : Int} (hL : Cells H a (rl.flatMap zg0)) (hlen : l = rl.length) (hc : l ≤ c) (hi : i ≤ rl.length) (hn : n = (i : Int)) :
  ∃ a', (∀ w, (Instr.sliceAt vw (.slice a l c) none (some (.int .i64 n)) none).run P w = .ok (.slice a' i c) w) ∧ Cells H a' ((rl.take i).flatMap zg0) := by
 refine ⟨_, fun w => zaz (l := 0) (h := i) uB szB .no (.yes hn) (Nat.zero_le _) (by omega), ?_⟩
 exact Cells.takeB (rl := rl) (Cells.dropB hL 0 c (by omega)) i
theorem qij {H : Heap} {a : Option Addr} {l c : Nat} {rl : SM} {i : Nat} {n : Int} (hL : Cells H a (rl.flatMap zg0)) (hlen : l = rl.length) (hc : l ≤ c) (hi : i ≤ rl.length) (hn : n = (i : Int)) :
  ∃ a', (∀ w, (Instr.sliceAt vw (.slice a l c) (some (.int .i64 n)) none none).run P w = .ok (.slice a' (l - i) (c - i)) w) ∧ Cells H a' ((rl.drop i).flatMap zg0) := by
 refine ⟨_, fun w => zaz (l := i) (h := l) uB szB (.yes hn) .no (by omega) (by omega), ?_⟩
 exact Cells.dropB hL i c (by omega)
theorem qag.sub {H : Heap} {fp : List Nat} {r r' : SM} (h : qag H fp r) (hs : ∀ x ∈ r', x ∈ r) : qag H fp r' := fun x hx => h x (hs x hx)
theorem qag.mono {H : Heap} {fp fp' : List Nat} {r : SM} (h : qag H fp r) (hs : ∀ x ∈ fp, x ∈ fp') : qag H fp' r := fun x hx => ⟨(h x hx).1, fun b hb => hs b ((h x hx).2 b hb)⟩
theorem qag.off {H H' : Heap} {fp : List Nat} {r : SM} {b : Nat} {c : Array Value} {T : TypeId} {o : Obj} (h : qag H fp r) (hb : H[b]? = some (.cells c T (0, 0))) (hT : T ≠ qy) (hx : Ext [b] H H') : qag H' fp r := by
 intro x hxr
 refine ⟨(h x hxr).1.ext hx fun b' hb' => ?_, (h x hxr).2⟩
 simp only [List.mem_singleton]; rintro rfl
 obtain ⟨_, c', h'⟩ := za7 (h x hxr).1 _ hb'
 rw [hb] at h'
 injection h' with h'
 injection h' with _ h2
 exact hT h2
theorem z7z {place : Nat → Option (Nat × Nat)} {cells : Array Value} {i off size : Nat} {v : Value} {rest : List (Nat × Value)} (hp : place i = some (off, size)) (hs : v.cells.size = size) (ho : off + size ≤ cells.size) : Instr.fill place cells ((i, v) :: rest) = Instr.fill place (setCells cells off v.cells.toList) rest := by
 simp only [Instr.fill, hp, hs, ne_eq, not_true_eq_false, decide_false, Bool.false_or]
 rw [if_neg (by simp; omega)]
 have h := zok off v.cells.toList 0 cells
 simp only [Nat.add_zero] at h
 rw [← Array.foldl_toList, Array.toList_zipIdx, h]
theorem qcr {x : Option Addr × Nat × Nat} : (zc9 x).cells = #[zc9 x] := rfl
theorem qji (u v : Value) : P.built zbg [(0, u), (1, v)] = Instr.fill (fun i => #[(0, 32), (32, 1)][i]?) ((List.replicate 32 (Value.int .u8 0)) ++ [Value.slice none 0 0]).toArray [(0, u), (1, v)] := by kernel_rfl
theorem qmg {A : List Value} (hA : A.length = 32) (x : Option Addr × Nat × Nat) (w : World) : (Instr.build zbg #[(0, .agg A.toArray), (1, zc9 x)]).run P w = .ok (.agg (A ++ [zc9 x]).toArray) w := by
 refine run_build w _ _ _ ?_
 show P.built zbg [(0, .agg A.toArray), (1, zc9 x)] = _
 have hc : (Value.agg A.toArray).cells = A.toArray := rfl
 rw [qji, z7z (off := 0) (size := 32) rfl (by rw [hc]; simpa using hA) (by simp), z7z (off := 32) (size := 1) rfl rfl (by simp)]
 simp only [Instr.fill]
 congr 1
 rw [hc, qcr]
 apply Array.ext_getElem?
 intro j
 show (setCells (setCells _ 0 A.toArray.toList) 32 [zc9 x])[j]? = _
 rw [zgj (by simp), zgj (by simp; omega)]
 simp only [List.length_cons, List.length_nil, List.getElem?_toArray, hA]
 by_cases h1 : j < 32
 ·rw [if_neg (by omega), if_pos (by omega), List.getElem?_append_left (by omega)]
  simp
 ·by_cases h2 : j = 32
  ·subst h2; simp [hA]
  ·rw [if_neg (by omega), if_neg (by omega)]
   rw [List.getElem?_eq_none (by simp; omega), List.getElem?_eq_none (by simp; omega)]
theorem qlh {w : World} {H : Heap} (hw : w.heap = H) (y : BE) (h32 : y.1.length = 32) {K : (Option Addr × Nat × Nat) → World → Prop} (hK : ∀ a w1, Ext [] H w1.heap → Cells w1.heap a ([y].flatMap zg0) → K (a, 1, 1) w1) :
  za0 P (Instr.build zbg #[(0, .agg (byteCells y.1).toArray), (1, .slice y.2.1.1.1 y.2.1.1.2.1 y.2.1.1.2.2)]) .any w fun t => zan P (Instr.buildSlice vw 1 #[(0, t)]) .slc w K := by
 refine xg (s := .any) _ (qmg (A := byteCells y.1) (by rw [je, h32]) y.2.1.1 w) ?_
 have hc : (Value.agg (byteCells y.1 ++ [zc9 y.2.1.1]).toArray).cells = (zg0 y).toArray := by
  show (byteCells y.1 ++ [zc9 y.2.1.1]).toArray = _
  rw [zg0, qe9 h32]
 refine zai (s := .slc) (some ⟨w.heap.size, 0, none⟩, 1, 1) _ (zdy EB uB (v := .agg (byteCells y.1 ++ [zc9 y.2.1.1]).toArray) (by rw [hc]; simp [zez]) (by omega) (by omega)) ?_
 refine hK _ _ (by rw [← hw]; exact .push _) (.inr ⟨w.heap.size, 0, _, _, _, rfl, zn, ?_, ?_⟩)
 ·rw [hc]; simp
 ·rw [hc]; simp
def bare (r : SM) : List (List UInt8 × List UInt8) := r.map fun x => (x.1, x.2.1.2)
theorem z4v : ∀ {r s : SM}, bare r = bare s → ∀ k, zax r k = zax s k
 | [], [], _, _ => rfl
 | [], y :: s, h, _ => by simp [bare] at h
 | x :: r, [], h, _ => by simp [bare] at h
 | x :: r, y :: s, h, k => by
  simp only [bare, List.map_cons, List.cons.injEq, Prod.mk.injEq] at h
  obtain ⟨⟨h1, h2⟩, h3⟩ := h
  have ih := z4v (r := r) (s := s) h3 k
  unfold zax at ih ⊢
  by_cases e : x.1 = k
  ·rw [zb1 e, zb1 (by rw [← h1]; exact e)]; simp [h2]
  ·rw [zbz e, zbz (by rw [← h1]; exact e)]; exact ih
theorem qfa {r s : SM} (h : bare r = bare s) : r.map (·.1) = s.map (·.1) := by
 have := congrArg (List.map (·.1)) h
 simpa [bare, Function.comp_def] using this
theorem qjb {r s : SM} (h : bare r = bare s) (hs : ROk s) : ROk r := by
 have hk := qfa h
 refine ⟨fun x hx => ?_, ?_⟩
 ·have : x.1 ∈ s.map (·.1) := by rw [← hk]; exact List.mem_map.2 ⟨x, hx, rfl⟩
  obtain ⟨y, hy, e⟩ := List.mem_map.1 this
  rw [← e]; exact hs.len y hy
 ·have h1 : (s.map (·.1)).Pairwise fun a b => Lib.compareBytes a b < 0 := List.pairwise_map.2 hs.rise
  rw [← hk] at h1
  exact List.pairwise_map.1 h1
theorem qbl {r s : SM} (h : bare r = bare s) : r.length = s.length := by simpa [bare] using congrArg List.length h
set_option maxHeartbeats 4000000 in
theorem qho {w : World} {H : Heap} {fp : List Nat} {p : Nat} {q : Int} {rl : SM} (hw : w.heap = H) (hS : zd9 H fp p q rl) (hn : rl.length < 549755813888) (hlen : ∀ x ∈ rl, x.2.1.2.length < 1099511627776) :
  qg P zhr #[.pointer (some ⟨p, 0, none⟩)] w fun e w' => ∃ p' fp' rl', e = .returned (.pointer (some ⟨p', 0, none⟩)) ∧ zd9 w'.heap fp' p' q rl' ∧ Ext [] H w'.heap ∧ (∀ b ∈ fp', H.size ≤ b ∧ b < w'.heap.size) ∧ bare rl' = bare rl := by
 obtain ⟨x, h1, h2, h3, h4, h5, h6, h7⟩ := hS
 have hxl := zjw h2
 refine zty ?_
 unfold zhm
 simp only [xq, jv, Nat.zero_add]
 refine jh (s := .int .i64) (t := q) hw h1 rfl ?_
 refine xg (s := .any) _ (bR q _) ?_
 refine jw hw fun w1 hw1 => ?_
 have hx1 : Ext [] H w1.heap := by rw [hw1]; exact .push _
 have hs1 : w1.heap.size = H.size + 1 := by rw [hw1]; simp
 refine jd (fun (s : Int) W => ∃ (i : Nat) (xc : Option Addr × Nat × Nat) (cl : SM), s = (i : Int) ∧ i ≤ rl.length ∧ Ext [] H W.heap ∧ H.size < W.heap.size ∧ W.heap[H.size]? = some (.cells #[.int .i64 q, zc9 xc] ze3 (0, 0)) ∧ Mine W.heap (H.size + 1) zbg 33 xc (cl.flatMap zg0) ∧
  bare cl = bare (rl.take i) ∧ (∀ z ∈ cl, Mine W.heap (H.size + 1) qy 1 z.2.1.1 (byteCells z.2.1.2)) ∧ Apart cl) (fun s _ => (rl.length - s).toNat)
  ⟨0, (none, 0, 0), [], rfl, Nat.zero_le _, hx1, by omega, by rw [hw1]; exact zn, .inl ⟨rfl, rfl⟩, rfl, (by intro z hz; cases hz), (by intro z hz; cases hz)⟩ ?_
 rintro _ W ⟨i, xc, cl, rfl, hi, hxW, hsW, hbW, hmW, hbare, hvals, hap⟩
 refine jh (s := .slc) (t := x) rfl (hxW.get h1 (by simp)) rfl ?_
 refine zq (fun hlt => ?_) (fun hge => ?_)
 ·have hil : i < rl.length := by omega
  have hget := List.getElem?_eq_getElem hil
  have hmem : rl[i] ∈ rl := List.getElem_mem hil
  have hk := h7.len _ hmem
  have hyl := zyh h5 hget
  have hLl := hlen _ hmem
  have hcl : cl.length = i := by rw [qbl hbare]; simp; omega
  have hcll : xc.2.1 = i := by have := hmW.len; rw [qc zg0 zez] at this; omega
  obtain ⟨hyM, _⟩ := h5 _ hmem
  generalize rl[i] = y at *
  refine vg rfl fun w3 hw3 => ?_
  have hx3 : Ext [] W.heap w3.heap := by rw [hw3]; exact .refl _ _
  have hx03 : Ext [] H w3.heap := hxW.trans hx3
  have hb3 := hx3.get hbW (by simp)
  have h13 := hx03.get h1 (by simp)
  have h23 := h2.ext hx03 (by simp)
  refine jh (s := .slc) (t := xc) rfl hb3 rfl ?_
  refine jh (s := .slc) (t := x) rfl h13 rfl ?_
  refine zdf zez (by omega) h23.cells hxl hget rfl fun rb o c T fr _ hrb hrs hrc _ => ?_
  have hkey : c.extract o (o + 32) = (byteCells y.1).toArray := z7o hk hrs hrc
  refine zuy rfl hrb (by omega) ?_
  rw [hkey]
  refine jh (s := .slc) (t := x) rfl h13 rfl ?_
  refine zdf zez (by omega) h23.cells hxl hget rfl fun rb' o' c' T' fr' _ hrb' hrs' hrc' _ => ?_
  simp only [jv]
  refine jh (s := .slc) (t := y.2.1.1) rfl hrb' (z4d hrc') ?_
  refine ql7 rfl fun w4 hx4 hm4 => ?_
  have hx04 := hx03.trans hx4
  refine ⟨jh (s := .slc) (t := y.2.1.1) rfl (hx4.get hrb' (by simp)) (z4d hrc') rfl, ?_⟩
  refine ⟨jh (s := .slc) (t := x) rfl (hx04.get h1 (by simp)) rfl rfl, ?_⟩
  refine ⟨zuy rfl (hx4.get hrb (by simp)) (by omega) (by rw [hkey]), ?_⟩
  refine ⟨jh (s := .slc) (t := x) rfl (hx04.get h1 (by simp)) rfl rfl, ?_⟩
  refine ⟨jh (s := .slc) (t := xc) rfl (hx4.get hb3 (by simp)) rfl rfl, ?_⟩
  refine qi6 rfl hm4 hx4.1 (hyM.ext hx04 (by simp)).cells hyl (by omega) ?_
  intro x5 w5 hm5 hl5 hx5
  have hx35 : Ext [] w3.heap w5.heap := hx4.own hx5 (by intro b hb; simp [xu] at hb; omega)
  have hx05 := hx03.trans hx35
  refine ⟨zuy rfl (hx35.get hrb (by simp)) (by omega) (by rw [hkey]), ?_⟩
  refine ⟨jh (s := .slc) (t := x) rfl (hx05.get h1 (by simp)) rfl rfl, ?_⟩
  refine ⟨jh (s := .slc) (t := xc) rfl (hx35.get hb3 (by simp)) rfl rfl, ?_⟩
  refine qlh rfl (y.1, (x5, y.2.1.2), 0) hk fun a6 w6 hx6 hC6 => ?_
  have hx36 := hx35.trans hx6
  refine ⟨jh (s := .slc) (t := xc) rfl (hx36.get hb3 (by simp)) rfl rfl, ?_⟩
  have hm6 : Mine w6.heap (H.size + 1) zbg 33 xc (cl.flatMap zg0) := hmW.ext (hx3.trans hx36) (by simp)
  refine qmb (r1 := cl) (r2 := [(y.1, (x5, y.2.1.2), 0)]) rfl hm6 (by have := (hx3.trans hx36).1; omega) hC6 rfl (by simp; omega) ?_
  intro x7 w7 hm7 hl7 hx7 hs7
  have hb6 := hx36.get hb3 (by simp)
  have hnb : H.size ∉ xu xc := fun h => by have := jc hm6 _ h; omega
  have hb7 := hx7.get hb6 hnb
  refine zcd rfl hb7 (by simp) fun w8 hw8 => ?_
  have hx78 : Ext [H.size] w7.heap w8.heap := by rw [hw8]; exact Ext.set _ (by simp)
  have hg7 := jc hm7
  have hx06 := hx03.trans hx36
  have hx08 : Ext [] H w8.heap := (hx06.own hx7 (by intro b hb hlt; have := jc hm6 _ hb; omega)).own hx78 (by intro b hb hlt; simp at hb; omega)
  refine xw ((i + 1 : Nat) : Int) (by omega) (by omega) (by omega) ?_
  have hs56 := hx6.1
  have hs35 := hx35.1
  have hs4 := hx4.1
  have hsw3 : W.heap.size ≤ w3.heap.size := hx3.1
  have hg5 := jc hm5
  have tail : ∀ {z : BV}, Mine w6.heap (H.size + 1) qy 1 z.1 (byteCells z.2) → Mine w8.heap (H.size + 1) qy 1 z.1 (byteCells z.2) := by
   intro z hz
   refine (hz.ext hx7 fun b hb hb2 => ?_).ext hx78 fun b hb => ?_
   ·obtain ⟨_, c1, e1⟩ := za7 hz b hb
    obtain ⟨_, c2, e2⟩ := za7 hm6 b hb2
    rw [e1] at e2; cases e2
   ·have := jc hz b hb
    simp only [List.mem_singleton]; omega
  refine ⟨⟨i + 1, x7, cl ++ [(y.1, (x5, y.2.1.2), 0)], rfl, by omega, hx08, by have := hx7.1; have := hx78.1; have := hx36.1; omega, by rw [hw8]; exact qm hb7, hm7.ext hx78 (fun b hb => by have := hg7 b hb; simp; omega), ?_, ?_, ?_⟩, by omega⟩
  ·unfold bare at hbare ⊢
   rw [List.take_add_one, hget, List.map_append, List.map_append, hbare]; rfl
  ·intro z hz
   rcases List.mem_append.1 hz with hz | hz
   ·exact tail ((hvals z hz).ext (hx3.trans hx36) (by simp))
   ·simp only [List.mem_singleton] at hz; subst hz
    exact tail (z := (x5, y.2.1.2)) ((hm5.mono (by omega)).ext hx6 (by simp))
  ·refine Apart.mid (t := []) (by rw [List.append_nil]; exact hap) fun z hz b hb hb2 => ?_
   rw [List.append_nil] at hz
   have h8 := hg5 b hb
   have h9 := (za7 (hvals z hz) b hb2).1
   omega
 ·have hie : i = rl.length := by omega
  subst hie
  rw [List.take_length] at hbare
  refine ⟨H.size, H.size :: (xu xc ++ cl.flatMap fun z => xu z.2.1.1), cl, rfl, ⟨xc, hbW, hmW.mono (Nat.zero_le _), by simp, fun b hb => by simp [hb], fun z hz => ⟨(hvals z hz).mono (Nat.zero_le _), fun b hb => by simp only [List.mem_cons, List.mem_append, List.mem_flatMap]; exact .inr (.inr ⟨z, hz, hb⟩)⟩, hap, qjb hbare h7⟩, hxW, ?_, hbare⟩
  intro b hb
  simp only [List.mem_cons, List.mem_append, List.mem_flatMap] at hb
  rcases hb with rfl | hb | ⟨z, hz, hb⟩
  ·exact ⟨Nat.le_refl _, hsW⟩
  ·exact ⟨by have := jc hmW b hb; omega, (za7 hmW b hb).1⟩
  ·exact ⟨by have := jc (hvals z hz) b hb; omega, (za7 (hvals z hz) b hb).1⟩
end Go.Proofs.YtbmegmbnlajbbaaGreatDoor.Bl
namespace Go.Proofs.YtbmegmbnlajbbaaGreatDoor.Bl
open Go Go.Fw Go.Proofs
def Whole (r : SM) : Prop := ∀ k L, zax r k = some L → Sha.sum L = k ∧ L.length ≤ 4096
theorem Whole.small {r : SM} (h : Whole r) : Small r := fun k L hv => by have := (h k L hv).2; omega
theorem Rows.ext {M : List Nat} {H H' : Heap} {a : Option Addr} {n : Nat} {Ls : List (List UInt8)} (h : Rows H a n Ls) (hx : Ext M H H') (hM : ∀ b, b < H.size → b ∉ M) : Rows H' a n Ls := by
 refine ⟨h.1, fun i hi => ?_⟩
 obtain ⟨b, o, c, T, fr, x, h1, h2, h3, h4, h5, h6⟩ := h.2 i hi
 refine ⟨b, o, c, T, fr, x, h1, hx.get h2 (hM b (lt_of_get h2)), h3, h4.ext hx fun y hy hv => ?_, h5, h6⟩
 obtain ⟨z, hz, hlt⟩ := h4.lt hv
 rw [hy] at hz; cases hz
 exact hM _ hlt
end Go.Proofs.YtbmegmbnlajbbaaGreatDoor.Bl
namespace Go.Proofs.YtbmegmbnlajbbaaGreatDoor.Bl
open Go Go.Fw Go.Proofs
theorem z7l {F : BL} {d L k : List UInt8} : zss (F ++ [(d, L)]) k = match zss F k with | some v => some v | none => if k = d then some L else none := by
 induction F with
 | nil =>
  simp only [zss, List.nil_append, List.find?_cons, List.find?_nil, Option.map_none]
  by_cases e : d = k
  ·subst e; simp
  ·have : (d == k) = false := by simp [e]
   simp [this, Ne.symm e]
 | cons x F ih =>
  simp only [zss, List.cons_append, List.find?_cons] at ih ⊢
  by_cases e : x.1 = k
  ·simp [e]
  ·have : (x.1 == k) = false := by simp [e]
   simp only [this]
   exact ih
theorem z4t : ∀ (Ls : List (List UInt8)) (F : BL), (∀ k L, zss F k = some L → Sha.sum L = k) → ∀ k L, zss (Ls.foldl zui F) k = some L → Sha.sum L = k
 | [], F, h => h
 | M :: Ls, F, h => by
  rw [List.foldl_cons]
  refine z4t Ls (zui F M) fun k L hg => ?_
  unfold zui at hg
  split at hg
  ·exact h k L hg
  ·rw [z7l] at hg
   cases hf : zss F k with
   | some v => rw [hf] at hg; simp only at hg; exact h k L (by rw [hf]; exact hg)
   | none =>
    rw [hf] at hg
    simp only at hg
    split at hg
    ·rename_i e; cases hg; exact e.symm
    ·cases hg
theorem zxo : ∀ (Ls : List (List UInt8)) (F : BL), (F.map (·.1)).Nodup → ((Ls.foldl zui F).map (·.1)).Nodup
 | [], F, h => h
 | M :: Ls, F, h => by
  rw [List.foldl_cons]
  refine zxo Ls (zui F M) ?_
  unfold zui
  split
  ·exact h
  ·rename_i hn
   rw [List.map_append, List.nodup_append]
   refine ⟨h, by simp, fun a ha b hb => ?_⟩
   simp only [List.map_cons, List.map_nil, List.mem_singleton] at hb
   subst hb
   rintro rfl
   obtain ⟨x, hx, e⟩ := List.mem_map.1 ha
   apply hn
   unfold zss
   rw [Option.isSome_map]
   rw [List.find?_isSome]
   exact ⟨x, hx, by simp [e]⟩
theorem qid {V U : List UInt8 → Option (List UInt8)} {F : BL} {L : List UInt8} (hF : ∀ k L, zss F k = some L → Sha.sum L = k) (hU : ∀ k, U k = z4f (V k) (zss F k) k) (k : List UInt8) :
  (if k = Sha.sum L then z4f (U (Sha.sum L)) (some L) (Sha.sum L) else U k) = z4f (V k) (zss (zui F L) k) k := by
 unfold zui
 cases hf : zss F (Sha.sum L) with
 | some M =>
  simp only [Option.isSome_some, if_true]
  by_cases e : k = Sha.sum L
  ·subst e
   rw [if_pos rfl, hU, hf]
   have hM := hF _ _ hf
   cases hv : V (Sha.sum L) with
   | none => simp [z4f, hM]
   | some old =>
    by_cases e2 : Sha.sum old = Sha.sum L
    ·simp [z4f, e2]
    ·simp [z4f, e2, hM]
  ·rw [if_neg e, hU]
 | none =>
  simp only [Option.isSome_none, Bool.false_eq_true, if_false]
  rw [z7l]
  by_cases e : k = Sha.sum L
  ·subst e
   rw [if_pos rfl, hU, hf]
   simp [z4f]
  ·rw [if_neg e, hU]
   cases zss F k with
   | some M => rfl
   | none => simp [e]
theorem z9h {r : SM} {p : List UInt8 → Bool} {k : List UInt8} : zcf (r.filter fun x => p x.1) k = if p k then zcf r k else none := by
 induction r with
 | nil => simp [zcf]
 | cons x r ih =>
  rw [List.filter_cons]
  by_cases e : x.1 = k
  ·subst e
   cases hp : p x.1 with
   | true => simp only [if_true]; rw [zb1 rfl, zb1 rfl]
   | false => simp only [Bool.false_eq_true, if_false]; rw [ih, hp]; simp
  ·rw [zbz e]
   cases hp : p x.1 with
   | true => simp only [if_true]; rw [zbz e, ih]
   | false => simp only [Bool.false_eq_true, if_false]; exact ih
theorem zy8 {r : SM} {p : List UInt8 → Bool} {k : List UInt8} : zax (r.filter fun x => p x.1) k = if p k then zax r k else none := by
 unfold zax; rw [z9h]; split <;> rfl
def qki (F : BL) : SM := F.map fun x => (x.1, ((none, 0, 0), x.2), 0)
theorem qeg {F : BL} : view (qki F) = F := by
 unfold view qki
 rw [List.map_map]
 conv => rhs; rw [← List.map_id F]
 rfl
theorem qgk {F : BL} {k : List UInt8} : zax (qki F) k = zss F k := by rw [← ztm, qeg]
theorem z7d {tl rl : SM} {F : BL} (hk : (tl.map (·.1)).Nodup) (hF : (F.map (·.1)).Nodup) (hv : ∀ k, zax tl k = z4f (zax rl k) (zss F k) k) : zmw tl rl = extra rl F := by
 have h1 : zmw tl rl = total (tl.filter fun x => (zax rl x.1).isNone) := rfl
 have h2 : extra rl F = total ((qki F).filter fun x => (zax rl x.1).isNone) := by
  unfold extra total qki
  rw [List.filter_map, List.map_map]
  rfl
 rw [h1, h2]
 refine (zsz (hk.sublist (List.Sublist.map _ List.filter_sublist)) (List.Nodup.sublist (List.Sublist.map _ List.filter_sublist) (by simpa [qki, Function.comp_def] using hF)) fun k => ?_).1
 rw [zy8 (p := fun k => (zax rl k).isNone), zy8 (p := fun k => (zax rl k).isNone), qgk, hv]
 cases zax rl k with
 | none => cases zss F k <;> rfl
 | some v => rfl
theorem Mine.putk {H : Heap} {B sz : Nat} {T : TypeId} {x : Option Addr × Nat × Nat} {vs : List Value} (h : Mine H B T sz x vs) {i : Nat} (hi : i < vs.length) (v : Value) :
  ∃ b c, x.1 = some ⟨b, 0, none⟩ ∧ H[b]? = some (.cells c T (0, 0)) ∧ i < c.size ∧ Mine (H.setIfInBounds b (.cells (c.setIfInBounds i v) T (0, 0))) B T sz x (vs.set i v) := by
 rcases h with ⟨_, rfl⟩ | ⟨b, c, hx, hB, hb, hc, hl, hle, he⟩
 ·cases hi
 ·have hvc : vs.length ≤ c.size := by rw [hl, hc]; exact Nat.mul_le_mul_right sz hle
  have hget : ∀ j, j < vs.length → c[j]? = vs[j]? := by
   intro j hj
   have : ((c.extract 0 vs.length).toList)[j]? = vs[j]? := by rw [he]
   rw [Array.getElem?_toList, Array.getElem?_extract, if_pos (by omega)] at this
   simpa using this
  refine ⟨b, c, hx, hb, by omega, .inr ⟨b, _, hx, hB, qm hb, by simpa using hc, by simpa using hl, hle, ?_⟩⟩
  apply List.ext_getElem?
  intro j
  rw [Array.getElem?_toList, Array.getElem?_extract]
  simp only [List.length_set, Nat.sub_zero, Nat.zero_add, Array.size_setIfInBounds]
  by_cases hj : j < vs.length
  ·rw [if_pos (by omega), Array.getElem?_setIfInBounds, List.getElem?_set]
   by_cases e : i = j
   ·subst e; simp [hi, show i < c.size by omega]
   ·simp only [e, if_false]; exact hget j hj
  ·rw [if_neg (by omega), List.getElem?_eq_none (by simp; omega)]
theorem set_mid {pre t : SM} {y : BE} {v : Option Addr × Nat × Nat} {L : List UInt8} {s : Nat} : ((pre ++ y :: t).flatMap zg0).set (pre.length * 33 + 32) (zc9 v) = (pre ++ (y.1, (v, L), s) :: t).flatMap zg0 := by
 have h1 : (pre.flatMap zg0).length = pre.length * 33 := qc zg0 zez _
 have h2 : (byteCells (pad y.1)).length = 32 := by rw [je, zun]
 simp only [List.flatMap_append, List.flatMap_cons]
 rw [List.set_append_right _ _ (by omega), h1, Nat.add_sub_cancel_left, List.set_append_left _ _ (by rw [zez]; omega)]
 congr 2
 unfold zg0
 rw [List.set_append_right _ _ (by omega), h2]
 rfl
theorem qg7 {rl pre rest : SM} {k : List UInt8} (h : Split rl k pre rest) (hr : zk8 rl) (hh : hit rest k = false) : ∀ x ∈ rest, Lib.compareBytes k x.1 < 0 := by
 intro x hx
 have h1 := h.hi x hx
 have h2 : x.1 ≠ k := by
  intro e
  have hv := qav hr.nodup (y := x) (by rw [h.eq]; simp [hx])
  rw [e, zv8 h hr hh] at hv
  cases hv
 have h3 : Lib.compareBytes x.1 k ≠ 0 := fun e => h2 (zft.1 e)
 rw [zto]
 rcases zj1 (a := x.1) (b := k) with e | e | e <;> omega
def Pt (H : Heap) (pc : Nat) (q : Int) (rl : SM) (Ls : List (List UInt8)) (i : Nat) (W : World) : Prop := ∃ tl fpc, Ext [] H W.heap ∧ zd9 W.heap fpc pc q tl ∧ (∀ b ∈ fpc, H.size ≤ b ∧ b < W.heap.size) ∧
 (∀ k, zax tl k = z4f (zax rl k) (zss (fresh (Ls.take i)) k) k) ∧ tl.length ≤ rl.length + i ∧ total tl ≤ total rl + 4096 * i ∧ ∀ x ∈ tl, x.2.1.2.length < 1099511627776
theorem Pt.next {H : Heap} {pc : Nat} {q : Int} {rl tl : SM} {Ls : List (List UInt8)} {i : Nat} (hi : i < Ls.length) {U : List UInt8 → Option (List UInt8)} (hU : ∀ k, U k = z4f (zax rl k) (zss (fresh (Ls.take i)) k) k)
  (ht : ∀ k, zax tl k = if k = Sha.sum Ls[i] then z4f (U (Sha.sum Ls[i])) (some Ls[i]) (Sha.sum Ls[i]) else U k) : ∀ k, zax tl k = z4f (zax rl k) (zss (fresh (Ls.take (i + 1))) k) k := by
 intro k
 rw [ht, zvc hi]
 exact qid (z4t _ [] (by intro k L h; simp [zss] at h)) hU k
set_option maxHeartbeats 16000000 in
theorem qey {w : World} {H : Heap} {fp : List Nat} {p : Nat} {q : Int} {rl : SM} {a : Option Addr} {n nc : Nat} {Ls : List (List UInt8)} (hw : w.heap = H) (hS : zd9 H fp p q rl) (hfp : ∀ b ∈ fp, b < H.size)
  (hL : Rows H a n Ls) (hb : total rl + 4096 * Ls.length < 1125899906842624) (hn : rl.length + Ls.length < 274877906944) (hq : 0 ≤ q) (hq2 : q ≤ 9223372036854775807) (hlen : ∀ x ∈ rl, x.2.1.2.length < 1099511627776) (hlens : ∀ L ∈ Ls, L.length < 140737488351233) :
  qg P zds #[.pointer (some ⟨p, 0, none⟩), .slice a n nc] w fun e w' => ∃ code rl' fp', e = .returned (.int .i64 code) ∧ zd9 w'.heap fp' p q rl' ∧ Ext fp H w'.heap ∧ (∀ b ∈ fp', b ∈ fp ∨ (H.size ≤ b ∧ b < w'.heap.size)) ∧ zxb q rl Ls code rl' ∧
   rl'.length ≤ rl.length + Ls.length ∧ total rl' ≤ total rl + 4096 * Ls.length ∧ ∀ x ∈ rl', x.2.1.2.length < 1099511627776 := by
 obtain ⟨rfl, hL⟩ := hL
 refine zrh ?_
 unfold zg6
 refine jd (fun (s : Int) W => ∃ i : Nat, s = (i : Int) ∧ i ≤ Ls.length ∧ W = w ∧ ∀ j (h : j < Ls.length), j < i → Ls[j].length ≤ 4096) (fun s _ => (Ls.length - s).toNat) ⟨0, rfl, Nat.zero_le _, rfl, by intro j h h2; omega⟩ ?_
 rintro _ _ ⟨i, rfl, hi, rfl, hsh⟩
 refine zq (fun hlt => ?_) (fun hge => ?_)
 ·have hil : i < Ls.length := by omega
  obtain ⟨bl, ol, cl, Tl, frl, xl, rfl, hbl, hcl, hxC, hxl, hxc⟩ := hL i hil
  refine zoy i rfl hil ?_
  refine jh (s := .slc) (t := xl) hw hbl hcl ?_
  refine zq (fun hbig => ?_) (fun hsmall => ?_)
  ·have hlong : long Ls := ⟨Ls[i], List.getElem_mem hil, by omega⟩
   exact ⟨2, rl, fp, rfl, by rw [hw]; exact hS, by rw [hw]; exact .refl _ _, fun b hb => .inl hb, ⟨fun _ => ⟨rfl, rfl⟩, fun h => absurd hlong h, fun h => absurd hlong h⟩, by omega, by omega, hlen⟩
  ·refine xw ((i + 1 : Nat) : Int) (by omega) (by omega) (by omega) ?_
   refine ⟨⟨i + 1, rfl, by omega, rfl, fun j hj hj1 => ?_⟩, by omega⟩
   by_cases e : j = i
   ·subst e; omega
   ·exact hsh j hj (by omega)
 have hnlong : ¬ long Ls := by
  rintro ⟨L, hLm, hLl⟩
  obtain ⟨j, hj, rfl⟩ := List.mem_iff_getElem.1 hLm
  have := hsh j hj (by omega)
  omega
 have hsm : ∀ j (h : j < Ls.length), Ls[j].length ≤ 4096 := fun j h => hsh j h (by omega)
 clear hge hsh hi i
 refine zk (qho hw hS (by omega) hlen) ?_
 rintro e w2 ⟨pc, fpc, tl0, rfl, hT0, hx2, hfpc, hbare⟩
 refine ⟨some ⟨pc, 0, none⟩, rfl, ?_⟩
 have htot0 : total tl0 = total rl := by
  have := congrArg (fun l => (l.map fun x : List UInt8 × List UInt8 => x.2.length).sum) hbare
  simpa [bare, total, Function.comp_def] using this
 refine jd (fun (s : Int) W => ∃ i : Nat, s = (i : Int) ∧ i ≤ Ls.length ∧ Pt H pc q rl Ls i W) (fun s _ => (Ls.length - s).toNat) ⟨0, rfl, Nat.zero_le _, tl0, fpc, hx2, hT0, hfpc, fun k => by rw [z4v hbare]; rfl, by rw [qbl hbare]; omega, by omega, ?_⟩ ?_
 ·intro x hx
  have : (x.1, x.2.1.2) ∈ bare tl0 := List.mem_map.2 ⟨x, hx, rfl⟩
  rw [hbare] at this
  obtain ⟨y, hy, e⟩ := List.mem_map.1 this
  simp only [Prod.mk.injEq] at e
  rw [← e.2]; exact hlen y hy
 clear hT0 hbare hfpc hx2 htot0 fpc tl0
 rintro _ W ⟨i, rfl, hi, tl, fpc, hxW, hT, hfpc, hview, htl, htt, hlt2⟩
 refine zq (fun hlt => ?_) (fun hge => ?_)
 ·have hil : i < Ls.length := by omega
  obtain ⟨bl, ol, cl, Tl, frl, xl, rfl, hbl, hcl, hxC, hxl, hxc⟩ := hL i hil
  have hLl := hsm i hil
  have hnext := fun (tl' : SM) => Pt.next (H := H) (pc := pc) (q := q) (tl := tl') hil hview
  refine joinP_of (fun _ W' => Pt H pc q rl Ls (i + 1) W') ?_ ?_
  rotate_left
  ·rintro _ W' h
   refine xw ((i + 1 : Nat) : Int) (by omega) (by omega) (by omega) ?_
   exact ⟨⟨i + 1, rfl, by omega, h⟩, by omega⟩
  refine joinP_of (fun _ W' => Pt H pc q rl Ls (i + 1) W') ?_ (fun _ _ h => h)
  generalize hLL : Ls[i] = L at *
  refine zoy i rfl hil ?_
  refine jh (s := .slc) (t := xl) rfl (hxW.get hbl (by simp)) hcl ?_
  refine zk (zsm rfl (hxC.ext hxW (by simp)) hxl (by omega)) ?_
  rintro e w4 ⟨rfl, hx4⟩
  refine ⟨arr (Sha.sum L), rfl, ?_⟩
  refine qmp rfl zad fun w6 hb6 hx6 hs6 => ?_
  have hx46 := hx4.trans hx6
  have hx06 := hxW.trans hx46
  refine jf rfl hb6 (by simp [byteCells, zad]) ?_
  have hT6 := hT.ext hx46 (by simp)
  refine zk (qee rfl hT6 zad (by omega)) ?_
  rintro e w7 ⟨pre, rest, rfl, hsp, hx7⟩
  refine ⟨((pre.length : Int), hit rest (Sha.sum L)), rfl, ?_⟩
  have hx07 := hx06.trans hx7
  have hT7 := hT6.ext hx7 (by simp)
  have hb7 := hx7.get hb6 (by simp)
  have hW7 : W.heap.size ≤ w7.heap.size := (hx46.trans hx7).1
  have hHW := hxW.1
  have hrise := hT.rise
  have hfp7 : ∀ b ∈ fpc, H.size ≤ b ∧ b < w7.heap.size := fun b hb => ⟨(hfpc b hb).1, by have := (hfpc b hb).2; omega⟩
  generalize w4.heap.size = bk at *
  clear hx4 hx6 hx46 hx06 hT hT6 hb6 hfpc hxW hs6
  cases hh : hit rest (Sha.sum L) with
  | false =>
   refine zaa rfl ?_
   have hvn := zv8 hsp hrise hh
   have hgap := qg7 hsp hrise hh
   obtain ⟨xt, t1, t2, t3, t4, t5, t6, t7⟩ := hT7
   have hpH := (hfp7 _ t3).1
   have heq := hsp.eq
   subst heq
   have hll : (pre ++ rest).length = pre.length + rest.length := by simp
   have hxl7 := zjw t2
   have hxc7 := qjg t2
   refine qn7 rfl fun w8 hx8 hm8 => ?_
   have hx78 := hx8
   simp only [xq, jv, Nat.zero_add]
   refine jh (s := .slc) (t := xt) rfl (hx78.get t1 (by simp)) rfl ?_
   obtain ⟨a1, hr1, hC1⟩ := qlk (i := pre.length) (t2.ext hx78 (by simp)).cells hxl7 hxc7 (by omega) rfl
   rw [List.take_left] at hC1
   refine xg (s := .slc) (a1, pre.length, xt.2.2) (hr1 _) ?_
   refine qmb (r1 := []) (r2 := pre) rfl hm8 hx8.1 hC1 rfl (by simp; omega) ?_
   intro x9 w9 hm9 hl9 hx9 hs9
   rw [List.nil_append] at hm9
   have hx79 : Ext [] w7.heap w9.heap := hx8.own hx9 (by intro b hb; simp [xu] at hb; omega)
   refine vg rfl fun w10 hw10 => ?_
   have hx910 : Ext [] w9.heap w10.heap := by rw [hw10]; exact .refl _ _
   have hx710 := hx79.trans hx910
   refine zoy i rfl hil ?_
   refine jf rfl (hx710.get hb7 (by simp)) (by simp [byteCells, zad]) ?_
   have hbl10 := (hx07.trans hx710).get hbl (by simp)
   refine jh (s := .slc) (t := xl) rfl hbl10 hcl ?_
   refine ql7 rfl fun w11 hx11 hm11 => ?_
   have hx711 := hx710.trans hx11
   refine ⟨jh (s := .slc) (t := xl) rfl (hx11.get hbl10 (by simp)) hcl rfl, ?_⟩
   refine ⟨jf rfl (hx711.get hb7 (by simp)) (by simp [byteCells, zad]) rfl, ?_⟩
   refine qi6 rfl hm11 hx11.1 (hxC.ext (hx07.trans hx711) (by simp)) hxl (by omega) ?_
   intro x12 w12 hm12 hl12 hx12
   have hx712 : Ext [] w7.heap w12.heap := hx711.own hx12 (by intro b hb hlt; have := hx710.1; simp [xu] at hb; omega)
   have hx912 : Ext [] w9.heap w12.heap := (hx910.trans hx11).own hx12 (by intro b hb hlt; have := hx910.1; simp [xu] at hb; omega)
   refine ⟨jf rfl (hx712.get hb7 (by simp)) (by simp [byteCells, zad]) rfl, ?_⟩
   refine qlh rfl (Sha.sum L, (x12, L), 0) zad fun a13 w13 hx13 hC13 => ?_
   have hx913 := hx912.trans hx13
   have hx713 := hx712.trans hx13
   have hm13 := hm9.ext hx913 (by simp)
   have hs78 := hx8.1
   have hs79 := hx79.1
   refine qmb (r1 := pre) (r2 := [(Sha.sum L, (x12, L), 0)]) rfl hm13 (by have := hx713.1; omega) hC13 rfl (by simp; omega) ?_
   intro x14 w14 hm14 hl14 hx14 hs14
   have hx714 : Ext [] w7.heap w14.heap := hx713.own hx14 (by intro b hb hlt; have := jc hm13 b hb; omega)
   refine jh (s := .slc) (t := xt) rfl (hx714.get t1 (by simp)) rfl ?_
   obtain ⟨a2, hr2, hC2⟩ := qij (i := pre.length) (t2.ext hx714 (by simp)).cells hxl7 hxc7 (by omega) rfl
   rw [List.drop_left] at hC2
   refine xg (s := .slc) (a2, xt.2.1 - pre.length, xt.2.2 - pre.length) (hr2 _) ?_
   refine qmb (r1 := pre ++ [(Sha.sum L, (x12, L), 0)]) (r2 := rest) rfl hm14 (by have := hx714.1; omega) hC2 (by simp only; omega) (by simp; omega) ?_
   intro x15 w15 hm15 hl15 hx15 hs15
   have hx715 : Ext [] w7.heap w15.heap := hx714.own hx15 (by intro b hb hlt; have := jc hm14 b hb; omega)
   have t15 := hx715.get t1 (by simp)
   refine zcd rfl t15 (by simp) fun w16 hw16 => ?_
   have hx1516 : Ext [pc] w15.heap w16.heap := by rw [hw16]; exact Ext.set _ (by simp)
   rw [List.append_assoc, List.singleton_append] at hm15
   have hg15 := jc hm15
   have hg12 := jc hm12
   have hpc7 := (hfp7 _ t3).2
   have hm16 := hm15.ext hx1516 (fun b hb => by have := hg15 b hb; simp only [List.mem_singleton]; omega)
   have h12_15 : Mine w15.heap 0 qy 1 x12 (byteCells L) := by
    have h1 := hm12.ext hx13 (by simp)
    have h2 := h1.ext hx14 (fun b hb hb2 => by
     obtain ⟨_, c1, e1⟩ := za7 h1 b hb
     obtain ⟨_, c2, e2⟩ := za7 hm13 b hb2
     rw [e1] at e2; cases e2)
    have h3 := h2.ext hx15 (fun b hb hb2 => by
     obtain ⟨_, c1, e1⟩ := za7 h2 b hb
     obtain ⟨_, c2, e2⟩ := za7 hm14 b hb2
     rw [e1] at e2; cases e2)
    exact h3.mono (Nat.zero_le _)
   have hs712 := hx712.1
   have hs710 := hx710.1
   have h12_16 : Mine w16.heap 0 qy 1 x12 (byteCells L) := h12_15.ext hx1516 (fun b hb => by have := hg12 b hb; simp only [List.mem_singleton]; omega)
   refine ⟨pre ++ (Sha.sum L, (x12, L), 0) :: rest, fpc ++ xu x15 ++ xu x12, (hx07.trans hx715).own hx1516 (by intro b hb hlt; simp at hb; omega), ⟨x15, by rw [hw16]; exact qm t15, hm16.mono (Nat.zero_le _), by simp [t3], fun b hb => by simp [hb], ?_, ?_, ?_⟩, ?_, ?_, ?_, ?_, ?_⟩
   ·intro z hz
    rcases ze6.1 hz with rfl | hz
    ·exact ⟨h12_16, fun b hb => by simp only [List.mem_append]; exact .inr hb⟩
    ·have hV := (t5.ext hx715 (by simp)).off (o := .map #[] 0) t15 (by decide) hx1516
     exact ⟨(hV z hz).1, fun b hb => by simp [(hV z hz).2 b hb]⟩
   ·refine t6.mid fun z hz b hb hb2 => ?_
    have h1 := hg12 b hb
    have h2 := (hfp7 b ((t5 z hz).2 b hb2)).2
    have := hx710.1
    omega
   ·exact t7.mid zad hsp.lo hgap
   ·intro b hb
    rw [List.append_assoc] at hb
    rcases List.mem_append.1 hb with hb | hb
    ·exact ⟨(hfp7 b hb).1, by have := (hfp7 b hb).2; have := hx715.1; have := hx1516.1; omega⟩
    ·rcases List.mem_append.1 hb with hb | hb
     ·exact ⟨by have := hg15 b hb; omega, (za7 hm16 b hb).1⟩
     ·exact ⟨by have := hg12 b hb; omega, (za7 h12_16 b hb).1⟩
   ·refine hnext _ fun k => ?_
    rw [ztd (y := (Sha.sum L, (x12, L), 0)) (fun z hz => z2s (hsp.lo z hz)), hvn]
    rfl
   ·simp only [List.length_append, List.length_cons] at htl ⊢; omega
   ·rw [z5h]; simp only; omega
   ·intro z hz
    rcases ze6.1 hz with rfl | hz
    ·simp only; omega
    ·exact hlt2 z hz
  | true =>
   refine jl rfl ?_
   obtain ⟨y, t, rfl, hyk, hvy, hget, hmem⟩ := z4g hsp hrise hh
   obtain ⟨xt, t1, t2, t3, t4, t5, t6, t7⟩ := hT7
   have hpH := (hfp7 _ t3).1
   have hxl7 := zjw t2
   have hyl := zyh t5 hget
   have hyL := hlt2 _ hmem
   refine vg rfl fun w17 hw17 => ?_
   have hx17 : Ext [] w7.heap w17.heap := by rw [hw17]; exact .refl _ _
   simp only [xq, jv, Nat.zero_add]
   refine jh (s := .slc) (t := xt) rfl (hx17.get t1 (by simp)) rfl ?_
   refine ztn rfl (t2.ext hx17 (by simp)).cells hxl7 hget rfl ?_
   refine jf rfl (hx17.get hb7 (by simp)) (by simp [byteCells, zad]) ?_
   refine zk (zsm rfl ((t5 y hmem).1.ext hx17 (by simp)).cells hyl (by omega)) ?_
   rintro e w18 ⟨rfl, hx18⟩
   refine ⟨arr (Sha.sum y.2.1.2), rfl, ?_⟩
   have hx718 := hx17.trans hx18
   refine ⟨jf rfl (hx718.get hb7 (by simp)) (by simp [byteCells, zad]) rfl, ?_⟩
   refine xg (s := .bool) _ (z3x u27 u5 c5 g27 zad zad) ?_
   have heq := hsp.eq
   subst heq
   obtain ⟨_, hlo, hhi⟩ := zwf.1 hrise
   by_cases e : Sha.sum y.2.1.2 = Sha.sum L
   ·refine jl (by simp [e]) ?_
    refine ⟨pre ++ y :: t, fpc, hx07.trans hx718, ⟨xt, hx718.get t1 (by simp), t2.ext hx718 (by simp), t3, t4, t5.ext hx718 (by simp), t6, t7⟩, fun b hb => ⟨(hfp7 b hb).1, by have := (hfp7 b hb).2; have := hx718.1; omega⟩, ?_, by omega, by omega, hlt2⟩
    refine hnext _ fun k => ?_
    rw [hvy]
    by_cases e2 : k = Sha.sum L
    ·rw [if_pos e2, e2, hvy]; simp [z4f, e]
    ·rw [if_neg e2]
   ·refine zaa (by simp [e]) ?_
    refine vg rfl fun w19 hw19 => ?_
    have hx719 : Ext [] w7.heap w19.heap := by rw [hw19]; exact hx718
    refine zoy i rfl hil ?_
    have t119 := hx719.get t1 (by simp)
    refine jh (s := .slc) (t := xt) rfl t119 rfl ?_
    have hbl19 := (hx07.trans hx719).get hbl (by simp)
    refine jh (s := .slc) (t := xl) rfl hbl19 hcl ?_
    refine ql7 rfl fun w20 hx20 hm20 => ?_
    refine ⟨jh (s := .slc) (t := xl) rfl (hx20.get hbl19 (by simp)) hcl rfl, ?_⟩
    refine ⟨jh (s := .slc) (t := xt) rfl (hx20.get t119 (by simp)) rfl rfl, ?_⟩
    have hx720 := hx719.trans hx20
    refine qi6 rfl hm20 hx20.1 (hxC.ext (hx07.trans hx720) (by simp)) hxl (by omega) ?_
    intro x21 w21 hm21 hl21 hx21
    have hx721 : Ext [] w7.heap w21.heap := hx720.own hx21 (by intro b hb hlt; have := hx719.1; simp [xu] at hb; omega)
    have t121 := hx721.get t1 (by simp)
    refine ⟨jh (s := .slc) (t := xt) rfl t121 rfl rfl, ?_⟩
    have t221 := t2.ext hx721 (by simp)
    have hlv : ((pre ++ y :: t).flatMap zg0).length = (pre ++ y :: t).length * 33 := qc zg0 zez _
    obtain ⟨bb, cc, hxa, hbb, hic, hput⟩ := Mine.putk t221 (i := pre.length * 33 + 32) (by rw [hlv]; simp; omega) (zc9 x21)
    rw [set_mid (s := y.2.2) (L := L)] at hput
    rw [hxa]
    refine qh3 pre.length rfl (by rw [hxl7]; simp) ?_
    simp only [jv, Nat.zero_add]
    refine zcd rfl hbb hic fun w22 hw22 => ?_
    have hw22' : w22.heap = w21.heap.setIfInBounds bb (.cells (cc.setIfInBounds (pre.length * 33 + 32) (zc9 x21)) zbg (0, 0)) := hw22
    rw [← hw22'] at hput
    have hx2122 : Ext [bb] w21.heap w22.heap := by rw [hw22]; exact Ext.set _ (by simp)
    have hbf : bb ∈ fpc := t4 bb (by simp only [xu]; rw [hxa]; simp)
    have hg21 := jc hm21
    have hs719 := hx719.1
    have h21_22 : Mine w22.heap 0 qy 1 x21 (byteCells L) := (hm21.mono (Nat.zero_le _)).ext hx2122 (fun b hb => by have := hg21 b hb; have := (hfp7 _ hbf).2; simp only [List.mem_singleton]; omega)
    refine ⟨pre ++ (y.1, (x21, L), y.2.2) :: t, fpc ++ xu x21, (hx07.trans hx721).own hx2122 (by intro b hb hlt; simp at hb; have := (hfp7 _ hbf).1; omega), ⟨xt, hx2122.get t121 ?_, hput, by simp [t3], fun b hb => by simp [t4 b hb], ?_, ?_, ?_⟩, ?_, ?_, ?_, ?_, ?_⟩
    ·simp only [List.mem_singleton]; rintro rfl; rw [t121] at hbb; cases hbb
    ·intro z hz
     rcases ze6.1 hz with rfl | hz
     ·exact ⟨h21_22, fun b hb => by simp only [List.mem_append]; exact .inr hb⟩
     ·have hV := (t5.ext hx721 (by simp)).off (o := .map #[] 0) hbb (by decide) hx2122
      have hz' : z ∈ pre ++ y :: t := ze6.2 (.inr hz)
      exact ⟨(hV z hz').1, fun b hb => by simp [(hV z hz').2 b hb]⟩
    ·refine Apart.mid (t6.sub fun z hz => ze6.2 (.inr hz)) fun z hz b hb hb2 => ?_
     have h1 := hg21 b hb
     have h2 := (hfp7 b ((t5 z (ze6.2 (.inr hz))).2 b hb2)).2
     omega
    ·exact t7.sub.mid (t7.len y hmem) hlo hhi
    ·intro b hb
     rcases List.mem_append.1 hb with hb | hb
     ·exact ⟨(hfp7 b hb).1, by have := (hfp7 b hb).2; have := hx721.1; have := hx2122.1; omega⟩
     ·exact ⟨by have := hg21 b hb; omega, (za7 h21_22 b hb).1⟩
    ·refine hnext _ fun k => ?_
     rw [ztd (y := (y.1, (x21, L), y.2.2)) (fun z hz => z2s (hlo z hz)), hvy]
     show (if k = y.1 then some L else _) = _
     rw [hyk]
     by_cases e2 : k = Sha.sum L
     ·rw [if_pos e2, if_pos e2]; simp [z4f, e]
     ·rw [if_neg e2, if_neg e2, ztd (y := y) (fun z hz => z2s (hlo z hz)), if_neg (by rw [hyk]; exact e2)]
    ·simp only [List.length_append, List.length_cons] at htl ⊢; omega
    ·rw [z5h] at htt ⊢; simp only; omega
    ·intro z hz
     rcases ze6.1 hz with rfl | hz
     ·simp only; omega
     ·exact hlt2 z (ze6.2 (.inr hz))
 ·have hie : i = Ls.length := by omega
  subst hie
  rw [List.take_length] at hview
  refine vg rfl fun w25 hw25 => ?_
  have hxW5 : Ext [] W.heap w25.heap := by rw [hw25]; exact .refl _ _
  have hx25 := hxW.trans hxW5
  have hS25 := hS.ext hx25 (by simp)
  have hT25 := hT.ext hxW5 (by simp)
  obtain ⟨x, h1, h2, h3, h4, h5, h6, h7⟩ := hS
  simp only [xq, jv, Nat.zero_add]
  refine jh (s := .int .i64) (t := q) rfl (hx25.get h1 (by simp)) rfl ?_
  refine zk (qh6 rfl hT25 hS25 (by omega) (by omega) (by omega)) ?_
  rintro e w26 ⟨rfl, hx26⟩
  refine ⟨_, rfl, ?_⟩
  have hx026 := hx25.trans hx26
  refine ⟨jh (s := .int .i64) (t := q) rfl (hx026.get h1 (by simp)) rfl rfl, ?_⟩
  refine zk (z3j rfl (hS25.ext hx26 (by simp)) (by omega) (by omega)) ?_
  rintro e w27 ⟨rfl, rfl⟩
  refine ⟨(total rl : Int), rfl, ?_⟩
  refine ⟨jh (s := .int .i64) (t := q) rfl (hx026.get h1 (by simp)) rfl rfl, ?_⟩
  refine zbs (q - total rl) rfl (by omega) (by omega) ?_
  have hext : zmw tl rl = extra rl (fresh Ls) := z7d hT.keys (zxo Ls [] (by simp)) hview
  have hT26 := hT25.ext hx26 (by simp)
  have hpl := lt_of_get h1
  refine zq (fun hfull => ?_) (fun hfit => ?_)
  ·refine ⟨3, rl, fp, rfl, hS25.ext hx26 (by simp), hx026.mono (by simp), fun b hb => .inl hb, ⟨fun h => absurd h hnlong, fun _ _ => ⟨rfl, rfl⟩, fun _ h => absurd (by omega) h⟩, by omega, by omega, hlen⟩
  ·obtain ⟨xt, t1, t2, t3, t4, t5, t6, t7⟩ := hT26
   refine jh (s := .slc) (t := xt) rfl t1 rfl ?_
   have hp26 := hx026.get h1 (by simp)
   refine zcd rfl hp26 (by simp) fun w28 hw28 => ?_
   have hx28 : Ext [p] w27.heap w28.heap := by rw [hw28]; exact Ext.set _ (by simp)
   have hnp : ∀ b ∈ fpc, b ∉ [p] := fun b hb => by have := (hfpc b hb).1; simp only [List.mem_singleton]; omega
   refine ⟨0, tl, fp ++ fpc, rfl, ⟨xt, by rw [hw28]; exact qm hp26, t2.ext hx28 (fun b hb => hnp b (t4 b hb)), by simp [h3], fun b hb => by simp [t4 b hb], (t5.ext hx28 hnp).mono (fun b hb => by simp [hb]), t6, t7⟩, (hx026.mono (by simp)).trans (hx28.mono (by simpa using h3)), ?_, ⟨fun h => absurd h hnlong, fun _ h => absurd h (by omega), fun _ _ => ⟨rfl, hview⟩⟩, by omega, by omega, hlt2⟩
   intro b hb
   rcases List.mem_append.1 hb with hb | hb
   ·exact .inl hb
   ·exact .inr ⟨(hfpc b hb).1, by have := (hfpc b hb).2; have := hxW5.1; have := hx26.1; have := hx28.1; omega⟩
theorem qd3 {r rl : SM} (h : ∀ k, zax r k = zax rl k) (F : BL) : extra r F = extra rl F := by
 unfold extra
 rw [show (fun x : List UInt8 × List UInt8 => (zax r x.1).isNone) = fun x => (zax rl x.1).isNone from funext fun x => by rw [h]]
theorem z9j {q : Int} {r r' rl rl' : SM} {Ls : List (List UInt8)} {code code' : Int} (h : zxb q r Ls code r') (h' : zxb q rl Ls code' rl') (hv : ∀ k, zax r k = zax rl k) (ht : total r = total rl) : code = code' ∧ ∀ k, zax r' k = zax rl' k := by
 have hx := qd3 hv (fresh Ls)
 by_cases hl : long Ls
 ·obtain ⟨rfl, rfl⟩ := h.1 hl
  obtain ⟨rfl, rfl⟩ := h'.1 hl
  exact ⟨rfl, hv⟩
 by_cases hf : q < total r + extra r (fresh Ls)
 ·obtain ⟨rfl, rfl⟩ := h.2.1 hl hf
  obtain ⟨rfl, rfl⟩ := h'.2.1 hl (by omega)
  exact ⟨rfl, hv⟩
 ·obtain ⟨rfl, h2⟩ := h.2.2 hl hf
  obtain ⟨rfl, h3⟩ := h'.2.2 hl (by omega)
  exact ⟨rfl, fun k => by rw [h2, h3, hv]⟩
theorem Small.view {r s : SM} (h : Small r) (hv : ∀ k, zax r k = zax s k) : Small s := fun k L hk => h k L (by rw [hv]; exact hk)
end Go.Proofs.YtbmegmbnlajbbaaGreatDoor.Bl
namespace Go.Proofs.YtbmegmbnlajbbaaGreatDoor
open Go Go.Fw Go.Proofs
structure Itm where
 name : List UInt8
 kind : Int
 sum : List UInt8
deriving DecidableEq, Inhabited
structure Nod where
 kind : Int
 data : List UInt8
 size : Int
 parts : List (List UInt8)
 items : List Itm
deriving DecidableEq, Inhabited
def zfk (i : Itm) : List Value := .string (strOf i.name) :: .int .i64 i.kind :: Bl.zf3 i.sum
theorem zay (i : Itm) : (zfk i).length = 34 := by simp [zfk, Bl.zd8]
theorem z3m {i : Itm} : zcs (zfk i) := by
 intro v hv
 simp only [zfk, List.mem_cons] at hv
 rcases hv with rfl | rfl | hv
 ·rfl
 ·rfl
 ·exact Bl.zyc v hv
def zdv (n : Nod) (xp xi : Option Addr × Nat × Nat) : List Value := [.int .i64 n.kind, .string (strOf n.data), .int .i64 n.size, zc9 xp, zc9 xi]
structure NodW (H : Heap) (n : Nod) (xp xi : Option Addr × Nat × Nat) : Prop where
 parts : Cells H xp.1 (n.parts.flatMap Bl.zf3)
 plen : xp.2.1 = n.parts.length
 items : Cells H xi.1 (n.items.flatMap zfk)
 ilen : xi.2.1 = n.items.length
 p32 : ∀ p ∈ n.parts, p.length = 32
 i32 : ∀ i ∈ n.items, i.sum.length = 32
theorem NodW.ext {H H' : Heap} {n : Nod} {xp xi : Option Addr × Nat × Nat} (h : NodW H n xp xi) (hx : Ext [] H H') : NodW H' n xp xi :=
 ⟨h.parts.ext hx (by simp), h.plen, h.items.ext hx (by simp), h.ilen, h.p32, h.i32⟩
def qkh (i : Itm) : List UInt8 := zq9 i.name ++ zf6 i.kind ++ i.sum
def zkb (l : List (List UInt8)) : List UInt8 := l.flatten
def zq5 (l : List Itm) : List UInt8 := (l.map qkh).flatten
def zgl (n : Nod) : List UInt8 := zf6 n.kind ++ (if n.kind = 1 then zq9 n.data else if n.kind = 2 then zf6 n.size ++ zkb n.parts else zf6 n.items.length ++ zq5 n.items)
structure SmallN (n : Nod) : Prop where
 data : n.data.length ≤ 65536
 parts : n.parts.length ≤ 65536
 items : n.items.length ≤ 65536
 names : ∀ i ∈ n.items, i.name.length ≤ 65536
theorem zqb : ∀ {l : List (List UInt8)}, (∀ p ∈ l, p.length = 32) → (zkb l).length = 32 * l.length
 | [], _ => by simp [zkb]
 | p :: l, h => by
  have h1 := h p (by simp)
  have h2 := zqb (l := l) fun q hq => h q (by simp [hq])
  simp only [zkb, List.flatten_cons, List.length_append, List.length_cons] at *
  omega
theorem qhz {i : Itm} (h : i.name.length ≤ 65536) (h32 : i.sum.length = 32) : (qkh i).length ≤ 65600 := by
 have h1 := zd7 (n := i.name.length) (by omega)
 have h2 := zd2 (k := i.kind)
 simp only [qkh, zq9, List.length_append]
 omega
theorem zth : ∀ {l : List Itm}, (∀ i ∈ l, i.name.length ≤ 65536) → (∀ i ∈ l, i.sum.length = 32) → (zq5 l).length ≤ 65600 * l.length
 | [], _, _ => by simp [zq5]
 | i :: l, h, h' => by
  have h1 := qhz (h i (by simp)) (h' i (by simp))
  have h2 := zth (l := l) (fun q hq => h q (by simp [hq])) (fun q hq => h' q (by simp [hq]))
  simp only [zq5, List.map_cons, List.flatten_cons, List.length_append, List.length_cons] at *
  omega
theorem z1g {l : List Itm} {i : Itm} : zq5 (l ++ [i]) = zq5 l ++ qkh i := by simp [zq5]
theorem zxd {l : List (List UInt8)} {p : List UInt8} : zkb (l ++ [p]) = zkb l ++ p := by simp [zkb]
theorem qk6 {w : World} {H1 : Heap} {F : List Nat} {b : Nat} {L k : List UInt8} (hO : zv4 H1 F b L w) (hk : k.length = 32) (hL : L.length ≤ 274877906944) :
  qg P zfg #[.pointer (some ⟨b, 0, none⟩), arr k] w fun e w' => e = .returned (.tuple #[]) ∧ zv4 H1 F b (L ++ k) w' := by
 refine ztk ?_
 unfold zh2
 refine jw rfl fun w0 hw0 => ?_
 have hx0 : Ext [] w.heap w0.heap := by rw [hw0]; exact .push _
 have hd0 : w0.heap[w.heap.size]? = some (.cells (byteCells k).toArray zf (0, 0)) := by rw [hw0]; exact zn
 refine zaa rfl ?_
 refine vg rfl fun w1 hw1 => ?_
 have hx1 : Ext [] w.heap w1.heap := by rw [hw1]; exact hx0
 have hd1 : w1.heap[w.heap.size]? = some (.cells (byteCells k).toArray zf (0, 0)) := by rw [hw1]; exact hd0
 have hO1 := hO.ext hx1
 obtain ⟨x, h1, h2, h3, h4, h5, h6⟩ := hO1
 have hxl : x.2.1 = L.length := by have := h3.len; simp at this; omega
 simp only [xq]
 refine jh (s := .slc) (t := x) rfl h2 rfl ?_
 refine xg (s := .slc) (some (if 32 = 0 then (⟨w.heap.size, 0, none⟩ : Addr) else (⟨w.heap.size, 0, none⟩ : Addr).add (0 * 1)), 32 - 0, 32 - 0) (zdp Bl.u27 sz8 .no .no (by omega) (by omega)) ?_
 have hadd : (some (if 32 = 0 then (⟨w.heap.size, 0, none⟩ : Addr) else (⟨w.heap.size, 0, none⟩ : Addr).add (0 * 1))) = some (⟨w.heap.size, 0, none⟩ : Addr) := by simp [Addr.add]
 have hcd : Cells w1.heap (some (if 32 = 0 then (⟨w.heap.size, 0, none⟩ : Addr) else (⟨w.heap.size, 0, none⟩ : Addr).add (0 * 1))) (byteCells k) := by
  rw [hadd]
  exact .inr ⟨_, 0, _, _, _, rfl, hd1, by simp, by simp [List.take_of_length_le]⟩
 refine zcr E8 (by omega) uS8 (za6 uS8) rfl h3 (Nat.zero_le _) (Src.slc rfl hcd (by simp [hk])) ku (by simp only; omega) ?_
 intro x' w4 hm4 hl4 hx4 hs4
 have hb4 : w4.heap[b]? = some (.cells #[zc9 x] zgi (0, 0)) := hx4.get h2 h4
 refine zcd rfl hb4 (by simp) fun w5 hw5 => ?_
 have hx5 : Ext [b] w4.heap w5.heap := by rw [hw5]; exact Ext.set _ (by simp)
 have hs1 := h1.1
 have hbl := lt_of_get h2
 have hbx : b ∉ xu x' := fun h => by
  rcases hs4 b h with h | h
  ·exact h4 h
  ·omega
 refine ⟨trivial, x', ?_, by rw [hw5]; exact qm hb4, ?_, hbx, fun c hc => ?_, h6⟩
 ·have h14 : Ext (b :: F) H1 w4.heap := h1.own hx4 (fun c hc hlt => by
   rcases h5 c hc with h | h
   ·exact List.mem_cons_of_mem _ h
   ·omega)
  exact h14.trans (hx5.mono (by simp))
 ·rw [← byteCells_append]
  exact hm4.ext hx5 (fun c hc => by simp only [List.mem_singleton]; rintro rfl; exact hbx hc)
 ·rcases hs4 c hc with h | h
  ·exact h5 c h
  ·exact .inr (by omega)
theorem zcT : (zc P qj).size = 34 := by kernel_rfl
theorem szT : P.cellsOf qj = 34 := by kernel_rfl
theorem zcN : (zc P zi).size = 5 := by kernel_rfl
theorem szN : P.cellsOf zi = 5 := by kernel_rfl
theorem szD : P.cellsOf zf = 32 := by kernel_rfl
theorem zcD : (zc P zf).size = 32 := by kernel_rfl
theorem qg2 {w : World} {H : Heap} (n : Nod) (xp xi : Option Addr × Nat × Nat) (hw : w.heap = H) {K : Nat → World → Prop} (hK : ∀ w', w'.heap = H.push (.cells (zdv n xp xi).toArray zi (0, 0)) → K H.size w') :
  zbi (zc P zi) zi w fun b w1 => zbn P (storeVar zi (⟨b, 0, none⟩ : Addr) (.agg (zdv n xp xi).toArray)) w1 fun w2 => K b w2 :=
 qeo (v := .agg (zdv n xp xi).toArray) szN zcN (by simp [Value.cells, zdv]) (by
  intro v hv
  simp only [Value.cells, zdv, List.mem_cons, List.not_mem_nil, or_false] at hv
  rcases hv with rfl | rfl | rfl | rfl | rfl <;> rfl) hw hK
theorem qlv {w : World} {H : Heap} (i : Itm) (hw : w.heap = H) {K : Nat → World → Prop} (hK : ∀ w', w'.heap = H.push (.cells (zfk i).toArray qj (0, 0)) → K H.size w') :
  zbi (zc P qj) qj w fun b w1 => zbn P (storeVar qj (⟨b, 0, none⟩ : Addr) (.agg (zfk i).toArray)) w1 fun w2 => K b w2 :=
 qeo (v := .agg (zfk i).toArray) (by rw [szT]; simp [Value.cells, zay]) (by rw [zcT]; simp [Value.cells, zay]) (by simp [Value.cells, zay]) (by simpa [Value.cells] using z3m) hw hK
theorem qg0 {w : World} {H : Heap} {k : List UInt8} (hk : k.length = 32) (hw : w.heap = H) {K : Nat → World → Prop} (hK : ∀ w', w'.heap = H.push (.cells (byteCells k).toArray zf (0, 0)) → K H.size w') :
  zbi (zc P zf) zf w fun b w1 => zbn P (storeVar zf (⟨b, 0, none⟩ : Addr) (arr k)) w1 fun w2 => K b w2 :=
 qeo (v := arr k) (by rw [szD, Bl.za3, hk]) (by rw [zcD, Bl.za3, hk]) (by rw [Bl.za3]; omega) (by simpa [Value.cells, arr] using ku) hw hK
theorem zin {vs : List Value} : (Value.cells (.agg vs.toArray) : Array Value) = vs.toArray := rfl
def ztg : List UInt8 → List Itm → Bool
 | _, [] => true
 | last, i :: r => decide (Lib.compareBytes last i.name < 0) && zd6 i.name && (decide (i.kind = 2) || decide (i.kind = 3)) && ztg i.name r
def zo6 (l : List Itm) : Bool := ztg [] l && decide (l.length ≤ 64)
def zy5 (size : Int) : Int := (size + 63) / 64
def zdb (n : Nod) : Bool :=
 if n.kind = 1 then decide (0 < n.data.length ∧ n.data.length ≤ 64 ∧ n.size = 0 ∧ n.parts.length = 0 ∧ n.items.length = 0)
 else if n.kind = 2 then decide (n.data = [] ∧ 0 ≤ n.size ∧ n.size ≤ 1024 ∧ (n.parts.length : Int) = zy5 n.size ∧ n.items.length = 0)
 else if n.kind = 3 then decide (n.data = [] ∧ n.size = 0 ∧ n.parts.length = 0) && zo6 n.items else false
theorem zxh : ∀ {l : List Itm} {last : List UInt8}, ztg last l = true → ∀ i ∈ l, zd6 i.name = true
 | [], _, _ => by simp
 | i :: r, last, h => by
  simp only [ztg, Bool.and_eq_true] at h
  intro j hj
  rcases List.mem_cons.1 hj with rfl | hj
  ·exact h.1.1.2
  ·exact zxh h.2 j hj
theorem z5c {n : Nod} (h : zdb n = true) : SmallN n := by
 unfold zdb at h
 split at h
 ·simp only [decide_eq_true_eq] at h
  have : n.items = [] := List.eq_nil_of_length_eq_zero h.2.2.2.2
  exact ⟨by omega, by omega, by omega, by rw [this]; simp⟩
 ·split at h
  ·have h := of_decide_eq_true h
   unfold zy5 at h
   have : n.items = [] := List.eq_nil_of_length_eq_zero h.2.2.2.2
   exact ⟨by rw [h.1]; simp, by omega, by omega, by rw [this]; simp⟩
  ·split at h
   ·simp only [Bool.and_eq_true, decide_eq_true_eq, zo6] at h
    exact ⟨by rw [h.1.1]; simp, by omega, by omega, fun i hi => by have := (zer.1 (zxh h.2.1 i hi)).1.2.1; omega⟩
   ·cases h
theorem z5m {L : List UInt8} : zvn [L] = 0 ↔ zd6 L = true := by
 rw [qhn]
 simp [okP]
set_option maxHeartbeats 4000000 in
theorem qhf {w : World} {H : Heap} {a : Option Addr} {l c : Nat} {T : List Itm} (hw : w.heap = H) (hL : Cells H a (T.flatMap zfk)) (hl : l = T.length) (hn : ∀ i ∈ T, i.name.length ≤ 9223372036854775807) (hm : T.length ≤ 9223372036854775807) :
  qg P znt #[.slice a l c] w fun e w' => e = .returned (.bool (zo6 T)) ∧ Ext [] H w'.heap := by
 subst hl
 refine zzu ?_
 unfold zob
 refine jd (fun (s : ByteArray × Int) W => ∃ (i : Nat) (last : List UInt8), s = (strOf last, (i : Int)) ∧ i ≤ T.length ∧ ztg [] T = ztg last (T.drop i) ∧ Ext [] H W.heap) (fun s _ => (T.length - s.2).toNat)
  ⟨0, [], rfl, Nat.zero_le _, by simp, by rw [hw]; exact .refl _ _⟩ ?_
 rintro _ W ⟨i, last, rfl, hi, hr, hxW⟩
 refine zq (fun hlt => ?_) (fun hge => ?_)
 ·have hil : i < T.length := by omega
  have hget := List.getElem?_eq_getElem hil
  have hmem : T[i] ∈ T := List.getElem_mem hil
  have hdrop : T.drop i = T[i] :: T.drop (i + 1) := (List.drop_eq_getElem_cons hil)
  rw [hdrop] at hr
  generalize T[i] = v at hget hmem hr
  have hvn := hn v hmem
  have hfalse : ∀ {W' : World}, Ext [] H W'.heap → ztg last (v :: T.drop (i + 1)) = false → (Ending.returned (.bool false) = .returned (.bool (zo6 T)) ∧ Ext [] H W'.heap) := by
   intro W' hx h
   refine ⟨?_, hx⟩
   rw [zo6, hr, h]; rfl
  refine zac ?_
  refine zkm (i := i) zay (by omega) rfl (hL.ext hxW (by simp)) rfl hget rfl ?_
  refine qlv v rfl fun w3 hw3 => ?_
  have hx3 : Ext [] W.heap w3.heap := by rw [hw3]; exact .push _
  have hb3 : w3.heap[W.heap.size]? = some (.cells (zfk v).toArray qj (0, 0)) := by rw [hw3]; exact zn
  have hx03 := hxW.trans hx3
  refine joinP_of (fun _ W' => Ext [] w3.heap W'.heap ∧ Lib.compareBytes last v.name < 0 ∧ zd6 v.name = true) ?_ ?_
  ·refine jh (s := .str) (t := strOf v.name) rfl hb3 rfl ?_
   refine ze9 (p := ¬ Lib.compareBytes last v.name < 0) (by
    rw [bytesLess_eq, zbe, zbe, zfa]
    simp only [Bool.or_eq_true, decide_eq_true_eq, beq_iff_eq]
    constructor
    ·rintro (h | h) h2
     ·exact absurd h (by have := zfa.2 h; have := zfa.2 h2; have := zto (a := last) (b := v.name); omega)
     ·rw [h] at h2; have := zfa.2 h2; rw [zft.2 rfl] at this; omega
    ·intro h
     have h1 : ¬ Lib.compareBytes last v.name < 0 := fun h2 => h (zfa.1 h2)
     have h2 := zto (a := last) (b := v.name)
     by_cases h3 : Lib.compareBytes v.name last = 0
     ·right; exact zft.1 h3
     ·left; exact zfa.1 (by omega)) (fun h => hfalse hx03 (by simp [ztg, h])) (fun h => ?_)
   have hlt : Lib.compareBytes last v.name < 0 := by omega
   refine jh (s := .str) (t := strOf v.name) rfl hb3 rfl ?_
   refine zai (s := .slc) (some ⟨w3.heap.size, 0, none⟩, 1, 1) _ (zdy qk8 zv3 (v := .string (strOf v.name)) rfl (by omega) (by omega)) ?_
   have hx4 : Ext [] w3.heap (w3.heap.push (.cells (Value.string (strOf v.name)).cells qx)) := .push _
   have hc4 : Cells (w3.heap.push (.cells (Value.string (strOf v.name)).cells qx)) (some ⟨w3.heap.size, 0, none⟩) (strRow [v.name]) := .inr ⟨_, 0, _, _, _, rfl, zn, by simp [strRow, Value.cells], by simp [strRow, Value.cells]⟩
   refine zk (qjj (p := [v.name]) rfl hc4 rfl (by intro L hL; simp at hL; subst hL; exact hvn) (by simp)) ?_
   rintro e w5 ⟨rfl, hw5⟩
   subst hw5
   refine ⟨zvn [v.name], rfl, ?_⟩
   refine zb5 (fun h => hfalse (hx03.trans hx4) (by
    have : zd6 v.name = false := by rw [← Bool.not_eq_true]; exact fun h2 => h (z5m.2 h2)
    simp [ztg, this])) (fun h => ⟨hx4, hlt, z5m.1 h⟩)
  rintro _ W5 ⟨hx35, hlt, hok⟩
  have hb5 := hx35.get hb3 (by simp)
  have hx05 := hx03.trans hx35
  refine jh (s := .int .i64) (t := v.kind) rfl hb5 rfl ?_
  refine joinP_of (fun s' W' => s' = strOf v.name ∧ Ext [] H W'.heap ∧ (v.kind = 2 ∨ v.kind = 3)) ?_ ?_
  ·refine joinP_of (fun _ W' => W' = W5 ∧ (v.kind = 2 ∨ v.kind = 3)) ?_ ?_
   ·refine zac ?_
    refine zbv (fun h => ⟨rfl, .inl h⟩) (fun h2 => ?_)
    refine zbv (fun h => ⟨rfl, .inr h⟩) (fun h3 => hfalse hx05 (by simp [ztg, h2, h3]))
   rintro _ W' ⟨rfl, hk⟩
   exact jh (s := .str) (t := strOf v.name) rfl hb5 rfl ⟨rfl, hx05, hk⟩
  rintro _ W' ⟨rfl, hx', hk⟩
  refine xw ((i + 1 : Nat) : Int) (by omega) (by omega) (by omega) ?_
  refine ⟨⟨i + 1, v.name, rfl, by omega, ?_, hx'⟩, by omega⟩
  rw [hr]
  rcases hk with hk | hk <;> simp [ztg, hlt, hok, hk]
 ·obtain rfl : i = T.length := by omega
  refine ⟨?_, hxW⟩
  rw [List.drop_length] at hr
  congr 2
  rw [zo6, hr, Bool.eq_iff_iff]
  simp [ztg]
  omega
set_option maxHeartbeats 4000000 in
theorem qfh {w : World} {H : Heap} {n : Nod} {xp xi : Option Addr × Nat × Nat} (hw : w.heap = H) (hN : NodW H n xp xi) (hs : n.size ≤ 4611686018427387904) (hnn : ∀ i ∈ n.items, i.name.length ≤ 9223372036854775807) (hm : n.items.length ≤ 9223372036854775807) :
  qg P zlc #[.agg (zdv n xp xi).toArray] w fun e w' => e = .returned (.bool (zdb n)) ∧ Ext [] H w'.heap := by
 obtain ⟨g1, g2, g3, g4, g5, g6⟩ := hN
 refine z3r ?_
 unfold zpa
 refine jw hw fun w1 hw1 => ?_
 have hx1 : Ext [] H w1.heap := by rw [hw1]; exact .push _
 have hb1 : w1.heap[H.size]? = some (.cells (zdv n xp xi).toArray zi (0, 0)) := by rw [hw1]; exact zn
 refine jh (s := .int .i64) (t := n.kind) rfl hb1 rfl ?_
 have hle : ∀ {k : Nat}, (((k : Int) == 0) = true) ↔ k = 0 := by intro k; simp
 refine zbv (fun h1 => ?_) (fun h1 => ?_)
 ·have hf : ∀ {p : Prop}, (¬ (0 < n.data.length ∧ n.data.length ≤ 64 ∧ n.size = 0 ∧ n.parts.length = 0 ∧ n.items.length = 0)) → (Ending.returned (.bool false) = .returned (.bool (zdb n)) ∧ Ext [] H w1.heap) := by
   intro p h
   exact ⟨by rw [zdb, if_pos h1, decide_eq_false h], hx1⟩
  refine jh (s := .str) (t := strOf n.data) rfl hb1 rfl ?_
  refine zq (fun h2 => ?_) (fun h2 => hf (p := True) fun h => h2 (by simp; omega))
  refine jh (s := .str) (t := strOf n.data) rfl hb1 rfl ?_
  refine zq (fun h3 => ?_) (fun h3 => hf (p := True) fun h => h3 (by simp; omega))
  refine jh (s := .int .i64) (t := n.size) rfl hb1 rfl ?_
  refine zbv (fun h4 => ?_) (fun h4 => hf (p := True) fun h => h4 h.2.2.1)
  refine jh (s := .slc) (t := xp) rfl hb1 rfl ?_
  refine zbv (fun h5 => ?_) (fun h5 => hf (p := True) fun h => h5 (by omega))
  refine jh (s := .slc) (t := xi) rfl hb1 rfl ?_
  refine ⟨?_, hx1⟩
  rw [zdb, if_pos h1]
  congr 2
  rw [Bool.eq_iff_iff, hle, decide_eq_true_eq, g4]
  simp at h2 h3
  exact ⟨fun h => ⟨by omega, by omega, h4, by omega, h⟩, fun h => h.2.2.2.2⟩
 refine zbv (fun h2 => ?_) (fun h2 => ?_)
 ·have hf : ∀ {W : World}, Ext [] H W.heap → (¬ (n.data = [] ∧ 0 ≤ n.size ∧ n.size ≤ 1024 ∧ (n.parts.length : Int) = zy5 n.size ∧ n.items.length = 0)) → (Ending.returned (.bool false) = .returned (.bool (zdb n)) ∧ Ext [] H W.heap) := by
   intro W hx h
   exact ⟨by rw [zdb, if_neg h1, if_pos h2, decide_eq_false h], hx⟩
  refine vg rfl fun w2 hw2 => ?_
  have hx2 : Ext [] H w2.heap := by rw [hw2]; exact hx1
  have hb2 : w2.heap[H.size]? = some (.cells (zdv n xp xi).toArray zi (0, 0)) := by rw [hw2]; exact hb1
  refine jh (s := .str) (t := strOf n.data) rfl hb2 rfl ?_
  refine ze9 (p := n.data = []) (by rw [zkh]) (fun h3 => ?_) (fun h3 => ⟨rfl, hf hx2 fun h => h3 h.1⟩)
  refine jh (s := .int .i64) (t := n.size) rfl hb2 rfl ?_
  refine zq (fun h4 => ?_) (fun h4 => ⟨rfl, hf hx2 fun h => h4 h.2.1⟩)
  refine jh (s := .int .i64) (t := n.size) rfl hb2 rfl ?_
  refine zq (fun h5 => ?_) (fun h5 => ⟨rfl, hf hx2 fun h => h5 h.2.2.1⟩)
  refine jh (s := .slc) (t := xp) rfl hb2 rfl ?_
  refine jh (s := .int .i64) (t := n.size) rfl hb2 rfl ?_
  have hparts : qg P zij #[.int .i64 n.size] w2 fun e w' => e = .returned (.int .i64 (zy5 n.size)) ∧ w' = w2 := by
   refine ztz ?_
   unfold zlg
   refine xw (n.size + 64) rfl (by omega) (by omega) ?_
   refine zbs (n.size + 63) (by omega) (by omega) (by omega) ?_
   refine qa3 (n.size + 63).toNat 64 (by omega) rfl (by omega) (by omega) ?_
   refine ⟨?_, rfl⟩
   congr 2
   unfold zy5
   omega
  refine zk hparts ?_
  rintro e w3 ⟨rfl, rfl⟩
  refine ⟨zy5 n.size, rfl, ?_⟩
  refine ⟨jh (s := .slc) (t := xp) rfl hb2 rfl rfl, ?_⟩
  refine zbv (fun h6 => ?_) (fun h6 => hf hx2 fun h => h6 (by rw [g2]; exact h.2.2.2.1))
  refine jh (s := .slc) (t := xi) rfl hb2 rfl ?_
  refine ⟨?_, hx2⟩
  rw [zdb, if_neg h1, if_pos h2]
  congr 2
  rw [Bool.eq_iff_iff, hle, decide_eq_true_eq, g4]
  rw [g2] at h6
  exact ⟨fun h => ⟨h3, h4, h5, h6, h⟩, fun h => h.2.2.2.2⟩
 refine zbv (fun h3 => ?_) (fun h3 => ⟨by rw [zdb, if_neg h1, if_neg h2, if_neg h3], hx1⟩)
 have hf : ¬ (n.data = [] ∧ n.size = 0 ∧ n.parts.length = 0) → (Ending.returned (.bool false) = .returned (.bool (zdb n)) ∧ Ext [] H w1.heap) := by
  intro h
  exact ⟨by rw [zdb, if_neg h1, if_neg h2, if_pos h3, decide_eq_false h]; rfl, hx1⟩
 refine jh (s := .str) (t := strOf n.data) rfl hb1 rfl ?_
 refine ze9 (p := n.data = []) (by rw [zkh]) (fun h4 => ?_) (fun h4 => hf fun h => h4 h.1)
 refine jh (s := .int .i64) (t := n.size) rfl hb1 rfl ?_
 refine zbv (fun h5 => ?_) (fun h5 => hf fun h => h5 h.2.1)
 refine jh (s := .slc) (t := xp) rfl hb1 rfl ?_
 refine zbv (fun h6 => ?_) (fun h6 => hf fun h => h6 (by omega))
 refine jh (s := .slc) (t := xi) rfl hb1 rfl ?_
 refine zk (qhf rfl (g3.ext hx1 (by simp)) g4 hnn hm) ?_
 rintro e w4 ⟨rfl, hx4⟩
 refine ⟨zo6 n.items, rfl, ?_⟩
 refine ⟨?_, hx1.trans hx4⟩
 rw [zdb, if_neg h1, if_neg h2, if_pos h3, decide_eq_true ⟨h4, h5, by omega⟩]
 rfl
theorem qau {n : Nod} : (zf6 n.kind).length ≤ 10 := zd2
set_option maxHeartbeats 8000000 in
theorem qec {w : World} {H : Heap} {n : Nod} {xp xi : Option Addr × Nat × Nat} (hw : w.heap = H) (hN : NodW H n xp xi) (hR : zdb n = true) :
  qg P znx #[.agg (zdv n xp xi).toArray] w fun e w' => ∃ y, e = .returned (.tuple #[zc9 y, .int .i64 0]) ∧ Mine w'.heap H.size qy 1 y (byteCells (zgl n)) ∧ Ext [] H w'.heap := by
 have hS := z5c hR
 have hsz : n.size ≤ 4611686018427387904 := by
  unfold zdb at hR
  split at hR
  ·have := of_decide_eq_true hR; omega
  ·split at hR
   ·have := of_decide_eq_true hR; omega
   ·split at hR
    ·simp only [Bool.and_eq_true, decide_eq_true_eq] at hR; omega
    ·cases hR
 refine z0d ?_
 unfold znv
 refine jw hw fun w1 hw1 => ?_
 have hx1 : Ext [] H w1.heap := by rw [hw1]; exact .push _
 have hb1 : w1.heap[H.size]? = some (.cells (zdv n xp xi).toArray zi (0, 0)) := by rw [hw1]; exact zn
 refine jf rfl hb1 rfl ?_
 refine zk (qfh rfl (hN.ext hx1) hsz (fun i hi => by have := hS.names i hi; omega) (by have := hS.items; omega)) ?_
 rintro e w2 ⟨rfl, hx12⟩
 refine ⟨zdb n, rfl, ?_⟩
 rw [hR]
 refine jl rfl ?_
 have hx2 := hx1.trans hx12
 have hb2 := hx12.get hb1 (by simp)
 rw [zcO]
 refine jw rfl fun w3 hw3 => ?_
 have hx23 : Ext [] w2.heap w3.heap := by rw [hw3]; exact .push _
 have ho3 : w3.heap[w2.heap.size]? = some (.cells #[zc9 (none, 0, 0)] zgi (0, 0)) := by rw [hw3]; exact zn
 have hO3 : zv4 w3.heap [] w2.heap.size [] w3 := ⟨(none, 0, 0), .refl _ _, ho3, .inl ⟨rfl, rfl⟩, by simp [xu], by simp [xu], lt_of_get ho3⟩
 have hb3 := hx23.get hb2 (by simp)
 have hN3 := hN.ext (hx2.trans hx23)
 have hH2 : H.size < w2.heap.size := lt_of_get hb2
 have keep : ∀ {W : World} {K : List UInt8}, zv4 w3.heap [] w2.heap.size K W → Ext [w2.heap.size] w3.heap W.heap := fun ⟨x, h1, _⟩ => h1
 have hne : H.size ∉ [w2.heap.size] := by simp; omega
 have u1 := @qau n
 refine jh (s := .int .i64) (t := n.kind) rfl hb3 rfl ?_
 refine cvU fun k1 e1 l1 => ?_
 refine zk (qgd k1 hO3 l1 (by simp)) ?_
 rintro e w4 ⟨rfl, hO4⟩
 refine ⟨(), rfl, ?_⟩
 rw [show zs3 k1 = zf6 n.kind by rw [e1]; rfl, List.nil_append] at hO4
 have hx4 := keep hO4
 have hb4 := hx4.get hb3 hne
 refine joinP_of (fun _ W => zv4 w3.heap [] w2.heap.size (zgl n) W ∧ (zgl n).length ≤ 274877906944) ?_ ?_
 rotate_left
 ·rintro _ W ⟨hOW, hlen⟩
  refine zk (z18 hOW (by omega)) ?_
  rintro e w5 ⟨y, rfl, hm, hx5⟩
  refine ⟨y, rfl, ?_⟩
  have hx3W : Ext [] H W.heap := (hx2.trans hx23).own (keep hOW) (by intro c hc hlt; simp at hc; omega)
  have := hx3W.1
  exact ⟨y, rfl, hm.mono this, hx3W.trans hx5⟩
 refine jh (s := .int .i64) (t := n.kind) rfl hb4 rfl ?_
 refine zac ?_
 refine zbv (fun h1 => ?_) (fun h1 => ?_)
 ·refine jh (s := .str) (t := strOf n.data) rfl hb4 rfl ?_
  have hd := hS.data
  refine zk (qir n.data hO4 (by omega)) ?_
  rintro e w5 ⟨rfl, hO5⟩
  refine ⟨(), rfl, ?_⟩
  have nl := zd7 (n := n.data.length) (by omega)
  have : zgl n = zf6 n.kind ++ zq9 n.data := by unfold zgl; rw [if_pos h1]
  rw [this]
  exact ⟨hO5, by simp only [List.length_append, zq9]; omega⟩
 refine zbv (fun h2 => ?_) (fun h2 => ?_)
 ·refine jh (s := .int .i64) (t := n.size) rfl hb4 rfl ?_
  refine cvU fun k2 e2 l2 => ?_
  refine zk (qgd k2 hO4 l2 (by omega)) ?_
  rintro e w6 ⟨rfl, hO6⟩
  refine ⟨(), rfl, ?_⟩
  rw [show zs3 k2 = zf6 n.size by rw [e2]; rfl] at hO6
  have u2 := @zd2 n.size
  have hb6 := (keep hO6).get hb3 hne
  refine jh (s := .slc) (t := xp) rfl hb6 rfl ?_
  have hpl := hS.parts
  have hp32 := hN.p32
  have henc : zgl n = zf6 n.kind ++ zf6 n.size ++ zkb n.parts := by unfold zgl; rw [if_neg h1, if_pos h2, List.append_assoc]
  refine jd (fun (s : Int) W => ∃ i : Nat, s = (i : Int) ∧ i ≤ n.parts.length ∧ zv4 w3.heap [] w2.heap.size (zf6 n.kind ++ zf6 n.size ++ zkb (n.parts.take i)) W) (fun s _ => (n.parts.length - s).toNat) ⟨0, rfl, Nat.zero_le _, by simpa [zkb] using hO6⟩ ?_
  rintro _ W ⟨i, rfl, hi, hOW⟩
  have hpre : (zkb (n.parts.take i)).length ≤ 32 * 65536 := by
   rw [zqb fun p hp => hp32 p (List.mem_of_mem_take hp)]
   simp; omega
  refine zq (fun hlt => ?_) (fun hge => ?_)
  ·have hil : i < n.parts.length := by have := hN.plen; omega
   have hget := List.getElem?_eq_getElem hil
   have hmem : n.parts[i] ∈ n.parts := List.getElem_mem hil
   have htake : n.parts.take (i + 1) = n.parts.take i ++ [n.parts[i]] := by rw [List.take_add_one, hget]; rfl
   generalize n.parts[i] = v at hget hmem htake
   have hv := hp32 v hmem
   have hcW := hN3.parts.ext (keep hOW) (fun a ha hne2 h => by
    obtain ⟨x, hx, hlt⟩ := hN.parts.lt hne2
    rw [hx] at ha; cases ha
    simp at h; omega)
   refine zkm (i := i) Bl.zd8 (by omega) rfl hcW hN.plen hget rfl ?_
   rw [Bl.qlm hv]
   refine qg0 hv rfl fun w9 hw9 => ?_
   have hx9 : Ext [] W.heap w9.heap := by rw [hw9]; exact .push _
   have hb9 : w9.heap[W.heap.size]? = some (.cells (byteCells v).toArray zf (0, 0)) := by rw [hw9]; exact zn
   refine jf rfl hb9 (by simp [hv]) ?_
   refine zk (qk6 (k := v) (hOW.ext hx9) hv (by simp only [List.length_append]; omega)) ?_
   rintro e w10 ⟨rfl, hO10⟩
   refine ⟨(), rfl, ?_⟩
   refine xw ((i + 1 : Nat) : Int) (by omega) (by omega) (by omega) ?_
   refine ⟨⟨i + 1, rfl, by omega, ?_⟩, by omega⟩
   rw [htake, zxd]
   simpa using hO10
  ·obtain rfl : i = n.parts.length := by have := hN.plen; omega
   rw [List.take_length] at hOW hpre
   rw [henc]
   exact ⟨hOW, by simp only [List.length_append]; omega⟩
 ·refine jh (s := .slc) (t := xi) rfl hb4 rfl ?_
  have hil := hN.ilen
  rw [hil]
  refine cvU fun k2 e2 l2 => ?_
  refine zk (qgd k2 hO4 l2 (by omega)) ?_
  rintro e w6 ⟨rfl, hO6⟩
  refine ⟨(), rfl, ?_⟩
  rw [show zs3 k2 = zf6 (n.items.length : Int) by rw [e2]; rfl] at hO6
  have u2 := @zd2 (n.items.length : Int)
  have hb6 := (keep hO6).get hb3 hne
  refine jh (s := .slc) (t := xi) rfl hb6 rfl ?_
  have hpl := hS.items
  have hnm := hS.names
  have hi32 := hN.i32
  have henc : zgl n = zf6 n.kind ++ zf6 n.items.length ++ zq5 n.items := by unfold zgl; rw [if_neg h1, if_neg h2, List.append_assoc]
  refine jd (fun (s : Int) W => ∃ i : Nat, s = (i : Int) ∧ i ≤ n.items.length ∧ zv4 w3.heap [] w2.heap.size (zf6 n.kind ++ zf6 n.items.length ++ zq5 (n.items.take i)) W) (fun s _ => (n.items.length - s).toNat) ⟨0, rfl, Nat.zero_le _, by simpa [zq5] using hO6⟩ ?_
  rintro _ W ⟨i, rfl, hi, hOW⟩
  have hpre : (zq5 (n.items.take i)).length ≤ 65600 * 65536 := by
   have h := zth (l := n.items.take i) (fun p hp => hnm p (List.mem_of_mem_take hp)) (fun p hp => hi32 p (List.mem_of_mem_take hp))
   have : (n.items.take i).length ≤ 65536 := by simp; omega
   omega
  refine zq (fun hlt => ?_) (fun hge => ?_)
  ·have hil2 : i < n.items.length := by omega
   have hget := List.getElem?_eq_getElem hil2
   have hmem : n.items[i] ∈ n.items := List.getElem_mem hil2
   have htake : n.items.take (i + 1) = n.items.take i ++ [n.items[i]] := by rw [List.take_add_one, hget]; rfl
   generalize n.items[i] = v at hget hmem htake
   have hv := hi32 v hmem
   have hvn := hnm v hmem
   have hcW := hN3.items.ext (keep hOW) (fun a ha hne2 h => by
    obtain ⟨x, hx, hlt⟩ := hN.items.lt hne2
    rw [hx] at ha; cases ha
    simp at h; omega)
   refine zkm (i := i) zay (by omega) rfl hcW hil hget rfl ?_
   refine qlv v rfl fun w9 hw9 => ?_
   have hx9 : Ext [] W.heap w9.heap := by rw [hw9]; exact .push _
   have hb9 : w9.heap[W.heap.size]? = some (.cells (zfk v).toArray qj (0, 0)) := by rw [hw9]; exact zn
   have nl := zd7 (n := v.name.length) (by omega)
   have uk := @zd2 v.kind
   have hOsz : w2.heap.size < W.heap.size := by have := (keep hOW).1; have := lt_of_get ho3; omega
   obtain ⟨F9, hO9, hF9, hF9l⟩ := hOW.rebase hx9
   have kp : ∀ {K : List UInt8} {W' : World}, zv4 w9.heap F9 w2.heap.size K W' → W'.heap[W.heap.size]? = some (.cells (zfk v).toArray qj (0, 0)) := by
    intro K W' ⟨x, h1, _⟩
    refine h1.get hb9 fun h => ?_
    rcases List.mem_cons.1 h with h | h
    ·omega
    ·have := hF9l _ h; omega
   refine jh (s := .str) (t := strOf v.name) rfl hb9 rfl ?_
   refine zk (qir v.name hO9 (by simp only [List.length_append]; omega)) ?_
   rintro e w10 ⟨rfl, hO10⟩
   refine ⟨(), rfl, ?_⟩
   refine jh (s := .int .i64) (t := v.kind) rfl (kp hO10) rfl ?_
   refine cvU fun k3 e3 l3 => ?_
   refine zk (qgd k3 hO10 l3 (by simp only [List.length_append, zq9]; omega)) ?_
   rintro e w11 ⟨rfl, hO11⟩
   refine ⟨(), rfl, ?_⟩
   rw [show zs3 k3 = zf6 v.kind by rw [e3]; rfl] at hO11
   refine zuy (o := 2) rfl (kp hO11) (by simp [zay]) ?_
   have hex : (zfk v).toArray.extract 2 (2 + 32) = (Bl.zf3 v.sum).toArray := by
    apply Array.ext'
    simp [zfk, List.take_of_length_le, Bl.zd8]
   rw [hex, Bl.qlm hv]
   refine zk (qk6 (k := v.sum) hO11 hv (by simp only [List.length_append, zq9]; omega)) ?_
   rintro e w12 ⟨rfl, hO12⟩
   refine ⟨(), rfl, ?_⟩
   refine xw ((i + 1 : Nat) : Int) (by omega) (by omega) (by omega) ?_
   refine ⟨⟨i + 1, rfl, by omega, ?_⟩, by omega⟩
   have := hOW.unbase hx9 hF9 hO12
   rw [htake, z1g]
   simpa [qkh] using this
  ·obtain rfl : i = n.items.length := by omega
   rw [List.take_length] at hOW hpre
   rw [henc]
   exact ⟨hOW, by simp only [List.length_append]; omega⟩
theorem qiv {w : World} {H : Heap} {b o : Nat} {c : Array Value} {T : TypeId} {fr : Nat × Nat} {k : List UInt8} (hw : w.heap = H) (hb : H[b]? = some (.cells c T fr)) (hs : o + 32 ≤ c.size) (hk : k.length = 32) (hc : ∀ j, j < 32 → c[o + j]? = (byteCells k)[j]?)
  {K : (Option Addr × Nat × Nat) → Prop} (hK : ∀ y : Option Addr × Nat × Nat, Cells H y.1 (byteCells k) → y.2.1 = k.length → K y) :
  za0 P (Instr.sliceAt zf (Value.pointer (some (⟨b, o, none⟩ : Addr))) none none none) .slc w K := by
 refine xg (s := .slc) (some (if 32 = 0 then (⟨b, o, none⟩ : Addr) else (⟨b, o, none⟩ : Addr).add (0 * 1)), 32 - 0, 32 - 0) (zdp Bl.u27 sz8 .no .no (by omega) (by omega)) ?_
 refine hK _ ?_ (by simp [hk])
 have hadd : (some (if 32 = 0 then (⟨b, o, none⟩ : Addr) else (⟨b, o, none⟩ : Addr).add (0 * 1))) = some (⟨b, o, none⟩ : Addr) := by simp [Addr.add]
 show Cells H (some (if 32 = 0 then (⟨b, o, none⟩ : Addr) else (⟨b, o, none⟩ : Addr).add (0 * 1))) (byteCells k)
 rw [hadd]
 refine .inr ⟨b, o, c, T, fr, rfl, hb, by simp [hk]; omega, ?_⟩
 apply List.ext_getElem?
 intro j
 rw [Array.getElem?_toList, Array.getElem?_extract]
 simp only [je, hk]
 by_cases hj : j < 32
 ·rw [if_pos (by omega), hc j hj]
 ·rw [if_neg (by omega), List.getElem?_eq_none (by simp [hk]; omega)]
set_option maxHeartbeats 8000000 in
theorem zuh {w : World} {H : Heap} {n : Nod} {xp xi : Option Addr × Nat × Nat} (hw : w.heap = H) (hN : NodW H n xp xi) (hS : SmallN n) :
  qg P zil #[.agg (zdv n xp xi).toArray] w fun e w' => ∃ y, e = .returned (zc9 y) ∧ Mine w'.heap H.size qy 1 y (byteCells (zgl n)) ∧ Ext [] H w'.heap := by
 refine z2m ?_
 unfold zpb
 refine jw hw fun w1 hw1 => ?_
 have hx1 : Ext [] H w1.heap := by rw [hw1]; exact .push _
 have hb1 : w1.heap[H.size]? = some (.cells (zdv n xp xi).toArray zi (0, 0)) := by rw [hw1]; exact zn
 have u1 := @qau n
 have h1s : H.size ≤ w1.heap.size := hx1.1
 refine jh (s := .int .i64) (t := n.kind) rfl hb1 rfl ?_
 refine cvU fun k1 e1 l1 => ?_
 refine zk (zyk rfl l1) ?_
 rintro e w2 ⟨y1, rfl, hm2, hx2⟩
 refine ⟨y1, rfl, ?_⟩
 rw [show zs3 k1 = zf6 n.kind by rw [e1]; rfl] at hm2
 have hb2 := hx2.get hb1 (by simp)
 have fin : ∀ {W : World} {x : Option Addr × Nat × Nat} {L : List UInt8}, Mine W.heap w1.heap.size qy 1 x (byteCells L) → Ext [] w1.heap W.heap → L = zgl n → ∃ y, Ending.returned (zc9 x) = .returned (zc9 y) ∧ Mine W.heap H.size qy 1 y (byteCells (zgl n)) ∧ Ext [] H W.heap := by
  intro W x L hm hx he
  exact ⟨x, rfl, by rw [← he]; exact hm.mono h1s, hx1.trans hx⟩
 refine jh (s := .int .i64) (t := n.kind) rfl hb2 rfl ?_
 refine zbv (fun h1 => ?_) (fun h1 => ?_)
 ·refine jh (s := .str) (t := strOf n.data) rfl hb2 rfl ?_
  have hd := hS.data
  have nl := zd7 (n := n.data.length) (by omega)
  refine zk (qaz n.data rfl (by omega)) ?_
  rintro e w3 ⟨y3, rfl, hm3, hx3⟩
  refine ⟨y3, rfl, ?_⟩
  have hx03 := hx2.trans hx3
  refine qh8 rfl (hm2.ext hx3 (by simp)) hx03.1 hm3.cells (by have := hm3.len; simp at this; omega) (by simp [zq9]; omega) fun x4 w4 hm4 hx4 hs4 => ?_
  exact fin hm4 (zkp hx03 (hm2.ext hx3 (by simp)) (Nat.le_refl _) hx4) (by unfold zgl; rw [if_pos h1])
 refine jh (s := .int .i64) (t := n.kind) rfl hb2 rfl ?_
 refine zbv (fun h2 => ?_) (fun h2 => ?_)
 ·refine jh (s := .int .i64) (t := n.size) rfl hb2 rfl ?_
  refine cvU fun k2 e2 l2 => ?_
  refine zk (zyk rfl l2) ?_
  rintro e w3 ⟨y3, rfl, hm3, hx3⟩
  refine ⟨y3, rfl, ?_⟩
  rw [show zs3 k2 = zf6 n.size by rw [e2]; rfl] at hm3
  have u2 := @zd2 n.size
  have hx03 := hx2.trans hx3
  refine qh8 rfl (hm2.ext hx3 (by simp)) hx03.1 hm3.cells (by have := hm3.len; simp at this; omega) (by omega) fun x4 w4 hm4 hx4 hs4 => ?_
  have hx04 := zkp hx03 (hm2.ext hx3 (by simp)) (Nat.le_refl _) hx4
  have hpl := hS.parts
  have hp32 := hN.p32
  have henc : zgl n = zf6 n.kind ++ zf6 n.size ++ zkb n.parts := by unfold zgl; rw [if_neg h1, if_pos h2, List.append_assoc]
  refine jd (fun (s : (Option Addr × Nat × Nat) × Int) W => ∃ i : Nat, s.2 = (i : Int) ∧ i ≤ n.parts.length ∧ Ext [] w1.heap W.heap ∧ Mine W.heap w1.heap.size qy 1 s.1 (byteCells (zf6 n.kind ++ zf6 n.size ++ zkb (n.parts.take i)))) (fun s _ => (n.parts.length - s.2).toNat) ⟨0, rfl, Nat.zero_le _, hx04, by simpa [zkb] using hm4⟩ ?_
  rintro ⟨z, _⟩ W ⟨i, rfl, hi, hxW, hmW⟩
  have hpre : (zkb (n.parts.take i)).length ≤ 32 * 65536 := by
   rw [zqb fun p hp => hp32 p (List.mem_of_mem_take hp)]
   simp; omega
  have hplen := hN.plen
  refine jh (s := .slc) (t := xp) rfl (hxW.get hb1 (by simp)) rfl ?_
  refine zq (fun hlt => ?_) (fun hge => ?_)
  ·have hil : i < n.parts.length := by simp only at hlt; omega
   have hget := List.getElem?_eq_getElem hil
   have hmem : n.parts[i] ∈ n.parts := List.getElem_mem hil
   have htake : n.parts.take (i + 1) = n.parts.take i ++ [n.parts[i]] := by rw [List.take_add_one, hget]; rfl
   generalize n.parts[i] = v at hget hmem htake
   have hv := hp32 v hmem
   refine jh (s := .slc) (t := xp) rfl (hxW.get hb1 (by simp)) rfl ?_
   refine Bl.zdf (i := i) Bl.zd8 (by omega) (hN.parts.ext (hx1.trans hxW) (by simp)) hplen hget rfl fun b o c T fr _ hb hsz hc _ => ?_
   rw [Bl.zgy hv] at hc
   refine qiv rfl hb hsz hv hc fun y hy hyl => ?_
   refine qh8 rfl hmW hxW.1 hy hyl (by simp only [List.length_append]; omega) fun x5 w5 hm5 hx5 hs5 => ?_
   refine xw ((i + 1 : Nat) : Int) (by simp) (by omega) (by omega) ?_
   refine ⟨⟨i + 1, rfl, by omega, zkp hxW hmW (Nat.le_refl _) hx5, ?_⟩, by simp only; omega⟩
   rw [htake, zxd]
   simpa using hm5
  ·obtain rfl : i = n.parts.length := by simp only at hge; omega
   rw [List.take_length] at hmW
   exact fin hmW hxW henc.symm
 ·refine jh (s := .slc) (t := xi) rfl hb2 rfl ?_
  have hil := hN.ilen
  rw [hil]
  refine cvU fun k2 e2 l2 => ?_
  refine zk (zyk rfl l2) ?_
  rintro e w3 ⟨y3, rfl, hm3, hx3⟩
  refine ⟨y3, rfl, ?_⟩
  rw [show zs3 k2 = zf6 (n.items.length : Int) by rw [e2]; rfl] at hm3
  have u2 := @zd2 (n.items.length : Int)
  have hx03 := hx2.trans hx3
  refine qh8 rfl (hm2.ext hx3 (by simp)) hx03.1 hm3.cells (by have := hm3.len; simp at this; omega) (by omega) fun x4 w4 hm4 hx4 hs4 => ?_
  have hx04 := zkp hx03 (hm2.ext hx3 (by simp)) (Nat.le_refl _) hx4
  have hpl := hS.items
  have hnm := hS.names
  have hi32 := hN.i32
  have henc : zgl n = zf6 n.kind ++ zf6 n.items.length ++ zq5 n.items := by unfold zgl; rw [if_neg h1, if_neg h2, List.append_assoc]
  refine jd (fun (s : (Option Addr × Nat × Nat) × Int) W => ∃ i : Nat, s.2 = (i : Int) ∧ i ≤ n.items.length ∧ Ext [] w1.heap W.heap ∧ Mine W.heap w1.heap.size qy 1 s.1 (byteCells (zf6 n.kind ++ zf6 n.items.length ++ zq5 (n.items.take i)))) (fun s _ => (n.items.length - s.2).toNat) ⟨0, rfl, Nat.zero_le _, hx04, by simpa [zq5] using hm4⟩ ?_
  rintro ⟨z, _⟩ W ⟨i, rfl, hi, hxW, hmW⟩
  have hpre : (zq5 (n.items.take i)).length ≤ 65600 * 65536 := by
   have h := zth (l := n.items.take i) (fun p hp => hnm p (List.mem_of_mem_take hp)) (fun p hp => hi32 p (List.mem_of_mem_take hp))
   have : (n.items.take i).length ≤ 65536 := by simp; omega
   omega
  refine jh (s := .slc) (t := xi) rfl (hxW.get hb1 (by simp)) rfl ?_
  refine zq (fun hlt => ?_) (fun hge => ?_)
  ·have hil2 : i < n.items.length := by simp only at hlt; omega
   have hget := List.getElem?_eq_getElem hil2
   have hmem : n.items[i] ∈ n.items := List.getElem_mem hil2
   have htake : n.items.take (i + 1) = n.items.take i ++ [n.items[i]] := by rw [List.take_add_one, hget]; rfl
   generalize n.items[i] = v at hget hmem htake
   have hv := hi32 v hmem
   have hvn := hnm v hmem
   have nl := zd7 (n := v.name.length) (by omega)
   have uk := @zd2 v.kind
   have itc : ∀ {W' : World}, Ext [] w1.heap W'.heap → Cells W'.heap xi.1 (n.items.flatMap zfk) := fun h => hN.items.ext (hx1.trans h) (by simp)
   refine jh (s := .slc) (t := xi) rfl (hxW.get hb1 (by simp)) rfl ?_
   refine Bl.zdf (i := i) zay (by omega) (itc hxW) hil hget rfl fun b o c T fr _ hb hsz hc _ => ?_
   refine jh (s := .str) (t := strOf v.name) rfl hb (hc 0 (by omega)) ?_
   refine zk (qaz v.name rfl (by omega)) ?_
   rintro e w5 ⟨y5, rfl, hm5, hx5⟩
   refine ⟨y5, rfl, ?_⟩
   have hx05 := hxW.trans hx5
   refine qh8 rfl (hmW.ext hx5 (by simp)) hx05.1 hm5.cells (by have := hm5.len; simp at this; omega) (by simp only [List.length_append, zq9]; omega) fun x6 w6 hm6 hx6 hs6 => ?_
   have hx06 := zkp hx05 (hmW.ext hx5 (by simp)) (Nat.le_refl _) hx6
   refine jh (s := .slc) (t := xi) rfl (hx06.get hb1 (by simp)) rfl ?_
   refine Bl.zdf (i := i) zay (by omega) (itc hx06) hil hget rfl fun b' o' c' T' fr' _ hb' hsz' hc' _ => ?_
   simp only [jv]
   refine jh (s := .int .i64) (t := v.kind) rfl hb' (hc' 1 (by omega)) ?_
   refine cvU fun k3 e3 l3 => ?_
   refine zk (zyk rfl l3) ?_
   rintro e w7 ⟨y7, rfl, hm7, hx7⟩
   refine ⟨y7, rfl, ?_⟩
   rw [show zs3 k3 = zf6 v.kind by rw [e3]; rfl] at hm7
   have hx07 := hx06.trans hx7
   refine qh8 rfl (hm6.ext hx7 (by simp)) hx07.1 hm7.cells (by have := hm7.len; simp at this; omega) (by simp only [List.length_append, zq9]; omega) fun x8 w8 hm8 hx8 hs8 => ?_
   have hx08 := zkp hx07 (hm6.ext hx7 (by simp)) (Nat.le_refl _) hx8
   refine jh (s := .slc) (t := xi) rfl (hx08.get hb1 (by simp)) rfl ?_
   refine Bl.zdf (i := i) zay (by omega) (itc hx08) hil hget rfl fun b2 o2 c2 T2 fr2 _ hb2' hsz2 hc2 _ => ?_
   simp only [jv]
   refine qiv (k := v.sum) rfl hb2' (by omega) hv (fun j hj => ?_) fun y hy hyl => ?_
   ·have := hc2 (2 + j) (by omega)
    rw [← Nat.add_assoc] at this
    rw [this]
    simp only [zfk, Bl.zgy hv]
    rw [show 2 + j = (j + 1) + 1 by omega]
    rfl
   refine qh8 rfl hm8 hx08.1 hy hyl (by simp only [List.length_append, zq9]; omega) fun x9 w9 hm9 hx9 hs9 => ?_
   refine xw ((i + 1 : Nat) : Int) (by simp) (by omega) (by omega) ?_
   refine ⟨⟨i + 1, rfl, by omega, zkp hx08 hm8 (Nat.le_refl _) hx9, ?_⟩, by omega⟩
   rw [htake, z1g]
   simpa [qkh] using hm9
  ·obtain rfl : i = n.items.length := by simp only at hge; omega
   rw [List.take_length] at hmW
   exact fin hmW hxW henc.symm
abbrev BV := (Option Addr × Nat × Nat) × List UInt8
def zau (H : Heap) (B : Nat) (x : Option Addr × Nat × Nat) (Ls : List (List UInt8)) : Prop :=
 ∃ ys : List BV, Mine H B zh 1 x (ys.map fun y => zc9 y.1) ∧ ys.map (·.2) = Ls ∧ ∀ y ∈ ys, Mine H B qy 1 y.1 (byteCells y.2) ∧ ∀ b ∈ xu y.1, b ∉ xu x
theorem zau.nil {H : Heap} {B : Nat} : zau H B (none, 0, 0) [] := ⟨[], .inl ⟨rfl, rfl⟩, rfl, by simp⟩
theorem zau.len {H : Heap} {B : Nat} {x : Option Addr × Nat × Nat} {Ls : List (List UInt8)} (h : zau H B x Ls) : x.2.1 = Ls.length := by
 obtain ⟨ys, h1, h2, _⟩ := h
 have := h1.len
 rw [← h2]; simp at *; omega
theorem zau.ge {H : Heap} {B : Nat} {x : Option Addr × Nat × Nat} {Ls : List (List UInt8)} (h : zau H B x Ls) : ∀ b ∈ xu x, B ≤ b := by
 obtain ⟨ys, h1, _⟩ := h
 exact jc h1
theorem za7 {H : Heap} {B : Nat} {T : TypeId} {sz : Nat} {x : Option Addr × Nat × Nat} {vs : List Value} (h : Mine H B T sz x vs) : ∀ b ∈ xu x, b < H.size ∧ ∃ c T fr, H[b]? = some (.cells c T fr) := by
 intro b hb
 rcases h with ⟨rfl, _⟩ | ⟨b', c', hx1, _, hg, _⟩
 ·simp [xu] at hb
 ·simp [xu, hx1] at hb
  subst hb
  exact ⟨lt_of_get hg, _, _, _, hg⟩
theorem zib {H : Heap} {B : Nat} {T : TypeId} {sz : Nat} {x : Option Addr × Nat × Nat} {vs : List Value} (h : Mine H B T sz x vs) : x.2.1 ≤ x.2.2 := by
 rcases h with ⟨rfl, _⟩ | ⟨_, _, _, _, _, _, _, h, _⟩
 ·exact Nat.le_refl _
 ·exact h
theorem zau.lt {H : Heap} {B : Nat} {x : Option Addr × Nat × Nat} {Ls : List (List UInt8)} (h : zau H B x Ls) : ∀ b ∈ xu x, b < H.size ∧ ∃ c T fr, H[b]? = some (.cells c T fr) := by
 obtain ⟨ys, h1, _⟩ := h
 exact za7 h1
theorem zau.ext {H H' : Heap} {B : Nat} {x : Option Addr × Nat × Nat} {Ls : List (List UInt8)} {M : List Nat} (h : zau H B x Ls) (hx : Ext M H H') (hM : ∀ b ∈ M, b < B) : zau H' B x Ls := by
 obtain ⟨ys, h1, h2, h3⟩ := h
 refine ⟨ys, h1.ext hx fun b hb hm => ?_, h2, fun y hy => ⟨(h3 y hy).1.ext hx fun b hb hm => ?_, (h3 y hy).2⟩⟩
 ·have := jc h1 b hb; have := hM b hm; omega
 ·have := jc (h3 y hy).1 b hb; have := hM b hm; omega
theorem zau.beside {B B' : Nat} {W W' : World} {x : Option Addr × Nat × Nat} {Ls : List (List UInt8)} (h : zau W.heap B x Ls) (hx : Beside B' W W') : zau W'.heap B x Ls := by
 obtain ⟨ys, h1, h2, h3⟩ := h
 exact ⟨ys, hx.mine h1, h2, fun y hy => ⟨hx.mine (h3 y hy).1, (h3 y hy).2⟩⟩
theorem zau.mono {H : Heap} {B B' : Nat} {x : Option Addr × Nat × Nat} {Ls : List (List UInt8)} (h : zau H B x Ls) (hB : B' ≤ B) : zau H B' x Ls := by
 obtain ⟨ys, h1, h2, h3⟩ := h
 exact ⟨ys, h1.mono hB, h2, fun y hy => ⟨(h3 y hy).1.mono hB, (h3 y hy).2⟩⟩
theorem zau.rows {H : Heap} {B : Nat} {x : Option Addr × Nat × Nat} {Ls : List (List UInt8)} (h : zau H B x Ls) : Bl.Rows H x.1 x.2.1 Ls := by
 have hl := h.len
 obtain ⟨ys, h1, h2, h3⟩ := h
 refine ⟨hl, fun i hi => ?_⟩
 have hyl : ys.length = Ls.length := by rw [← h2]; simp
 have hiy : i < ys.length := by omega
 rcases h1 with ⟨rfl, _⟩ | ⟨b, c, hx1, _, hg, hc, hle, hxle, he⟩
 ·simp at hl; omega
 have hy := h3 ys[i] (List.getElem_mem hiy)
 have hL : Ls[i] = ys[i].2 := by simp [← h2]
 refine ⟨b, 0, c, _, _, ys[i].1, hx1, hg, ?_, by rw [hL]; exact hy.1.cells, by rw [hL]; have := hy.1.len; simp at this; omega, ?_⟩
 ·have h5 : (c.extract 0 (ys.map fun y => zc9 y.1).length).toList[i]? = (ys.map fun y => zc9 y.1)[i]? := by rw [he]
  rw [Array.getElem?_toList, Array.getElem?_extract] at h5
  simp at h5
  rw [if_pos (by omega), List.getElem?_eq_getElem hiy] at h5
  simpa using h5
 ·rcases hy.1 with ⟨h, _⟩ | ⟨_, _, _, _, _, _, _, h, _⟩
  ·rw [h]; exact Nat.le_refl _
  ·exact h
theorem EBs : Elem P zh 1 24 := zmn (z := .slice none 0 0) (by kernel_rfl) rfl
theorem uSS : P.underlying jg = some (.slice zh) := by kernel_rfl
theorem zwh {w : World} {H : Heap} {B : Nat} {x y : Option Addr × Nat × Nat} {Ls : List (List UInt8)} {L : List UInt8} (hw : w.heap = H) (hB : zau H B x Ls) (hBs : B ≤ H.size) (hy : Mine H B qy 1 y (byteCells L)) (hyx : ∀ b ∈ xu y, b ∉ xu x) (hlen : Ls.length ≤ 1073741824) {K : (Option Addr × Nat × Nat) → World → Prop}
  (hK : ∀ x' w', zau w'.heap B x' (Ls ++ [L]) → Ext (xu x) H w'.heap → (∀ c ∈ xu x', c ∈ xu x ∨ H.size ≤ c) → K x' w') :
  zan P (Instr.buildSlice jg 1 #[(0, (Value.slice y.1 y.2.1 y.2.2))]) .slc w fun (t15 : (Option Addr × Nat × Nat)) w_4 =>
  zan P (Builtin.append_ #[jg, jg] jg #[(Value.slice x.1 x.2.1 x.2.2), (Value.slice t15.1 t15.2.1 t15.2.2)]) .slc w_4 K := by
 have hl := hB.len
 have hylt := za7 hy
 obtain ⟨ys, h1, h2, h3⟩ := hB
 have hylen : ys.length = Ls.length := by rw [← h2]; simp
 refine zai (s := .slc) (some ⟨w.heap.size, 0, none⟩, 1, 1) _ (zdy EBs uSS (v := .slice y.1 y.2.1 y.2.2) rfl (by omega) (by omega)) ?_
 subst hw
 have hxp : Ext [] w.heap (w.heap.push (.cells (Value.slice y.1 y.2.1 y.2.2).cells zh)) := .push _
 refine zcr (n := 1) (us := [zc9 y]) (H := w.heap.push (.cells (Value.slice y.1 y.2.1 y.2.2).cells zh)) EBs (by omega) uSS (za6 uSS) rfl (h1.ext hxp (by simp)) (by simp; omega)
  (Src.slc rfl (.inr ⟨w.heap.size, 0, _, _, _, rfl, zn, by simp [Value.cells], by simp [Value.cells, zc9]⟩) rfl) (by intro v hv; simp at hv; subst hv; rfl) (by omega) ?_
 intro x' w4 hm4 hl4 hx4 hs4
 have hx04 : Ext (xu x) w.heap w4.heap := (hxp.mono (by simp)).trans hx4
 have hs0 : w.heap.size ≤ w4.heap.size := hx04.1
 have hs4' : ∀ c ∈ xu x', c ∈ xu x ∨ w.heap.size ≤ c := fun c hc => by
  rcases hs4 c hc with h | h
  ·exact .inl h
  ·right; have := hxp.1; omega
 refine hK x' w4 ⟨ys ++ [(y, L)], by simpa using hm4, by simp [h2], fun z hz => ?_⟩ hx04 hs4'
 rcases List.mem_append.1 hz with hz | hz
 ·obtain ⟨g1, g2⟩ := h3 z hz
  refine ⟨g1.ext hx04 g2, fun b hb h => ?_⟩
  rcases hs4' b h with h | h
  ·exact g2 b hb h
  ·have := (za7 g1 b hb).1; omega
 ·simp only [List.mem_singleton] at hz
  subst hz
  refine ⟨hy.ext hx04 hyx, fun b hb h => ?_⟩
  rcases hs4' b h with h | h
  ·exact hyx b hb h
  ·have := (hylt b hb).1; omega
theorem stD {w : World} {H : Heap} {b o : Nat} {c : Array Value} {T : TypeId} {k : List UInt8} (hk : k.length = 32) (hw : w.heap = H) (hb : H[b]? = some (.cells c T (0, 0))) (hs : o + 32 ≤ c.size) {K : World → Prop}
  (hK : ∀ w', w'.heap = H.setIfInBounds b (.cells (setCells c o (byteCells k)) T (0, 0)) → K w') : zbn P (storeVar zf (⟨b, o, none⟩ : Addr) (arr k)) w K := by
 refine zbf (v := arr k) (by rw [szD, Bl.za3, hk]) (by rw [Bl.za3]; omega) (by simpa [Value.cells, arr] using ku) hw hb (by rw [Bl.za3]; omega) fun w' hw' => hK w' ?_
 rw [hw']
 simp [Value.cells, arr]
theorem z4k {w : World} {H : Heap} {b : Nat} {c : Array Value} {T : TypeId} {k : List UInt8} (hk : k.length = 32) (hw : w.heap = H) (hb : H[b]? = some (.cells c T (0, 0))) (hs : c.size = 32) {K : World → Prop}
  (hK : ∀ w', w'.heap = H.setIfInBounds b (.cells (byteCells k).toArray T (0, 0)) → K w') : zbn P (storeVar zf (⟨b, 0, none⟩ : Addr) (arr k)) w K := by
 refine stD hk hw hb (by omega) fun w' hw' => hK w' ?_
 rw [hw', zam (by simp [hk, hs])]
theorem zad {L : List UInt8} : (Sha.sum L).length = 32 := Bl.zad
set_option maxHeartbeats 4000000 in
theorem qft {w : World} {H : Heap} {B : Nat} {x xp xi : Option Addr × Nat × Nat} {Ls : List (List UInt8)} {n : Nod} (hw : w.heap = H) (hB : zau H B x Ls) (hB0 : 0 < B) (hBs : B ≤ H.size) (hN : NodW H n xp xi) (hR : zdb n = true) (hS : Bl.Rounds H) (hlen : Ls.length ≤ 1073741824) (hel : (zgl n).length ≤ 1099511627776) :
  qg P zk0 #[.slice x.1 x.2.1 x.2.2, .agg (zdv n xp xi).toArray] w fun e w' => ∃ x', e = .returned (.tuple #[zc9 x', arr (Sha.sum (zgl n))]) ∧ zau w'.heap B x' (Ls ++ [zgl n]) ∧ Ext (xu x) H w'.heap ∧ ∀ c ∈ xu x', c ∈ xu x ∨ H.size ≤ c := by
 refine z5k ?_
 unfold zrm
 refine jw hw fun w1 hw1 => ?_
 have hx1 : Ext [] H w1.heap := by rw [hw1]; exact .push _
 have hb1 : w1.heap[H.size]? = some (.cells (zdv n xp xi).toArray zi (0, 0)) := by rw [hw1]; exact zn
 refine jw rfl fun w2 hw2 => ?_
 have hx2 : Ext [] w1.heap w2.heap := by rw [hw2]; exact .push _
 have hd2 : w2.heap[w1.heap.size]? = some (.cells (zc P zf) zf (0, 0)) := by rw [hw2]; exact zn
 have hx02 := hx1.trans hx2
 refine jf rfl (hx2.get hb1 (by simp)) rfl ?_
 refine zk (qec rfl (hN.ext hx02) hR) ?_
 rintro e w3 ⟨y, rfl, hm3, hx3⟩
 refine ⟨(y, 0), rfl, ?_⟩
 have hx03 := hx02.trans hx3
 have hs02 := hx02.1
 have hxlt := hB.lt
 refine zwh rfl (hB.ext hx03 (by simp)) (by have := hx03.1; omega) (hm3.mono (by omega)) (fun b hb h => by have := jc hm3 b hb; have := (hxlt b h).1; omega) hlen fun x5 w5 hB5 hx5 hs5 => ?_
 have hylt := za7 hm3
 have hm5 := hm3.ext hx5 (fun b hb h => by have := jc hm3 b hb; have := (hxlt b h).1; omega)
 have hx05 : Ext (xu x) H w5.heap := (hx03.mono (by simp)).trans hx5
 have h0x : 0 ∉ xu x := fun h => by have := hB.ge 0 h; omega
 have hyl : y.2.1 = (zgl n).length := by have := hm3.len; simp at this; omega
 refine zk (Bl.qim rfl hm5.cells hyl (zib hm3) (hS.ext hx05 h0x) (by omega)) ?_
 rintro e w6 ⟨rfl, hx6⟩
 refine ⟨arr (Sha.sum (zgl n)), rfl, ?_⟩
 have hs1 : H.size < w1.heap.size := lt_of_get hb1
 have hdn : w1.heap.size ∉ xu x := fun h => by have := (hxlt _ h).1; omega
 have hd6 : w6.heap[w1.heap.size]? = some (.cells (zc P zf) zf (0, 0)) := hx6.get (hx5.get (hx3.get hd2 (by simp)) hdn) (by simp)
 refine z4k zad rfl hd6 (by rw [zcD]) fun w7 hw7 => ?_
 have hd7 : w7.heap[w1.heap.size]? = some (.cells (byteCells (Sha.sum (zgl n))).toArray zf (0, 0)) := by rw [hw7]; exact qm hd6
 refine jf rfl hd7 (by simp [zad]) ?_
 have hx06 := hx05.trans (hx6.mono (by simp))
 have hdx5 : w1.heap.size ∉ xu x5 := fun h => by
  rcases hs5 _ h with h | h
  ·exact hdn h
  ·have := hx3.1; have := lt_of_get hd2; omega
 refine ⟨x5, rfl, ?_, ?_, fun c hc => ?_⟩
 ·have hB6 := hB5.ext hx6 (by simp)
  obtain ⟨ys, g1, g2, g3⟩ := hB6
  have hx67 : Ext [w1.heap.size] w6.heap w7.heap := by rw [hw7]; exact Ext.set _ (by simp)
  refine ⟨ys, g1.ext hx67 (fun b hb h => by simp at h; subst h; exact hdx5 hb), g2, fun z hz => ⟨(g3 z hz).1.ext hx67 fun b hb h => ?_, (g3 z hz).2⟩⟩
  simp at h; subst h
  obtain ⟨_, c', T', fr', hcell⟩ := za7 (g3 z hz).1 _ hb
  rcases (g3 z hz).1 with ⟨h, _⟩ | ⟨b', c2, hx1', _, hg, _⟩
  ·rw [h] at hb; simp [xu] at hb
  ·simp [xu, hx1'] at hb
   subst hb
   rw [hd6] at hg
   simp only [Option.some.injEq, Obj.cells.injEq] at hg
   exact absurd hg.2.1 (by decide)
 ·rw [hw7]; exact hx06.set_own (.inl (by omega))
 ·rcases hs5 c hc with h | h
  ·exact .inl h
  ·right; have := hx03.1; omega
theorem qml {w : World} {H : Heap} {D : List UInt8} (hw : w.heap = H) {K : (Option Addr × Nat × Nat) → World → Prop}
  (hK : ∀ y w', Cells w'.heap y.1 (byteCells D) → y.2.1 = D.length → y.2.1 ≤ y.2.2 → xu y = [H.size] → Ext [] H w'.heap → H.size < w'.heap.size → K y w') : zan P (convert qx zh (.string (strOf D))) .slc w K := by
 subst hw
 have h := run_bytes_of_string w qx zh qy (strOf D) z3o uS8 u8 (P := P)
 have hge := grownCap_ge w (strOf D).size 0 qy
 refine zai (s := .slc) (some ⟨w.heap.size, 0, none⟩, (strOf D).size, grownCap w (strOf D).size 0 qy) _ h ?_
 refine hK _ _ (.inr ⟨w.heap.size, 0, _, _, _, rfl, zn, ?_, ?_⟩) (by simp) hge rfl (.push _) (by show w.heap.size < (w.heap.push _).size; simp)
 ·simp [bytesRow, strOf]
 ·rw [Nat.zero_add]
  simp [bytesRow, strOf, byteCells, List.take_of_length_le]
theorem qcg {w : World} {t e : TypeId} {sz : Nat} {a : Option Addr} {len cap l h m : Nat} {k : IntKind} (hu : P.underlying t = some (.slice e)) (hs : (P.info? e).map (·.size) = some sz) (h1 : l ≤ h) (h2 : h ≤ m) (h3 : m ≤ cap) :
  (Instr.sliceAt t (.slice a len cap) (some (.int k (l : Int))) (some (.int k (h : Int))) (some (.int k (m : Int)))).run P w = .ok (.slice (if m = l then a else a.map (·.add (l * sz))) (h - l) (m - l)) w := by
 have em : ∀ code, (Instr.sliceBound (.int k (m : Int)) cap code).run P w = .ok m w := by
  intro code
  simp [Instr.sliceBound, asIntOf, h3]
 have eh : ∀ code, (Instr.sliceBound (.int k (h : Int)) m code).run P w = .ok h w := by
  intro code
  simp [Instr.sliceBound, asIntOf, h2]
 have el : ∀ code, (Instr.sliceBound (.int k (l : Int)) h code).run P w = .ok l w := by
  intro code
  simp [Instr.sliceBound, asIntOf, h1]
 simp [Instr.sliceAt, Instr.slice, Instr.sliceBounds, qw hu, em, eh, el, zbh hs]
def npc (D : List UInt8) : Nat := (D.length + 63) / 64
def zka (D : List UInt8) (j : Nat) : List UInt8 := (D.drop (64 * j)).take 64
def zxt (y : Option Addr × Nat × Nat) (D : List UInt8) (j : Nat) : Option Addr × Nat × Nat := (if 64 * j + min 64 (D.length - 64 * j) = 64 * j then y.1 else y.1.map (·.add (64 * j * 1)), (64 * j + min 64 (D.length - 64 * j)) - 64 * j, (64 * j + min 64 (D.length - 64 * j)) - 64 * j)
theorem zp7 {D : List UInt8} {j : Nat} : (zka D j).length = min 64 (D.length - 64 * j) := by simp [zka]
theorem zvq {D : List UInt8} {j : Nat} : j < npc D ↔ 64 * j < D.length := by unfold npc; omega
theorem qae {H : Heap} {y : Option Addr × Nat × Nat} {D : List UInt8} {j : Nat} (h : Cells H y.1 (byteCells D)) (hj : j < npc D) : Cells H (zxt y D j).1 (byteCells (zka D j)) := by
 have hj' := zvq.1 hj
 have h1 := h.part (64 * j) (min 64 (D.length - 64 * j)) (by simp; omega)
 rw [zlw, zl7] at h1
 have h2 : zka D j = (D.drop (64 * j)).take (min 64 (D.length - 64 * j)) := by
  unfold zka
  by_cases h64 : 64 ≤ D.length - 64 * j
  ·rw [Nat.min_eq_left h64]
  ·rw [Nat.min_eq_right (by omega), List.take_of_length_le (by simp; omega), List.take_of_length_le (by simp)]
 rw [h2]
 unfold zxt
 simp only
 rw [if_neg (by omega), Nat.mul_one]
 exact h1
theorem qfb {w : World} {H : Heap} {b c : Nat} {y : Option Addr × Nat × Nat} {D : List UInt8} (hw : w.heap = H) (hb : H[b]? = some (.cells #[zc9 y] zh (0, 0))) (hc : H[c]? = some (.cells #[.int .i64 64] zdx (0, 0))) (hy : y.2.1 = D.length) (hcap : y.2.1 ≤ y.2.2) (hD : D.length ≤ 1099511627776) :
  qkj P (.func (.func zbm) #[] #[.pointer (some ⟨b, 0, none⟩), .pointer (some ⟨c, 0, none⟩)]) (fun ys => ys = List.range (npc D)) (fun pre j => j = pre.length ∧ j < npc D) (fun j => #[zc9 (zxt y D j)]) [b, c] w := by
 refine ⟨_, _, rfl, fun l I J w1 M hx1 hMM hst h0 hY => ?_⟩
 have hx1 := hw ▸ hx1
 have hb1 := hx1.get hb (by simp)
 have hc1 := hx1.get hc (by simp)
 have hbl := lt_of_get hb1
 have hcl := lt_of_get hc1
 refine zjh ?_
 unfold zcy
 refine jd (fun s W => ∃ i : Nat, s = ((64 * i : Nat) : Int) ∧ i ≤ npc D ∧ I (List.range i) W ∧ w1.heap.size ≤ W.heap.size ∧ W.heap[b]? = some (.cells #[zc9 y] zh (0, 0)) ∧ W.heap[c]? = some (.cells #[.int .i64 64] zdx (0, 0))) (fun s _ => (64 * npc D + 64 - s).toNat)
  ⟨0, rfl, Nat.zero_le _, h0, Nat.le_refl _, hb1, hc1⟩ ?_
 rintro _ W ⟨i, rfl, hi, hI, hsz, hbW, hcW⟩
 simp only [xq]
 refine jh (s := .slc) (t := y) rfl hbW rfl ?_
 refine zq (fun hil => ?_) (fun hil => ?_)
 ·have hil : i < npc D := zvq.2 (by omega)
  have hil' := zvq.1 hil
  refine vg rfl fun w2 hw2 => ?_
  have hx02 : Ext [] W.heap w2.heap := by rw [hw2]; exact .refl _ _
  have hb2 := hx02.get hbW (by simp)
  have hc2 := hx02.get hcW (by simp)
  refine jh (s := .int .i64) (t := (64 : Int)) rfl hc2 rfl ?_
  refine jh (s := .slc) (t := y) rfl hb2 rfl ?_
  refine xg (s := .slc) (if y.2.2 = 64 * i then y.1 else y.1.map (·.add (64 * i * 1)), y.2.1 - 64 * i, y.2.2 - 64 * i) (zaz uS8 sz8 (.yes rfl) .no (by omega) hcap) ?_
  refine xg (s := .int .i64) ((min 64 (D.length - 64 * i) : Nat) : Int) (by rw [run_min_int2]; congr 2; simp only; split <;> omega) ?_
  refine jh (s := .slc) (t := y) rfl hb2 rfl ?_
  refine xw ((64 * i + min 64 (D.length - 64 * i) : Nat) : Int) (by omega) (by omega) (by omega) ?_
  refine xw ((64 * i + min 64 (D.length - 64 * i) : Nat) : Int) (by omega) (by omega) (by omega) ?_
  refine xg (s := .slc) (zxt y D i) (qcg uS8 sz8 (by omega) (Nat.le_refl _) (by omega)) ?_
  refine zwx ((hY (List.range i) i w2 ⟨by simp, hil⟩ (hst _ _ _ hI (.new hsz hx02))).mono ?_)
  have hs2 : W.heap.size ≤ w2.heap.size := hx02.1
  rintro e W2 ⟨hK, ⟨rfl, hI2⟩ | ⟨rfl, hJ2⟩⟩
  ·refine ⟨true, rfl, ?_⟩
   refine jl rfl ?_
   have hb3 := hK.get hb2 hbl (fun h => (hMM _ h).2 (by simp))
   have hc3 := hK.get hc2 hcl (fun h => (hMM _ h).2 (by simp))
   refine jh (s := .int .i64) (t := (64 : Int)) rfl hc3 rfl ?_
   refine xw ((64 * (i + 1) : Nat) : Int) (by omega) (by omega) (by omega) ?_
   refine ⟨⟨i + 1, rfl, by omega, ?_, ?_, hb3, hc3⟩, by omega⟩
   ·rw [List.range_succ]; exact hI2
   ·exact Nat.le_trans (Nat.le_trans hsz hs2) hK.1
  ·refine ⟨false, rfl, ?_⟩
   exact zaa rfl ⟨⟨_, rfl⟩, .inr hJ2⟩
 ·have hil : i = npc D := by
   have : ¬ i < npc D := fun h => by have := zvq.1 h; omega
   omega
  refine ⟨⟨_, rfl⟩, .inl ⟨List.range (npc D), rfl, ?_⟩⟩
  rw [← hil]; exact hI
theorem qjk {w : World} {H : Heap} {y : Option Addr × Nat × Nat} {D : List UInt8} (hw : w.heap = H) (hy : y.2.1 = D.length) (hcap : y.2.1 ≤ y.2.2) (hD : D.length ≤ 1099511627776) :
  qg P zdk #[.slice y.1 y.2.1 y.2.2, .int .i64 64] w fun e w' => ∃ gv b c, e = .returned gv ∧ H.size ≤ b ∧ H.size ≤ c ∧ b < w'.heap.size ∧ c < w'.heap.size ∧ Ext [] H w'.heap ∧
   qkj P gv (fun ys => ys = List.range (npc D)) (fun pre j => j = pre.length ∧ j < npc D) (fun j => #[zc9 (zxt y D j)]) [b, c] w' := by
 refine zko ?_
 unfold zdm
 refine jw hw fun w1 hw1 => ?_
 have hx1 : Ext [] H w1.heap := by rw [hw1]; exact .push _
 have hb1 : w1.heap[H.size]? = some (.cells #[zc9 y] zh (0, 0)) := by rw [hw1]; exact zn
 refine jw rfl fun w2 hw2 => ?_
 have hx2 : Ext [] w1.heap w2.heap := by rw [hw2]; exact .push _
 have hc2 : w2.heap[w1.heap.size]? = some (.cells #[.int .i64 64] zdx (0, 0)) := by rw [hw2]; exact zn
 have hb2 := hx2.get hb1 (by simp)
 refine zac ?_
 refine jh (s := .int .i64) (t := (64 : Int)) rfl hc2 rfl ?_
 refine jl rfl ?_
 refine xg (s := .any) (.func (.func zbm) #[] #[.pointer (some ⟨H.size, 0, none⟩), .pointer (some ⟨w1.heap.size, 0, none⟩)]) (by simp [Instr.makeFunc]; rfl) ?_
 have hs1 := hx1.1
 exact ⟨_, H.size, w1.heap.size, rfl, Nat.le_refl _, hs1, lt_of_get hb2, lt_of_get hc2, hx1.trans hx2, qfb rfl hb2 hc2 hy hcap hD⟩
def zlh (p : List UInt8) : Nod := ⟨1, p, 0, [], []⟩
def zco (D : List UInt8) (j : Nat) : List UInt8 := zgl (zlh (zka D j))
def zla (D : List UInt8) (k : Nat) : List (List UInt8) := (List.range k).map fun j => Sha.sum (zco D j)
def zb4 (D : List UInt8) (k : Nat) : Nod := ⟨2, [], D.length, zla D k, []⟩
def zaw (D : List UInt8) (k : Nat) : List (List UInt8) := (List.range k).map (zco D)
def ze5 (D : List UInt8) : List (List UInt8) := zaw D (npc D) ++ [zgl (zb4 D (npc D))]
def zc7 (D : List UInt8) : List UInt8 := Sha.sum (zgl (zb4 D (npc D)))
theorem zx3 {D : List UInt8} {k : Nat} : zla D (k + 1) = zla D k ++ [Sha.sum (zco D k)] := by simp [zla, List.range_succ]
theorem zo1 {D : List UInt8} {k : Nat} : zaw D (k + 1) = zaw D k ++ [zco D k] := by simp [zaw, List.range_succ]
theorem zfi {D : List UInt8} {k : Nat} : (zla D k).length = k := by simp [zla]
theorem zyi {D : List UInt8} {k : Nat} : ∀ p ∈ zla D k, p.length = 32 := by
 intro p hp
 obtain ⟨j, _, rfl⟩ := List.mem_map.1 hp
 exact zad
theorem z9q {D : List UInt8} {j : Nat} (h : j < npc D) : zdb (zlh (zka D j)) = true := by
 have h1 := zvq.1 h
 have h2 := zp7 (D := D) (j := j)
 unfold zdb zlh
 simp only [if_true, decide_eq_true_eq, List.length_nil, and_true]
 omega
theorem qdf {D : List UInt8} (h : D.length ≤ 1024) : zdb (zb4 D (npc D)) = true := by
 unfold zdb zb4
 rw [if_neg (show ¬ ((2 : Int) = 1) by decide), if_pos rfl]
 simp only [zfi, List.length_nil, and_true, true_and, decide_eq_true_eq, zy5, npc]
 omega
theorem znp {D : List UInt8} {j : Nat} : (zco D j).length ≤ 100 := by
 have h2 := zp7 (D := D) (j := j)
 have u := @zd2 1
 have nl := zd7 (n := (zka D j).length) (by omega)
 unfold zco zgl zlh
 simp only [if_true, List.length_append, zq9]
 omega
theorem zqq {D : List UInt8} {k : Nat} (hk : k ≤ 65536) : (zgl (zb4 D k)).length ≤ 3000000 := by
 have u := @zd2 2
 have u2 := @zd2 (D.length : Int)
 have := zqb (l := zla D k) zyi
 rw [zfi] at this
 unfold zgl zb4
 rw [if_neg (show ¬ ((2 : Int) = 1) by decide), if_pos rfl]
 simp only [List.length_append]
 omega
theorem zg1 {H : Heap} {B B' : Nat} {T T' : TypeId} {sz sz' : Nat} {x x' : Option Addr × Nat × Nat} {vs vs' : List Value} (h : Mine H B T sz x vs) (h' : Mine H B' T' sz' x' vs') (hne : T ≠ T') : ∀ b ∈ xu x, b ∉ xu x' := by
 intro b hb hb'
 rcases h with ⟨rfl, _⟩ | ⟨b1, c1, hx1, _, hg1, _⟩
 ·simp [xu] at hb
 rcases h' with ⟨rfl, _⟩ | ⟨b2, c2, hx2, _, hg2, _⟩
 ·simp [xu] at hb'
 simp [xu, hx1] at hb
 simp [xu, hx2] at hb'
 subst hb hb'
 rw [hg1] at hg2
 simp only [Option.some.injEq, Obj.cells.injEq] at hg2
 exact hne hg2.2.1
theorem ED : Elem P zf 32 32 := Bl.E27
theorem qj6 {w : World} {H : Heap} {B : Nat} {x : Option Addr × Nat × Nat} {ds : List (List UInt8)} {k : List UInt8} (hw : w.heap = H) (hm : Mine H B zf 32 x (ds.flatMap Bl.zf3)) (hBs : B ≤ H.size) (hk : k.length = 32) (hlen : ds.length ≤ 1073741824) {K : (Option Addr × Nat × Nat) → World → Prop}
  (hK : ∀ x' w', Mine w'.heap B zf 32 x' ((ds ++ [k]).flatMap Bl.zf3) → Ext (xu x) H w'.heap → (∀ c ∈ xu x', c ∈ xu x ∨ H.size ≤ c) → K x' w') :
  zan P (Instr.buildSlice jy 1 #[(0, arr k)]) .slc w fun (t27 : (Option Addr × Nat × Nat)) w_13 =>
  zan P (Builtin.append_ #[jy, jy] jy #[(Value.slice x.1 x.2.1 x.2.2), (Value.slice t27.1 t27.2.1 t27.2.2)]) .slc w_13 K := by
 have hlx : x.2.1 = ds.length := by
  have := hm.len
  rw [qc Bl.zf3 Bl.zd8] at this
  omega
 have hc1 : (arr k).cells = (Bl.zf3 k).toArray := by rw [Bl.zgy hk]; rfl
 refine zai (s := .slc) (some ⟨w.heap.size, 0, none⟩, 1, 1) _ (zdy ED Bl.qkg (v := arr k) (by rw [Bl.za3, hk]) (by omega) (by omega)) ?_
 subst hw
 have hxp : Ext [] w.heap (w.heap.push (.cells (arr k).cells zf)) := .push _
 refine zcr (bts := 32) (n := 1) (us := Bl.zf3 k) (H := w.heap.push (.cells (arr k).cells zf)) ED (by omega) Bl.qkg (za6 Bl.qkg) rfl (hm.ext hxp (by simp)) (by simp; omega)
  (Src.slc rfl (.inr ⟨w.heap.size, 0, _, _, _, rfl, zn, by rw [hc1]; simp, by rw [hc1, Nat.zero_add]; simp⟩) (by rw [Bl.zd8])) Bl.zyc (by omega) ?_
 intro x' w4 hm4 hl4 hx4 hs4
 refine hK x' w4 (by rw [List.flatMap_append, List.flatMap_singleton]; exact hm4) ((hxp.mono (by simp)).trans hx4) (fun c hc => ?_)
 rcases hs4 c hc with h | h
 ·exact .inl h
 ·right; have := hxp.1; omega
theorem bN2 (n : Int) (w : World) : (Instr.build zi #[(0, .int .i64 2), (2, .int .i64 n)]).run P w = .ok (.agg #[.int .i64 2, .string .empty, .int .i64 n, .slice none 0 0, .slice none 0 0]) w := by kernel_rfl
theorem bN1 (s : ByteArray) (w : World) : (Instr.build zi #[(0, .int .i64 1), (1, .string s)]).run P w = .ok (.agg #[.int .i64 1, .string s, .int .i64 0, .slice none 0 0, .slice none 0 0]) w := by kernel_rfl
theorem NodW.bare {H : Heap} {n : Nod} (hp : n.parts = []) (hi : n.items = []) : NodW H n (none, 0, 0) (none, 0, 0) :=
 ⟨by rw [hp]; exact .inl rfl, by rw [hp]; rfl, by rw [hi]; exact .inl rfl, by rw [hi]; rfl, by rw [hp]; simp, by rw [hi]; simp⟩
set_option maxHeartbeats 16000000 in
theorem qiy {w : World} {H : Heap} {B : Nat} {x : Option Addr × Nat × Nat} {Ls : List (List UInt8)} {D : List UInt8} (hw : w.heap = H) (hB : zau H B x Ls) (hB0 : 0 < B) (hBs : B ≤ H.size) (hS : Bl.Rounds H) (hlen : Ls.length ≤ 536870912) (hD : D.length ≤ 1024) :
  qg P zn0 #[.slice x.1 x.2.1 x.2.2, .string (strOf D)] w fun e w' => ∃ x', e = .returned (.tuple #[zc9 x', arr (zc7 D)]) ∧ zau w'.heap B x' (Ls ++ ze5 D) ∧ Ext (xu x) H w'.heap ∧ ∀ c ∈ xu x', c ∈ xu x ∨ H.size ≤ c := by
 have hnp : npc D ≤ 16 := by unfold npc; omega
 have hxlt := hB.lt
 have h0x : 0 ∉ xu x := fun h => by have := hB.ge 0 h; omega
 have h0H : 0 < H.size := by omega
 refine z7i ?_
 unfold zrf
 refine jw hw fun w1 hw1 => ?_
 have hx1 : Ext [] H w1.heap := by rw [hw1]; exact .push _
 have hl1 : w1.heap[H.size]? = some (.cells #[zc9 x] jg (0, 0)) := by rw [hw1]; exact zn
 refine jw rfl fun w2 hw2 => ?_
 have hx2 : Ext [] w1.heap w2.heap := by rw [hw2]; exact .push _
 have hd2 : w2.heap[w1.heap.size]? = some (.cells (zc P zf) zf (0, 0)) := by rw [hw2]; exact zn
 refine xg (s := .any) (.agg (zdv (zb4 D 0) (none, 0, 0) (none, 0, 0)).toArray) (by rw [jm]; exact bN2 _ _) ?_
 refine qg2 (zb4 D 0) _ _ rfl fun w4 hw4 => ?_
 have hx4 : Ext [] w2.heap w4.heap := by rw [hw4]; exact .push _
 have hn4 : w4.heap[w2.heap.size]? = some (.cells (zdv (zb4 D 0) (none, 0, 0) (none, 0, 0)).toArray zi (0, 0)) := by rw [hw4]; exact zn
 refine qml rfl fun y w5 hcy hyl hyc hyo hx5 hs5 => ?_
 refine zk (qjk rfl hyl hyc (by omega)) ?_
 rintro e w6 ⟨gv, b, c, rfl, hbge, hcge, hblt, hclt, hx6, hseq⟩
 refine ⟨gv, rfl, ?_⟩
 have hx46 := hx5.trans hx6
 have hx26 := hx4.trans hx46
 have hx16 := hx2.trans hx26
 have hx06 := hx1.trans hx16
 have s1 : H.size < w1.heap.size := lt_of_get hl1
 have s2 : w1.heap.size < w2.heap.size := lt_of_get hd2
 have s4 : w2.heap.size < w4.heap.size := lt_of_get hn4
 have s6 := hx6.1
 have hl6 := hx16.get hl1 (by simp)
 have hd6 := hx26.get hd2 (by simp)
 have hn6 := hx46.get hn4 (by simp)
 have hcy6 := hcy.ext hx6 (by simp)
 have hB6 := hB.ext hx06 (by simp)
 refine qig (α := Nat) (shs := [.slc]) (tv := zxt y D) (fp := [b, c]) hseq (H.size :: w2.heap.size :: xu x)
  (fun m hm => ?_) (fun m hm => by simp at hm; omega)
  (fun pre W => ∃ x' xp', Ext (xu x) H W.heap ∧ w6.heap.size ≤ W.heap.size ∧ W.heap[H.size]? = some (.cells #[zc9 x'] jg (0, 0)) ∧ W.heap[w2.heap.size]? = some (.cells (zdv (zb4 D pre.length) xp' (none, 0, 0)).toArray zi (0, 0)) ∧
   W.heap[w1.heap.size]? = some (.cells (zc P zf) zf (0, 0)) ∧ zau W.heap B x' (Ls ++ zaw D pre.length) ∧ (∀ c ∈ xu x', c ∈ xu x ∨ w6.heap.size ≤ c) ∧ Mine W.heap w6.heap.size zf 32 xp' ((zla D pre.length).flatMap Bl.zf3) ∧ Cells W.heap y.1 (byteCells D) ∧ pre.length ≤ npc D)
  (fun _ => False) (fun _ _ => False) ?_ (fun _ _ h _ => h.elim) (fun _ _ _ h _ => h.elim) ?_ ?_ ?_ (fun _ h => h.elim) (fun _ _ h => h.elim)
 ·simp only [List.mem_cons] at hm
  rcases hm with rfl | rfl | hm
  ·exact ⟨by omega, by simp; omega⟩
  ·exact ⟨by omega, by simp; omega⟩
  ·have := (hxlt m hm).1
   exact ⟨by omega, by simp; omega⟩
 ·rintro pre W W' ⟨x', xp', h1, h1s, h2, h3, h3d, h4, h5, h6, h7, h8⟩ hBe
  exact ⟨x', xp', hBe.ext (by omega) h1, Nat.le_trans h1s hBe.size, hBe.cells h2, hBe.cells h3, hBe.cells h3d, h4.beside hBe, h5, hBe.mine h6, hBe.own h7, h8⟩
 ·exact ⟨x, (none, 0, 0), hx06.mono (by simp), Nat.le_refl _, hl6, hn6, hd6, by simpa [zaw] using hB6, fun c hc => .inl hc, .inl ⟨rfl, by simp [zla]⟩, hcy6, Nat.zero_le _⟩
 ·rintro pre k W ⟨rfl, hk⟩ ⟨x', xp', h1, h1s, h2, h3, h3d, h4, h5, h6, h7, h8⟩ hsz beg kc kr kx hbeg
  refine hbeg W _ (.refl _ _) fun W2 hB2 hs2 hkc _ _ => ?_
  have h1 := hB2.ext (show H.size ≤ w6.heap.size by omega) h1
  have h2 := hB2.cells h2
  have h3 := hB2.cells h3
  have h3d := hB2.cells h3d
  have h4 := h4.beside hB2
  have h6 := hB2.mine h6
  have h7 := hB2.own h7
  have hH2 := h1.1
  generalize hk2 : pre.length = k at *
  have x'lt := h4.lt
  have lenk : (Ls ++ zaw D k).length ≤ 1073741824 := by simp [zaw]; omega
  refine jw rfl fun w9 hw9 => ?_
  have hx9 : Ext [] W2.heap w9.heap := by rw [hw9]; exact .push _
  have hd9 : w9.heap[W2.heap.size]? = some (.cells (zc P zf) zf (0, 0)) := by rw [hw9]; exact zn
  refine jh (s := .slc) (t := x') rfl (hx9.get h2 (by simp)) rfl ?_
  refine xg (s := .str) _ (z9z uS8 u8 z3o rfl (qae (h7.ext hx9 (by simp)) hk) (by rw [zp7]; unfold zxt; simp only; omega)) ?_
  refine xg (s := .any) (.agg (zdv (zlh (zka D k)) (none, 0, 0) (none, 0, 0)).toArray) (bN1 _ _) ?_
  refine zk (qft (n := zlh (zka D k)) rfl (h4.ext hx9 (by simp)) hB0 (by have := hx9.1; omega) (.bare rfl rfl) (z9q hk) ((hS.ext h1 h0x).ext hx9 (by simp)) lenk (by have := znp (D := D) (j := k); unfold zco at this; omega)) ?_
  rintro e w10 ⟨x2, rfl, hB10, hx10, hs10⟩
  refine ⟨(x2, arr (Sha.sum (zco D k))), rfl, ?_⟩
  have hHx' : ∀ {m : Nat}, H.size ≤ m → m < w6.heap.size → m ∉ xu x' := fun h h' hm => by
   rcases h5 _ hm with h2 | h2
   ·have := (hxlt _ h2).1; omega
   ·omega
  have hd2x' : W2.heap.size ∉ xu x' := fun h => by have := (x'lt _ h).1; omega
  have hl10 := hx10.get (hx9.get h2 (by simp)) (hHx' (Nat.le_refl _) (by omega))
  refine zcd rfl hl10 (by simp) fun w11 hw11 => ?_
  have hx11 : Ext [H.size] w10.heap w11.heap := by rw [hw11]; exact Ext.set _ (by simp)
  have hl11 : w11.heap[H.size]? = some (.cells #[zc9 x2] jg (0, 0)) := by rw [hw11]; exact qm hl10
  have hd11 := hx11.get (hx10.get hd9 hd2x') (by simp; omega)
  refine z4k zad rfl hd11 zcD fun w12 hw12 => ?_
  have hx12 : Ext [W2.heap.size] w11.heap w12.heap := by rw [hw12]; exact Ext.set _ (by simp)
  have hd12 : w12.heap[W2.heap.size]? = some (.cells (byteCells (Sha.sum (zco D k))).toArray zf (0, 0)) := by rw [hw12]; exact qm hd11
  have s9 := hx9.1
  have s10 := hx10.1
  have s11 := hx11.1
  have s12 := hx12.1
  have s09 : W2.heap.size < w9.heap.size := lt_of_get hd9
  have keep12 : ∀ {m : Nat} {o : Obj}, m ≠ H.size → m ≠ W2.heap.size → m ∉ xu x' → W2.heap[m]? = some o → w12.heap[m]? = some o := fun h1 h2 h3 h => hx12.get (hx11.get (hx10.get (hx9.get h (by simp)) h3) (by simp [h1])) (by simp [h2])
  have hn12 := keep12 (by omega) (by omega) (hHx' (by omega) (by omega)) h3
  refine jh (s := .slc) (t := xp') rfl hn12 rfl ?_
  refine jf rfl hd12 (by simp [zad]) ?_
  have hxp' := za7 h6
  have hB9 : zau w9.heap B x' (Ls ++ zaw D k) := h4.ext hx9 (by simp)
  have ne1 : ∀ m ∈ xu xp', m ∉ xu x' := by
   obtain ⟨ys, g1, _⟩ := h4
   exact zg1 h6 g1 (by decide)
  have hm10 : Mine w10.heap w6.heap.size zf 32 xp' ((zla D k).flatMap Bl.zf3) := (h6.ext hx9 (by simp)).ext hx10 ne1
  have hm12 : Mine w12.heap w6.heap.size zf 32 xp' ((zla D k).flatMap Bl.zf3) := (hm10.ext hx11 (fun m hm h => by have := jc h6 m hm; simp at h; omega)).ext hx12 (fun m hm h => by have := (hxp' m hm).1; simp at h; omega)
  refine qj6 rfl hm12 (by omega) zad (by rw [zfi]; omega) fun xp2 w14 hm14 hx14 hs14 => ?_
  have hn14 := hx14.get hn12 (fun h => by have := jc h6 _ h; omega)
  refine zcd rfl hn14 (by simp [zdv]) fun w15 hw15 => ?_
  have hx15 : Ext [w2.heap.size] w14.heap w15.heap := by rw [hw15]; exact Ext.set _ (by simp)
  have s14 := hx14.1
  have s15 := hx15.1
  have hxAll : Ext (H.size :: w2.heap.size :: W2.heap.size :: (xu x' ++ xu xp')) W2.heap w15.heap := by
   refine (hx9.mono (by simp)).trans ((hx10.mono fun m hm => ?_).trans ((hx11.mono fun m hm => ?_).trans ((hx12.mono fun m hm => ?_).trans ((hx14.mono fun m hm => ?_).trans (hx15.mono fun m hm => ?_)))))
   ·simp [hm]
   ·simp at hm; simp [hm]
   ·simp at hm; simp [hm]
   ·simp [hm]
   ·simp at hm; simp [hm]
  have hxA : Ext (H.size :: w2.heap.size :: (xu x' ++ xu xp')) W2.heap w15.heap := ⟨hxAll.1, fun m hm hn => hxAll.2 m hm fun h => hn (by simp at h ⊢; rcases h with h | h | h | h <;> first | (exact .inl h) | (exact .inr (.inl h)) | omega | (exact .inr (.inr h)))⟩
  have hK : Keep (H.size :: w2.heap.size :: xu x) w6.heap.size W2.heap w15.heap := by
   refine .of hxA (fun m hm => ?_) (fun m hm => ?_)
   ·simp only [List.mem_cons, List.mem_append] at hm
    rcases hm with rfl | rfl | hm | hm
    ·left; simp
    ·left; simp
    ·rcases h5 m hm with h | h
     ·left; simp [h]
     ·right; exact ⟨h, (x'lt m hm).2⟩
    ·right; exact ⟨jc h6 m hm, (hxp' m hm).2⟩
   ·simp only [List.mem_cons] at hm
    rcases hm with rfl | rfl | hm
    ·omega
    ·omega
    ·have := (hxlt m hm).1; omega
  have hB15 : zau w15.heap B x2 ((Ls ++ zaw D k) ++ [zco D k]) := by
   obtain ⟨ys, g1, g2, g3⟩ := hB10
   have stay : ∀ {T : TypeId} {x : Option Addr × Nat × Nat} {vs : List Value}, Mine w10.heap B T 1 x vs → T ≠ jg → T ≠ zf → T ≠ zi → Mine w15.heap B T 1 x vs := by
    intro T x vs hm n1 n2 n3
    have a1 := hm.ext hx11 (fun m hm1 h => by
     simp at h; subst h
     rcases hm with ⟨rfl, _⟩ | ⟨b1, c1, hx1, _, hg1, _⟩
     ·simp [xu] at hm1
     ·simp [xu, hx1] at hm1; subst hm1
      rw [hl10] at hg1
      simp only [Option.some.injEq, Obj.cells.injEq] at hg1
      exact n1 hg1.2.1.symm)
    have a2 := a1.ext hx12 (fun m hm1 h => by
     simp at h; subst h
     rcases a1 with ⟨rfl, _⟩ | ⟨b1, c1, hx1, _, hg1, _⟩
     ·simp [xu] at hm1
     ·simp [xu, hx1] at hm1; subst hm1
      rw [hd11] at hg1
      simp only [Option.some.injEq, Obj.cells.injEq] at hg1
      exact n2 hg1.2.1.symm)
    have a3 := a2.ext hx14 (zg1 a2 hm12 n2)
    exact a3.ext hx15 (fun m hm1 h => by
     simp at h; subst h
     rcases a3 with ⟨rfl, _⟩ | ⟨b1, c1, hx1, _, hg1, _⟩
     ·simp [xu] at hm1
     ·simp [xu, hx1] at hm1; subst hm1
      rw [hn14] at hg1
      simp only [Option.some.injEq, Obj.cells.injEq] at hg1
      exact n3 hg1.2.1.symm)
   exact ⟨ys, stay g1 (by decide) (by decide) (by decide), g2, fun z hz => ⟨stay (g3 z hz).1 (by decide) (by decide) (by decide), (g3 z hz).2⟩⟩
  refine hkc w15 hK ⟨x2, xp2, ?_, by omega, ?_, ?_, ?_, ?_, fun m hm => ?_, ?_, ?_, by simp; omega⟩
  ·exact hK.ext h1 (by omega) (fun m hm h => by
    simp only [List.mem_cons] at h
    rcases h with rfl | rfl | h
    ·omega
    ·omega
    ·exact h)
  ·exact hx15.get (hx14.get (hx12.get hl11 (by simp; omega)) (fun h => by have := jc h6 _ h; omega)) (by simp; omega)
  ·rw [hw15, List.length_append, List.length_singleton, hk2]
   exact qm hn14
  ·exact hx15.get (hx14.get (keep12 (by omega) (by omega) (hHx' (by omega) (by omega)) h3d) (fun h => by have := jc h6 _ h; omega)) (by simp; omega)
  ·rw [List.length_append, List.length_singleton, hk2, zo1, ← List.append_assoc]
   exact hB15
  ·rcases hs10 m hm with h | h
   ·exact h5 m h
   ·right; omega
  ·rw [List.length_append, List.length_singleton, hk2, zx3]
   exact hm14.ext hx15 (fun m hm h => by
    simp at h; subst h
    have := jc hm14 _ hm; omega)
  ·refine h7.ext hxA fun a ha _ h => ?_
   have hab : a.block = w4.heap.size := by simpa [xu, ha] using hyo
   simp only [List.mem_cons, List.mem_append, hab] at h
   rcases h with h | h | h | h
   ·omega
   ·omega
   ·exact hHx' (by omega) (by omega) h
   ·have := jc h6 _ h; omega
 ·rintro xs W rfl ⟨x', xp', h1, h1s, h2, h3, h3d, h4, h5, h6, h7, h8⟩ hDf
  simp only [List.length_range] at h3 h4 h6
  refine jh (s := .slc) (t := x') rfl h2 rfl ?_
  refine jf rfl h3 rfl ?_
  have hlp : xp'.2.1 = npc D := by
   have := h6.len
   rw [qc Bl.zf3 Bl.zd8, zfi] at this
   omega
  have hNW : NodW W.heap (zb4 D (npc D)) xp' (none, 0, 0) := ⟨h6.cells, by rw [hlp]; exact zfi.symm, .inl rfl, rfl, zyi, by simp [zb4]⟩
  have lenk : (Ls ++ zaw D (npc D)).length ≤ 1073741824 := by simp [zaw]; omega
  have hH2 := h1.1
  refine zk (qft (n := zb4 D (npc D)) rfl h4 hB0 (by omega) hNW (qdf hD) (hS.ext h1 h0x) lenk (by have := zqq (D := D) (k := npc D) (by omega); omega)) ?_
  rintro e w17 ⟨x2, rfl, hB17, hx17, hs17⟩
  refine ⟨(x2, arr (zc7 D)), rfl, ?_⟩
  have x'lt := h4.lt
  have hHx' : ∀ {m : Nat}, H.size ≤ m → m < w6.heap.size → m ∉ xu x' := fun h h' hm => by
   rcases h5 _ hm with h2 | h2
   ·have := (hxlt _ h2).1; omega
   ·omega
  have hd17 := hx17.get h3d (hHx' (by omega) (by omega))
  refine z4k zad rfl hd17 zcD fun w18 hw18 => ?_
  have hx18 : Ext [w1.heap.size] w17.heap w18.heap := by rw [hw18]; exact Ext.set _ (by simp)
  have hd18 : w18.heap[w1.heap.size]? = some (.cells (byteCells (zc7 D)).toArray zf (0, 0)) := by rw [hw18]; exact qm hd17
  have hDx : w6.heap.size ∉ xu x' := fun h => by
   obtain ⟨_, c', T', fr', hc'⟩ := x'lt _ h
   rw [hDf] at hc'; cases hc'
  have hD18 : w18.heap[w6.heap.size]? = some (.deferred (some [])) := hx18.get (hx17.get hDf hDx) (by simp; omega)
  refine ⟨hD18, fun w19 hw19 => ?_⟩
  have hBs19 : Beside w6.heap.size w18 w19 := by rw [hw19]; exact .put (Nat.le_refl _) hD18 (by intro _ _ _ h; cases h)
  refine jf rfl (hBs19.cells hd18) (by simp [zc7, zad]) ?_
  have hB18 : zau w18.heap B x2 ((Ls ++ zaw D (npc D)) ++ [zgl (zb4 D (npc D))]) := by
   obtain ⟨ys, g1, g2, g3⟩ := hB17
   have stay : ∀ {T : TypeId} {x : Option Addr × Nat × Nat} {vs : List Value}, Mine w17.heap B T 1 x vs → T ≠ zf → Mine w18.heap B T 1 x vs := by
    intro T x vs hm n2
    exact hm.ext hx18 (fun m hm1 h => by
     simp at h; subst h
     rcases hm with ⟨rfl, _⟩ | ⟨b1, c1, hx1, _, hg1, _⟩
     ·simp [xu] at hm1
     ·simp [xu, hx1] at hm1; subst hm1
      rw [hd17] at hg1
      simp only [Option.some.injEq, Obj.cells.injEq] at hg1
      exact n2 hg1.2.1.symm)
   exact ⟨ys, stay g1 (by decide), g2, fun z hz => ⟨stay (g3 z hz).1 (by decide), (g3 z hz).2⟩⟩
  refine ⟨x2, rfl, ?_, ?_, fun m hm => ?_⟩
  ·have := hB18.beside hBs19
   rw [List.append_assoc] at this
   exact this
  ·have hx0 : Ext (xu x) H w17.heap := h1.own hx17 (fun m hm hlt => by
    rcases h5 m hm with h | h
    ·exact h
    ·omega)
   have hx0' : Ext (xu x) H w18.heap := hx0.own hx18 (fun m hm hlt => by simp at hm; omega)
   exact hBs19.ext (by omega) hx0'
  ·rcases hs17 m hm with h | h
   ·rcases h5 m h with h | h
    ·exact .inl h
    ·right; omega
   ·right; omega
end Go.Proofs.YtbmegmbnlajbbaaGreatDoor
