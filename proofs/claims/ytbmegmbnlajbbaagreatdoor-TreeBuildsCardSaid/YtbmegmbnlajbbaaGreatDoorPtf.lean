/- Part 6 of the texts below the card, joined. -/
import Derived.Test.YtbmegmbnlajbbaaGreatDoorPte
import Derived.Test.YtbmegmbnlajbbaaGreatDoorPtc
namespace Go.Proofs.YtbmegmbnlajbbaaGreatDoor
open Go Go.Fw Go.Proofs
theorem zau.keep {H H' : Heap} {B : Nat} {x : Option Addr × Nat × Nat} {Ls : List (List UInt8)} {M : List Nat} (h : zau H B x Ls) (hx : Ext M H H') (hM : ∀ m ∈ M, ∀ c T fr, H[m]? = some (.cells c T fr) → T ≠ zh ∧ T ≠ qy) : zau H' B x Ls := by
 obtain ⟨ys, g1, g2, g3⟩ := h
 have stay : ∀ {T : TypeId} {x : Option Addr × Nat × Nat} {vs : List Value}, Mine H B T 1 x vs → (T = zh ∨ T = qy) → Mine H' B T 1 x vs := by
  intro T x vs hm hT
  exact hm.ext hx (fun m hm1 h => by
   rcases hm with ⟨rfl, _⟩ | ⟨b1, c1, hx1, _, hg1, _⟩
   ·simp [xu] at hm1
   ·simp [xu, hx1] at hm1; subst hm1
    have := hM _ h _ _ _ hg1
    rcases hT with rfl | rfl
    ·exact this.1 rfl
    ·exact this.2 rfl)
 exact ⟨ys, stay g1 (.inl rfl), g2, fun z hz => ⟨stay (g3 z hz).1 (.inr rfl), (g3 z hz).2⟩⟩
theorem qda {D : List UInt8} {k : Nat} (hk : k ≤ 65536) : SmallN (zb4 D k) := ⟨by simp [zb4], by simp [zb4, zfi, hk], by simp [zb4], by simp [zb4]⟩
theorem qaa {D : List UInt8} {j : Nat} : SmallN (zlh (zka D j)) := by
 have := zp7 (D := D) (j := j)
 exact ⟨by simp only [zlh]; omega, by simp [zlh], by simp [zlh], by simp [zlh]⟩
theorem z7c {w : World} {H : Heap} {B : Nat} {x : Option Addr × Nat × Nat} {ds : List (List UInt8)} {k : List UInt8} {Q : World → Prop} (hw : w.heap = H) (hm : Mine H B zf 32 x (ds.flatMap Bl.zf3)) (hBs : B ≤ H.size) (hk : k.length = 32) (hlen : ds.length ≤ 1073741824) (hQ : ∀ w', Ext [] H w'.heap → Q w') {K : (Option Addr × Nat × Nat) → World → Prop}
  (hK : ∀ x' w', Mine w'.heap B zf 32 x' ((ds ++ [k]).flatMap Bl.zf3) → Ext (xu x) H w'.heap → (∀ c ∈ xu x', c ∈ xu x ∨ H.size ≤ c) → K x' w') :
  zan P (Instr.buildSlice jy 1 #[(0, arr k)]) .slc w fun (t27 : (Option Addr × Nat × Nat)) w_13 => Q w_13 ∧
  zan P (Builtin.append_ #[jy, jy] jy #[(Value.slice x.1 x.2.1 x.2.2), (Value.slice t27.1 t27.2.1 t27.2.2)]) .slc w_13 K := by
 have hlx : x.2.1 = ds.length := by
  have := hm.len
  rw [qc Bl.zf3 Bl.zd8] at this
  omega
 have hc1 : (arr k).cells = (Bl.zf3 k).toArray := by rw [Bl.zgy hk]; rfl
 refine zai (s := .slc) (some ⟨w.heap.size, 0, none⟩, 1, 1) _ (zdy ED Bl.qkg (v := arr k) (by rw [Bl.za3, hk]) (by omega) (by omega)) ?_
 subst hw
 have hxp : Ext [] w.heap (w.heap.push (.cells (arr k).cells zf)) := .push _
 refine ⟨hQ _ hxp, ?_⟩
 refine zcr (bts := 32) (n := 1) (us := Bl.zf3 k) (H := w.heap.push (.cells (arr k).cells zf)) ED (by omega) Bl.qkg (za6 Bl.qkg) rfl (hm.ext hxp (by simp)) (by simp; omega)
  (Src.slc rfl (.inr ⟨w.heap.size, 0, _, _, _, rfl, zn, by rw [hc1]; simp, by rw [hc1, Nat.zero_add]; simp⟩) (by rw [Bl.zd8])) Bl.zyc (by omega) ?_
 intro x' w4 hm4 hl4 hx4 hs4
 refine hK x' w4 (by rw [List.flatMap_append, List.flatMap_singleton]; exact hm4) ((hxp.mono (by simp)).trans hx4) (fun c hc => ?_)
 rcases hs4 c hc with h | h
 ·exact .inl h
 ·right; have := hxp.1; omega
set_option maxHeartbeats 16000000 in
theorem qf5 {w : World} {H : Heap} {B : Nat} {x : Option Addr × Nat × Nat} {Ls : List (List UInt8)} {D : List UInt8} (hw : w.heap = H) (hB : zau H B x Ls) (hBs : B ≤ H.size) (hlen : Ls.length ≤ 536870912) (hD : D.length ≤ 100000) :
  qg P zp8 #[.slice x.1 x.2.1 x.2.2, .string (strOf D)] w fun e w' => ∃ x', e = .returned (.tuple #[zc9 x', arr (zc7 D)]) ∧ zau w'.heap B x' (Ls ++ ze5 D) ∧ Ext (xu x) H w'.heap ∧ ∀ c ∈ xu x', c ∈ xu x ∨ H.size ≤ c := by
 have hnp : npc D ≤ 2000 := by unfold npc; omega
 have hxlt := hB.lt
 refine z98 ?_
 unfold zum
 refine jw hw fun w1 hw1 => ?_
 have hx1 : Ext [] H w1.heap := by rw [hw1]; exact .push _
 have hd1 : w1.heap[H.size]? = some (.cells (zc P zf) zf (0, 0)) := by rw [hw1]; exact zn
 refine xg (s := .any) (.agg (zdv (zb4 D 0) (none, 0, 0) (none, 0, 0)).toArray) (by rw [jm]; exact bN2 _ _) ?_
 refine qg2 (zb4 D 0) _ _ rfl fun w3 hw3 => ?_
 have hx3 : Ext [] w1.heap w3.heap := by rw [hw3]; exact .push _
 have hn3 : w3.heap[w1.heap.size]? = some (.cells (zdv (zb4 D 0) (none, 0, 0) (none, 0, 0)).toArray zi (0, 0)) := by rw [hw3]; exact zn
 have hx03 := hx1.trans hx3
 have s1 : H.size < w1.heap.size := lt_of_get hd1
 have s3 : w1.heap.size < w3.heap.size := lt_of_get hn3
 have hd3 := hx3.get hd1 (by simp)
 refine jd (fun (s : (Option Addr × Nat × Nat) × Int) W => ∃ (k : Nat) (xp' : Option Addr × Nat × Nat), s.2 = ((64 * k : Nat) : Int) ∧ k ≤ npc D ∧ Ext (xu x) H W.heap ∧ w3.heap.size ≤ W.heap.size ∧ W.heap[w1.heap.size]? = some (.cells (zdv (zb4 D k) xp' (none, 0, 0)).toArray zi (0, 0)) ∧
   W.heap[H.size]? = some (.cells (zc P zf) zf (0, 0)) ∧ zau W.heap B s.1 (Ls ++ zaw D k) ∧ (∀ c ∈ xu s.1, c ∈ xu x ∨ w3.heap.size ≤ c) ∧ Mine W.heap w3.heap.size zf 32 xp' ((zla D k).flatMap Bl.zf3)) (fun s _ => (64 * npc D + 64 - s.2).toNat)
  ⟨0, (none, 0, 0), rfl, Nat.zero_le _, hx03.mono (by simp), Nat.le_refl _, hn3, hd3, by simpa [zaw] using hB.ext hx03 (by simp), fun c hc => .inl hc, .inl ⟨rfl, by simp [zla]⟩⟩ ?_
 rintro ⟨x', _⟩ W ⟨k, xp', rfl, hk, h1, h1s, h3, h3d, h4, h5, h6⟩
 have x'lt := h4.lt
 have hHx' : ∀ {m : Nat}, H.size ≤ m → m < w3.heap.size → m ∉ xu x' := fun h h' hm => by
  rcases h5 _ hm with h2 | h2
  ·have := (hxlt _ h2).1; omega
  ·omega
 have lenk : (Ls ++ zaw D k).length ≤ 1073741824 := by simp [zaw]; omega
 have hH2 := h1.1
 refine zq (fun hlt => ?_) (fun hge => ?_)
 ·have hk' : k < npc D := zvq.2 (by simp only [jm] at hlt; omega)
  have hk64 := zvq.1 hk'
  refine xw ((64 * k + 64 : Nat) : Int) (by simp) (by omega) (by omega) ?_
  refine xg (s := .int .i64) ((64 * k + min 64 (D.length - 64 * k) : Nat) : Int) (by
   rw [run_min_int2]; congr 2
   have hsz : (strOf D).size = D.length := jm
   by_cases h : ((64 * k + 64 : Nat) : Int) < ((strOf D).size : Int)
   ·rw [if_pos h]; omega
   ·rw [if_neg h]; omega) ?_
  refine xg (s := .str) _ (zy1 (h := 64 * k + min 64 (D.length - 64 * k)) z3o (.yes rfl) (.yes rfl) (by omega) (by omega)) ?_
  have hpc : (D.take (64 * k + min 64 (D.length - 64 * k))).drop (64 * k) = zka D k := by
   unfold zka
   rw [List.drop_take, Nat.add_sub_cancel_left]
   by_cases h64 : 64 ≤ D.length - 64 * k
   ·rw [Nat.min_eq_left h64]
   ·rw [Nat.min_eq_right (by omega), List.take_of_length_le (by simp), List.take_of_length_le (by simp; omega)]
  rw [hpc]
  refine xg (s := .any) (.agg (zdv (zlh (zka D k)) (none, 0, 0) (none, 0, 0)).toArray) (bN1 _ _) ?_
  refine zk (zuh (n := zlh (zka D k)) rfl (.bare rfl rfl) qaa) ?_
  rintro e w5 ⟨y, rfl, hm5, hx5⟩
  refine ⟨y, rfl, ?_⟩
  have hB5 := h4.ext hx5 (by simp)
  have s5 := hx5.1
  refine zwh rfl hB5 (by omega) (hm5.mono (by omega)) (fun b hb h => by have := jc hm5 b hb; have := (x'lt b h).1; omega) lenk fun x7 w7 hB7 hx7 hs7 => ?_
  refine vg rfl fun w8 hw8 => ?_
  have hx78 : Ext [] w7.heap w8.heap := by rw [hw8]; exact .refl _ _
  have hx8 : Ext (xu x') W.heap w8.heap := ((hx5.mono (by simp)).trans hx7).trans (hx78.mono (by simp))
  have hn8 := hx8.get h3 (hHx' (by omega) (by omega))
  refine jh (s := .slc) (t := xp') rfl hn8 rfl ?_
  have hm8 := (hm5.ext hx7 (fun b hb h => by have := jc hm5 b hb; have := (x'lt b h).1; omega)).ext hx78 (by simp)
  have hyl : y.2.1 = (zco D k).length := by have := hm5.len; simp at this; unfold zco; omega
  have hcl := znp (D := D) (j := k)
  refine zk (Bl.zsm rfl hm8.cells hyl (by unfold zco at hcl; omega)) ?_
  rintro e w9 ⟨rfl, hx9⟩
  refine ⟨arr (Sha.sum (zco D k)), rfl, ?_⟩
  have hn9 := hx9.get hn8 (by simp)
  refine ⟨jh (s := .slc) (t := xp') rfl hn9 rfl rfl, ?_⟩
  have hx9' : Ext (xu x') W.heap w9.heap := hx8.trans (hx9.mono (by simp))
  have ne1 : ∀ m ∈ xu xp', m ∉ xu x' := by
   obtain ⟨ys, g1, _⟩ := h4
   exact zg1 h6 g1 (by decide)
  have hm9 := h6.ext hx9' ne1
  have s9 := hx9'.1
  refine z7c rfl hm9 (by omega) zad (by rw [zfi]; omega) (fun w10 hx10 => jh (s := .slc) (o := 3) (t := xp') (K := fun z => Value.slice z.1 z.2.1 z.2.2 = Value.slice xp'.1 xp'.2.1 xp'.2.2) rfl (hx10.get hn9 (by simp)) rfl rfl) fun xp2 w11 hm11 hx11 hs11 => ?_
  have hn11 := hx11.get hn9 (fun h => by have := jc h6 _ h; omega)
  refine zcd rfl hn11 (by simp [zdv]) fun w12 hw12 => ?_
  have hx12 : Ext [w1.heap.size] w11.heap w12.heap := by rw [hw12]; exact Ext.set _ (by simp)
  have hB9 : zau w9.heap B x7 ((Ls ++ zaw D k) ++ [zco D k]) := (hB7.ext hx78 (by simp)).ext hx9 (by simp)
  have hm9' := za7 hm9
  have hB11 : zau w11.heap B x7 ((Ls ++ zaw D k) ++ [zco D k]) := hB9.keep hx11 (fun m hm c T fr hc => by
   rcases hm9 with ⟨h, _⟩ | ⟨b', c2, hx1', _, hg, _⟩
   ·rw [h] at hm; simp [xu] at hm
   ·simp [xu, hx1'] at hm; subst hm
    rw [hc] at hg
    simp only [Option.some.injEq, Obj.cells.injEq] at hg
    rw [hg.2.1]; exact ⟨by decide, by decide⟩)
  have hB12 : zau w12.heap B x7 ((Ls ++ zaw D k) ++ [zco D k]) := hB11.keep hx12 (fun m hm c T fr hc => by
   simp at hm; subst hm
   rw [hc] at hn11
   simp only [Option.some.injEq, Obj.cells.injEq] at hn11
   rw [hn11.2.1]; exact ⟨by decide, by decide⟩)
  have s11 := hx11.1
  have s12 := hx12.1
  refine xw ((64 * (k + 1) : Nat) : Int) (by simp only; omega) (by omega) (by omega) ?_
  refine ⟨⟨k + 1, xp2, rfl, by omega, ?_, by omega, ?_, ?_, ?_, fun c hc => ?_, ?_⟩, by simp only; omega⟩
  ·have a1 : Ext (xu x) H w9.heap := h1.own hx9' (fun m hm hlt => by
    rcases h5 m hm with h | h
    ·exact h
    ·omega)
   have a2 : Ext (xu x) H w11.heap := a1.own hx11 (fun m hm hlt => by have := jc h6 m hm; omega)
   exact a2.own hx12 (fun m hm hlt => by simp at hm; omega)
  ·rw [hw12]; exact qm hn11
  ·exact hx12.get (hx11.get (hx9'.get h3d (hHx' (by omega) (by omega))) (fun h => by have := jc h6 _ h; omega)) (by simp; omega)
  ·rw [zo1, ← List.append_assoc]; exact hB12
  ·rcases hs7 c hc with h | h
   ·exact h5 c h
   ·right; omega
  ·rw [zx3]
   exact hm11.ext hx12 (fun m hm h => by simp at h; subst h; have := jc hm11 _ hm; omega)
 ·obtain rfl : k = npc D := by
   have : ¬ k < npc D := fun h => by have := zvq.1 h; simp only [jm] at hge; omega
   omega
  refine jf rfl h3 rfl ?_
  have hlp : xp'.2.1 = npc D := by
   have := h6.len
   rw [qc Bl.zf3 Bl.zd8, zfi] at this
   omega
  have hNW : NodW W.heap (zb4 D (npc D)) xp' (none, 0, 0) := ⟨h6.cells, by rw [hlp]; exact zfi.symm, .inl rfl, rfl, zyi, by simp [zb4]⟩
  refine zk (zuh (n := zb4 D (npc D)) rfl hNW (qda (by omega))) ?_
  rintro e w5 ⟨y, rfl, hm5, hx5⟩
  refine ⟨y, rfl, ?_⟩
  have hB5 := h4.ext hx5 (by simp)
  have s5 := hx5.1
  refine zwh rfl hB5 (by omega) (hm5.mono (by omega)) (fun b hb h => by have := jc hm5 b hb; have := (x'lt b h).1; omega) lenk fun x7 w7 hB7 hx7 hs7 => ?_
  have hx07 : Ext (xu x') W.heap w7.heap := (hx5.mono (by simp)).trans hx7
  have hm7 := hm5.ext hx7 (fun b hb h => by have := jc hm5 b hb; have := (x'lt b h).1; omega)
  have hyl : y.2.1 = (zgl (zb4 D (npc D))).length := by have := hm5.len; simp at this; omega
  have hfl := zqq (D := D) (k := npc D) (by omega)
  refine zk (Bl.zsm rfl hm7.cells hyl (by omega)) ?_
  rintro e w9 ⟨rfl, hx9⟩
  refine ⟨arr (zc7 D), rfl, ?_⟩
  have hd9 := hx9.get (hx07.get h3d (hHx' (by omega) (by omega))) (by simp)
  refine z4k zad rfl hd9 zcD fun w10 hw10 => ?_
  have hx10 : Ext [H.size] w9.heap w10.heap := by rw [hw10]; exact Ext.set _ (by simp)
  have hd10 : w10.heap[H.size]? = some (.cells (byteCells (zc7 D)).toArray zf (0, 0)) := by rw [hw10]; exact qm hd9
  refine jf rfl hd10 (by simp [zc7, zad]) ?_
  have hB10 : zau w10.heap B x7 ((Ls ++ zaw D (npc D)) ++ [zgl (zb4 D (npc D))]) := (hB7.ext hx9 (by simp)).keep hx10 (fun m hm c T fr hc => by
   simp at hm; subst hm
   rw [hc] at hd9
   simp only [Option.some.injEq, Obj.cells.injEq] at hd9
   rw [hd9.2.1]; exact ⟨by decide, by decide⟩)
  refine ⟨x7, rfl, ?_, ?_, fun m hm => ?_⟩
  ·rw [List.append_assoc] at hB10; exact hB10
  ·have a1 : Ext (xu x) H w7.heap := h1.own hx07 (fun m hm hlt => by
    rcases h5 m hm with h | h
    ·exact h
    ·omega)
   exact (a1.trans (hx9.mono (by simp))).own hx10 (fun m hm hlt => by simp at hm; omega)
  ·rcases hs7 m hm with h | h
   ·rcases h5 m h with h | h
    ·exact .inl h
    ·right; omega
   ·right; omega
open Go.Sort
structure Fil where
 path : List UInt8
 dir : Bool
 data : List UInt8
deriving DecidableEq, Inhabited
def zbo (f : Fil) : List Value := [.string (strOf f.path), .bool f.dir, .string (strOf f.data)]
theorem zb8 (f : Fil) : (zbo f).length = 3 := rfl
theorem zwg {f : Fil} : zcs (zbo f) := by
 intro v hv
 simp only [zbo, List.mem_cons, List.not_mem_nil, or_false] at hv
 rcases hv with rfl | rfl | rfl <;> rfl
def nm (f : Fil) : Path := (zbd f.path).1
theorem zk7 (f : Fil) : okP (nm f) := qht f.path
def clean (f : Fil) : Fil := ⟨vk (nm f), f.dir, f.data⟩
theorem z2q {f : Fil} : nm (clean f) = nm f := by unfold nm clean; rw [zvd (zk7 f)]; rfl
def z06 : List Fil → Fil → List Fil
 | [], f => [f]
 | g :: L, f => if zfy (nm g) (nm f) < 0 then g :: z06 L f else f :: g :: L
def zhs (L : List Fil) : List Fil := L.foldl z06 []
def zsn (L : List Fil) : Prop := L.Pairwise fun a b => zfy (nm a) (nm b) < 0
theorem zsq : ∀ (L : List Fil) (f : Fil), (z06 L f).Perm (f :: L)
 | [], f => .refl _
 | g :: L, f => by
  unfold z06
  split
  ·exact ((zsq L f).cons g).trans (.swap f g L)
  ·exact .refl _
theorem z4n : ∀ {L : List Fil} {f : Fil}, zsn L → (∀ g ∈ L, nm g ≠ nm f) → zsn (z06 L f)
 | [], f, _, _ => by simp [z06, zsn]
 | g :: L, f, h, hn => by
  obtain ⟨h1, h2⟩ := List.pairwise_cons.1 h
  unfold z06
  split
  ·rename_i hlt
   refine List.pairwise_cons.2 ⟨fun x hx => ?_, z4n h2 fun y hy => hn y (by simp [hy])⟩
   rcases List.mem_cons.1 ((zsq L f).mem_iff.1 hx) with rfl | hx
   ·exact hlt
   ·exact h1 x hx
  ·rename_i hge
   have hgt : zfy (nm f) (nm g) < 0 := by
    have h3 := zoo (p := nm f) (q := nm g)
    have h4 : zfy (nm g) (nm f) ≠ 0 := fun e => hn g (by simp) (znr.1 e)
    omega
   refine List.pairwise_cons.2 ⟨fun x hx => ?_, h⟩
   rcases List.mem_cons.1 hx with rfl | hx
   ·exact hgt
   ·exact zp1 hgt (h1 x hx)
theorem z8o : ∀ (L A : List Fil), zsn A → ((A ++ L).map nm).Nodup → (L.foldl z06 A).Perm (A ++ L) ∧ zsn (L.foldl z06 A)
 | [], A, hA, _ => by simp [hA]
 | f :: L, A, hA, hn => by
  have hfA : ∀ g ∈ A, nm g ≠ nm f := by
   intro g hg e
   rw [List.map_append, List.nodup_append] at hn
   exact hn.2.2 _ (List.mem_map.2 ⟨g, hg, rfl⟩) _ (List.mem_map.2 ⟨f, by simp, rfl⟩) e
  have hp := zsq A f
  have h1 : (z06 A f ++ L).Perm (A ++ f :: L) := (hp.append_right L).trans (List.perm_middle (a := f) (l₁ := A) (l₂ := L)).symm
  obtain ⟨g1, g2⟩ := z8o L (z06 A f) (z4n hA hfA) ((h1.map nm).nodup_iff.2 hn)
  exact ⟨g1.trans h1, g2⟩
theorem zh3 {L : List Fil} (hn : (L.map nm).Nodup) : (zhs L).Perm L ∧ zsn (zhs L) := by
 have := z8o L [] List.Pairwise.nil (by simpa using hn)
 simpa [zhs] using this
theorem z8s : ∀ {A B : List Fil}, zsn A → zsn B → A.Perm B → A = B
 | [], B, _, _, hp => by rw [hp.nil_eq]
 | a :: A, [], _, _, hp => by have := hp.length_eq; simp at this
 | a :: A, b :: B, hA, hB, hp => by
  obtain ⟨a1, a2⟩ := List.pairwise_cons.1 hA
  obtain ⟨b1, b2⟩ := List.pairwise_cons.1 hB
  have hab : a = b := by
   rcases List.mem_cons.1 (hp.mem_iff.1 (List.mem_cons_self (a := a) (l := A))) with h | h
   ·exact h
   ·rcases List.mem_cons.1 (hp.mem_iff.2 (List.mem_cons_self (a := b) (l := B))) with h' | h'
    ·exact h'.symm
    ·have h3 := b1 a h
     have h4 := a1 b h'
     have h5 := zoo (p := nm a) (q := nm b)
     omega
  subst hab
  rw [z8s a2 b2 ((List.perm_cons a).1 hp)]
def qbm (p : Path) (f : Fil) : Bool := decide (nm f ≠ [] ∧ (nm f).dropLast = p)
def kids (S : List Fil) (p : Path) : List Fil := S.filter (qbm p)
def zf9 (p : Path) : List UInt8 := p.getLast?.getD []
def zdu (T : List Itm) : Nod := ⟨3, [], 0, [], T⟩
def zhk (rec : Path → List (List UInt8) × List UInt8) (acc : List (List UInt8) × List Itm) (f : Fil) : List (List UInt8) × List Itm :=
 if f.dir then (acc.1 ++ (rec (nm f)).1, acc.2 ++ [⟨zf9 (nm f), 3, (rec (nm f)).2⟩]) else (acc.1 ++ ze5 f.data, acc.2 ++ [⟨zf9 (nm f), 2, zc7 f.data⟩])
def jk (rec : Path → List (List UInt8) × List UInt8) (K : List Fil) : List (List UInt8) × List Itm := K.foldl (zhk rec) ([], [])
def zca (S : List Fil) : Nat → Path → List (List UInt8) × List UInt8
 | 0, _ => ([], [])
 | n + 1, p => ((jk (zca S n) (kids S p)).1 ++ [zgl (zdu (jk (zca S n) (kids S p)).2)], Sha.sum (zgl (zdu (jk (zca S n) (kids S p)).2)))
theorem zvo {rec : Path → List (List UInt8) × List UInt8} {K : List Fil} {f : Fil} : jk rec (K ++ [f]) = zhk rec (jk rec K) f := by simp [jk]
theorem qdy {S : List Fil} {p : Path} : kids (S.map clean) p = (kids S p).map clean := by
 unfold kids
 rw [List.filter_map]
 congr 1
 apply List.filter_congr
 intro f _
 simp [qbm, z2q]
theorem z1y {rec : Path → List (List UInt8) × List UInt8} {K : List Fil} : jk rec (K.map clean) = jk rec K := by
 unfold jk
 rw [List.foldl_map]
 congr 1
 funext acc f
 simp only [zhk, z2q]
 rfl
theorem z1r {S : List Fil} : ∀ (n : Nat) (p : Path), zca (S.map clean) n p = zca S n p
 | 0, _ => rfl
 | n + 1, p => by
  have : zca (S.map clean) n = zca S n := funext (z1r n)
  simp only [zca, qdy, z1y, this]
def zhh (rec : Path → List (List UInt8) × List UInt8) (f : Fil) : Itm := if f.dir then ⟨zf9 (nm f), 3, (rec (nm f)).2⟩ else ⟨zf9 (nm f), 2, zc7 f.data⟩
def zov (rec : Path → List (List UInt8) × List UInt8) (f : Fil) : List (List UInt8) := if f.dir then (rec (nm f)).1 else ze5 f.data
theorem z2r {rec : Path → List (List UInt8) × List UInt8} : ∀ (K : List Fil) (acc : List (List UInt8) × List Itm), K.foldl (zhk rec) acc = (acc.1 ++ (K.map (zov rec)).flatten, acc.2 ++ K.map (zhh rec))
 | [], acc => by simp
 | f :: K, acc => by
  rw [List.foldl_cons, z2r K]
  unfold zhk zhh zov
  split <;> simp_all
theorem zfx {rec : Path → List (List UInt8) × List UInt8} {K : List Fil} : (jk rec K).2 = K.map (zhh rec) := by
 unfold jk; rw [z2r]; simp
theorem zii {rec : Path → List (List UInt8) × List UInt8} {K : List Fil} : (jk rec K).1 = (K.map (zov rec)).flatten := by
 unfold jk; rw [z2r]; simp
theorem zq1 {f : Fil} (h : nm f ≠ []) : nm f = (nm f).dropLast ++ [zf9 (nm f)] := by
 unfold zf9
 rw [List.getLast?_eq_some_getLast h]
 exact (List.dropLast_concat_getLast h).symm
theorem qfo {p : Path} {a b : List UInt8} : zfy (p ++ [a]) (p ++ [b]) = Lib.compareBytes a b := by
 rw [zpf (i := p.length) (by simp) (by simp) (by simp)]
 simp only [List.drop_left]
 unfold zfy
 have hr := zj1 (a := a) (b := b)
 split
 ·rfl
 ·rename_i h
  have h : Lib.compareBytes a b = 0 := by simpa using h
  rw [h]; rfl
theorem zf1 {S : List Fil} {p : Path} {f : Fil} (h : f ∈ kids S p) : f ∈ S ∧ nm f ≠ [] ∧ (nm f).dropLast = p := by
 obtain ⟨h1, h2⟩ := List.mem_filter.1 h
 exact ⟨h1, by simpa [qbm] using h2⟩
theorem qf4 {S : List Fil} (h : zsn S) {p : Path} : (kids S p).Pairwise fun a b => Lib.compareBytes (zf9 (nm a)) (zf9 (nm b)) < 0 := by
 have h1 : (kids S p).Pairwise fun a b => zfy (nm a) (nm b) < 0 := h.sublist List.filter_sublist
 refine h1.imp_of_mem fun {a b} ha hb hab => ?_
 obtain ⟨_, a1, a2⟩ := zf1 ha
 obtain ⟨_, b1, b2⟩ := zf1 hb
 rw [zq1 a1, zq1 b1, a2, b2, qfo] at hab
 exact hab
theorem z95 {f : Fil} (h : nm f ≠ []) : zd6 (zf9 (nm f)) = true := by
 have := (zk7 f).1
 refine this _ ?_
 unfold zf9
 rw [List.getLast?_eq_some_getLast h]
 exact List.getLast_mem h
theorem z0x {rec : Path → List (List UInt8) × List UInt8} : ∀ {K : List Fil} {last : List UInt8}, (K.Pairwise fun a b => Lib.compareBytes (zf9 (nm a)) (zf9 (nm b)) < 0) → (∀ f ∈ K, nm f ≠ []) → (∀ f, K.head? = some f → Lib.compareBytes last (zf9 (nm f)) < 0) → ztg last (K.map (zhh rec)) = true
 | [], _, _, _, _ => rfl
 | f :: K, last, h, hn, hl => by
  obtain ⟨h1, h2⟩ := List.pairwise_cons.1 h
  have hi : (zhh rec f).name = zf9 (nm f) ∧ ((zhh rec f).kind = 2 ∨ (zhh rec f).kind = 3) := by
   unfold zhh
   split
   ·exact ⟨rfl, .inr rfl⟩
   ·exact ⟨rfl, .inl rfl⟩
  rw [List.map_cons, ztg, hi.1]
  have ih := z0x (rec := rec) (K := K) (last := zf9 (nm f)) h2 (fun g hg => hn g (by simp [hg])) (fun g hg => h1 g (List.mem_of_mem_head? hg))
  simp only [Bool.and_eq_true, decide_eq_true_eq, Bool.or_eq_true]
  exact ⟨⟨⟨hl f rfl, z95 (hn f (by simp))⟩, hi.2⟩, ih⟩
theorem qeu {S : List Fil} (h : zsn S) {p : Path} {rec : Path → List (List UInt8) × List UInt8} (hm : (kids S p).length ≤ 64) : zdb (zdu ((kids S p).map (zhh rec))) = true := by
 unfold zdb zdu
 rw [if_neg (show ¬ ((3 : Int) = 1) by decide), if_neg (show ¬ ((3 : Int) = 2) by decide), if_pos rfl]
 simp only [List.length_nil, and_self, decide_true, Bool.true_and, zo6, Bool.and_eq_true, decide_eq_true_eq, List.length_map]
 refine ⟨z0x (qf4 h) (fun f hf => (zf1 hf).2.1) fun f hf => ?_, hm⟩
 have := zer.1 (z95 (zf1 (List.mem_of_mem_head? hf)).2.1)
 cases hl : zf9 (nm f) with
 | nil => exact absurd hl this.1.1
 | cons a b => simp [Lib.compareBytes]
theorem zga {S : List Fil} {n : Nat} {p : Path} : (zca S (n + 1) p).2.length = 32 := zad
def wt (S : List Fil) (p : Path) : Nat := (S.filter fun f => zcv (nm f) p).length
theorem zwy {p : Path} : zcv p p = true := within_iff.2 ⟨Nat.le_refl _, by simp⟩
theorem zlo {S : List Fil} {p : Fil → Bool} : ((S.map fun f => if p f then 1 else 0).sum) = (S.filter p).length := by
 induction S with
 | nil => rfl
 | cons f S ih =>
  rw [List.map_cons, List.sum_cons, ih, List.filter_cons]
  split <;> simp_all <;> omega
theorem qhb {α β : Type} (A : List α) (B : List β) (g : α → β → Nat) : (A.map fun a => (B.map fun b => g a b).sum).sum = (B.map fun b => (A.map fun a => g a b).sum).sum := by
 induction A with
 | nil => induction B with
  | nil => rfl
  | cons b B ih => simpa using ih
 | cons a A ih =>
  rw [List.map_cons, List.sum_cons, ih]
  clear ih
  induction B with
  | nil => simp
  | cons b B ih2 =>
   simp only [List.map_cons, List.sum_cons] at *
   omega
theorem qip {α : Type} {g g' : α → Nat} : ∀ {S : List α}, (∀ f ∈ S, g f ≤ g' f) → (S.map g).sum ≤ (S.map g').sum
 | [], _ => by simp
 | f :: S, h => by
  have h1 := h f (by simp)
  have h2 := qip (S := S) fun x hx => h x (by simp [hx])
  simp only [List.map_cons, List.sum_cons]
  omega
theorem qja {S : List Fil} (h : zsn S) {p : Path} : ((kids S p).map fun e => wt S (nm e)).sum ≤ (S.filter fun f => zcv (nm f) p && decide (p.length < (nm f).length)).length := by
 have e1 : ((kids S p).map fun e => wt S (nm e)) = (kids S p).map fun e => (S.map fun f => if zcv (nm f) (nm e) then 1 else 0).sum := by
  apply List.map_congr_left
  intro e _
  rw [zlo]; rfl
 rw [e1, qhb, ← zlo]
 have key : ∀ f ∈ S, ((kids S p).map fun e => if zcv (nm f) (nm e) then 1 else 0).sum ≤ (if zcv (nm f) p && decide (p.length < (nm f).length) then 1 else 0) := by
  intro f _
  rw [zlo]
  have huniq : ∀ {e}, e ∈ kids S p → zcv (nm f) (nm e) = true → nm e = (nm f).take (p.length + 1) ∧ p.length + 1 ≤ (nm f).length ∧ (nm f).take p.length = p := by
   intro e he hw
   obtain ⟨_, e1, e2⟩ := zf1 he
   obtain ⟨w1, w2⟩ := within_iff.1 hw
   have hl : (nm e).length = p.length + 1 := by
    have := congrArg List.length (zq1 e1)
    rw [e2] at this; simpa using this
   refine ⟨by rw [← hl, w2], by omega, ?_⟩
   have := congrArg (List.take p.length) w2
   rw [List.take_take, Nat.min_eq_left (by omega)] at this
   rw [this, zq1 e1, e2]
   simp
  have hle : ((kids S p).filter fun e => zcv (nm f) (nm e)).length ≤ 1 := by
   have hr : ((kids S p).filter fun e => zcv (nm f) (nm e)).Pairwise fun a b => zfy (nm a) (nm b) < 0 := (h.sublist List.filter_sublist).sublist List.filter_sublist
   match hm : (kids S p).filter fun e => zcv (nm f) (nm e) with
   | [] => simp
   | [_] => simp
   | a :: b :: r =>
    exfalso
    rw [hm] at hr
    have hab := (List.pairwise_cons.1 hr).1 b (by simp)
    have ha : a ∈ (kids S p).filter fun e => zcv (nm f) (nm e) := by rw [hm]; simp
    have hb : b ∈ (kids S p).filter fun e => zcv (nm f) (nm e) := by rw [hm]; simp
    obtain ⟨a1, a2⟩ := List.mem_filter.1 ha
    obtain ⟨b1, b2⟩ := List.mem_filter.1 hb
    rw [(huniq a1 a2).1, (huniq b1 b2).1, znr.2 rfl] at hab
    omega
  split
  ·exact hle
  ·rename_i hno
   rw [Nat.le_zero, List.length_eq_zero_iff, List.filter_eq_nil_iff]
   intro e he hw
   obtain ⟨u1, u2, u3⟩ := huniq he hw
   apply hno
   simp only [Bool.and_eq_true, decide_eq_true_eq]
   exact ⟨within_iff.2 ⟨by omega, u3⟩, by omega⟩
 exact qip key
theorem zn5 {D : List UInt8} (h : D.length ≤ 1024) : (ze5 D).length ≤ 17 := by
 simp [ze5, zaw, npc]; omega
theorem qbs {S : List Fil} (h : zsn S) (hd : ∀ f ∈ S, f.data.length ≤ 1024) : ∀ (n : Nat) (p : Path), (zca S n p).1.length ≤ 1 + 18 * (S.filter fun f => zcv (nm f) p && decide (p.length < (nm f).length)).length
 | 0, p => by simp [zca]
 | n + 1, p => by
  have h1 := qja h (p := p)
  have ih := qbs h hd n
  have key : ∀ K : List Fil, (∀ e ∈ K, e ∈ S) → ((K.map (zov (zca S n))).flatten).length ≤ 18 * (K.map fun e => wt S (nm e)).sum := by
   intro K
   induction K with
   | nil => intro _; simp
   | cons e K ihK =>
    intro hK
    have h2 := ihK fun x hx => hK x (by simp [hx])
    have heS := hK e (by simp)
    have h3 : (zov (zca S n) e).length ≤ 18 * wt S (nm e) := by
     have hpos : 1 ≤ wt S (nm e) := List.length_pos_iff.2 (List.ne_nil_of_mem (List.mem_filter.2 ⟨heS, zwy⟩))
     unfold zov
     split
     ·have h4 := ih (nm e)
      have h5 : (S.filter fun f => zcv (nm f) (nm e) && decide ((nm e).length < (nm f).length)).length + 1 ≤ wt S (nm e) := by
       unfold wt
       have : (S.filter fun f => zcv (nm f) (nm e) && decide ((nm e).length < (nm f).length)) = (S.filter fun f => zcv (nm f) (nm e)).filter fun f => decide ((nm e).length < (nm f).length) := by
        rw [List.filter_filter]
        congr 1
        funext f
        rw [Bool.and_comm]
       rw [this]
       refine List.length_filter_lt_length_iff_exists.2 ⟨e, List.mem_filter.2 ⟨heS, zwy⟩, by simp⟩
      omega
     ·have := zn5 (hd e heS)
      omega
    simp only [List.map_cons, List.flatten_cons, List.length_append, List.sum_cons]
    omega
  have h6 := key (kids S p) fun e he => (zf1 he).1
  rw [zca, zii]
  simp only [List.length_append, List.length_singleton]
  omega
theorem uST : P.underlying zah = some (.slice qj) := by kernel_rfl
theorem bT2 (s : ByteArray) (w : World) : (Instr.build qj #[(0, .string s), (1, .int .i64 2)]).run P w = .ok (.agg ([Value.string s, Value.int .i64 2] ++ byteCells (List.replicate 32 0)).toArray) w := by kernel_rfl
theorem ET : Elem P qj 34 56 := zmn (z := .agg ([Value.string .empty, Value.int .i64 0] ++ byteCells (List.replicate 32 0)).toArray) (by kernel_rfl) rfl
theorem qex {w : World} {H : Heap} {B : Nat} {x : Option Addr × Nat × Nat} {T : List Itm} {i : Itm} (hw : w.heap = H) (hm : Mine H B qj 34 x (T.flatMap zfk)) (hBs : B ≤ H.size) (hlen : T.length ≤ 1073741824) {K : (Option Addr × Nat × Nat) → World → Prop}
  (hK : ∀ x' w', Mine w'.heap B qj 34 x' ((T ++ [i]).flatMap zfk) → Ext (xu x) H w'.heap → (∀ c ∈ xu x', c ∈ xu x ∨ H.size ≤ c) → K x' w') :
  zan P (Instr.buildSlice zah 1 #[(0, .agg (zfk i).toArray)]) .slc w fun (t27 : (Option Addr × Nat × Nat)) w_13 =>
  zan P (Builtin.append_ #[zah, zah] zah #[(Value.slice x.1 x.2.1 x.2.2), (Value.slice t27.1 t27.2.1 t27.2.2)]) .slc w_13 K := by
 have hlx : x.2.1 = T.length := by
  have := hm.len
  rw [qc zfk zay] at this
  omega
 refine zai (s := .slc) (some ⟨w.heap.size, 0, none⟩, 1, 1) _ (zdy ET uST (v := .agg (zfk i).toArray) (by simp [Value.cells, zay]) (by omega) (by omega)) ?_
 subst hw
 have hxp : Ext [] w.heap (w.heap.push (.cells (Value.agg (zfk i).toArray).cells qj)) := .push _
 refine zcr (bts := 56) (n := 1) (us := zfk i) (H := w.heap.push (.cells (Value.agg (zfk i).toArray).cells qj)) ET (by omega) uST (za6 uST) rfl (hm.ext hxp (by simp)) (by simp; omega)
  (Src.slc rfl (.inr ⟨w.heap.size, 0, _, _, _, rfl, zn, by simp [zin], by simp [zin, List.take_of_length_le]⟩) (by rw [zay])) z3m (by omega) ?_
 intro x' w4 hm4 hl4 hx4 hs4
 refine hK x' w4 (by rw [List.flatMap_append, List.flatMap_singleton]; exact hm4) ((hxp.mono (by simp)).trans hx4) (fun c hc => ?_)
 rcases hs4 c hc with h | h
 ·exact .inl h
 ·right; have := hxp.1; omega
theorem qb5 {n s : List UInt8} {k k' : Int} : (zfk ⟨n, k, s⟩).toArray.setIfInBounds 1 (.int .i64 k') = (zfk ⟨n, k', s⟩).toArray := by
 simp [zfk]
theorem z1u {n s s' : List UInt8} {k : Int} (hs' : s'.length = 32) : setCells (zfk ⟨n, k, s⟩).toArray 2 (byteCells s') = (zfk ⟨n, k, s'⟩).toArray := by
 apply Array.ext_getElem?
 intro i
 rw [zgj (by simp [zay, hs'])]
 simp only [je, hs']
 by_cases h : 2 ≤ i ∧ i < 2 + 32
 ·rw [if_pos h]
  obtain ⟨j, rfl⟩ : ∃ j, i = j + 2 := ⟨i - 2, by omega⟩
  simp only [List.getElem?_toArray, zfk, Bl.zgy hs', List.getElem?_cons_succ, Nat.add_sub_cancel]
 ·rw [if_neg h]
  simp only [List.getElem?_toArray]
  by_cases h2 : i < 2
  ·match i, h2 with
   | 0, _ => rfl
   | 1, _ => rfl
  ·rw [List.getElem?_eq_none (by rw [zay]; omega), List.getElem?_eq_none (by rw [zay]; omega)]
theorem zoa {p : Path} {f : Fil} : qbm p f = true ↔ (nm f).length = p.length + 1 ∧ zcv (nm f) p = true := by
 unfold qbm
 rw [decide_eq_true_eq, within_iff]
 constructor
 ·rintro ⟨h1, h2⟩
  have hl : (nm f).length = p.length + 1 := by
   have := congrArg List.length (zq1 h1)
   rw [h2] at this; simpa using this
  exact ⟨hl, by omega, by rw [← h2, List.dropLast_eq_take]; congr 1; simp⟩
 ·rintro ⟨h1, h2, h3⟩
  refine ⟨by intro h; rw [h] at h1; simp at h1, ?_⟩
  rw [List.dropLast_eq_take, h1, Nat.add_sub_cancel, h3]
theorem z6k {S : List Fil} {p : Path} {i : Nat} {f : Fil} (h : S[i]? = some f) : kids (S.take (i + 1)) p = if qbm p f then kids (S.take i) p ++ [f] else kids (S.take i) p := by
 unfold kids
 rw [List.take_add_one, h, List.filter_append]
 cases hk : qbm p f <;> simp [hk]
theorem z1b {rec : Path → List (List UInt8) × List UInt8} {S : List Fil} {p : Path} {i : Nat} : (jk rec (kids (S.take i) p)).1.length ≤ (jk rec (kids S p)).1.length := by
 have h : kids S p = kids (S.take i) p ++ kids (S.drop i) p := by
  unfold kids; rw [← List.filter_append, List.take_append_drop]
 rw [h, zii, zii, List.map_append, List.flatten_append, List.length_append]
 omega
theorem zsk {S : List Fil} {p : Path} {i : Nat} : (kids (S.take i) p).length ≤ S.length := by
 have h1 : (kids (S.take i) p).length ≤ (S.take i).length := List.length_filter_le _ _
 have h2 : (S.take i).length ≤ S.length := by simp; omega
 omega
theorem z9n {rec : Path → List (List UInt8) × List UInt8} {K : List Fil} : (jk rec K).2.length = K.length := by rw [zfx]; simp
theorem qfk {S : List Fil} {p : Path} {n : Nat} (hn : p.length + (n + 1) = 9) {K : List Fil} (hK : ∀ f ∈ K, nm f ≠ [] ∧ (nm f).dropLast = p) : ∀ i ∈ (jk (zca S n) K).2, i.sum.length = 32 := by
 rw [zfx]
 intro i hi
 obtain ⟨f, hf, rfl⟩ := List.mem_map.1 hi
 obtain ⟨h1, h2⟩ := hK f hf
 unfold zhh
 split
 ·have h8 := (zk7 f).2
  have hl : (nm f).length = p.length + 1 := by
   have := congrArg List.length (zq1 h1)
   rw [h2] at this; simpa using this
  obtain ⟨m, rfl⟩ : ∃ m, n = m + 1 := ⟨n - 1, by omega⟩
  exact zga
 ·exact zad
theorem zw9 {rec : Path → List (List UInt8) × List UInt8} {K : List Fil} (hK : ∀ f ∈ K, nm f ≠ []) (hl : K.length ≤ 65536) : SmallN (zdu (jk rec K).2) := by
 refine ⟨by simp [zdu], by simp [zdu], by simp only [zdu]; rw [z9n]; exact hl, ?_⟩
 simp only [zdu]
 rw [zfx]
 intro i hi
 obtain ⟨f, hf, rfl⟩ := List.mem_map.1 hi
 have := (zer.1 (z95 (hK f hf))).1.2.1
 unfold zhh
 split <;> (simp only; omega)
theorem z4h {T : List Itm} (h : SmallN (zdu T)) (h32 : ∀ i ∈ T, i.sum.length = 32) : (zgl (zdu T)).length ≤ 10000000000 := by
 have u := @zd2 3
 have u2 := @zd2 (T.length : Int)
 have h1 := zth (l := T) h.names h32
 have h2 : T.length ≤ 65536 := h.items
 unfold zgl zdu
 rw [if_neg (show ¬ ((3 : Int) = 1) by decide), if_neg (show ¬ ((3 : Int) = 2) by decide)]
 simp only [List.length_append]
 omega
theorem last_at {f : Fil} (h : nm f ≠ []) : (nm f)[(nm f).length - 1]'(by have := List.length_pos_iff.2 h; omega) = zf9 (nm f) := by
 unfold zf9
 rw [List.getLast?_eq_some_getLast h, List.getLast_eq_getElem]
 rfl
theorem bN3 (w : World) : (Instr.build zi #[(0, .int .i64 3)]).run P w = .ok (.agg #[.int .i64 3, .string .empty, .int .i64 0, .slice none 0 0, .slice none 0 0]) w := by kernel_rfl
theorem zau.row {H : Heap} {B : Nat} {x : Option Addr × Nat × Nat} {Ls : List (List UInt8)} (h : zau H B x Ls) {B' : Nat} {T : TypeId} {sz : Nat} {y : Option Addr × Nat × Nat} {vs : List Value} (hm : Mine H B' T sz y vs) (hT : T ≠ zh) : ∀ b ∈ xu y, b ∉ xu x := by
 obtain ⟨ys, g1, _⟩ := h
 exact zg1 hm g1 hT
set_option maxHeartbeats 32000000 in
theorem qh0 (S : List Fil) (hd : ∀ f ∈ S, f.data.length ≤ 1024) (hSl : S.length ≤ 65536) : ∀ (n : Nat) {w : World} {H : Heap} {B BL BD : Nat} {x l d : Option Addr × Nat × Nat} {Ls : List (List UInt8)} {p : Path}, w.heap = H → zau H B x Ls → B ≤ H.size → Mine H BL zl 3 l (S.flatMap zbo) → Mine H BD qx 1 d (strRow p) →
  p.length + n = 9 → p.length ≤ 8 → Ls.length + (zca S n p).1.length ≤ 500000000 →
  qg P zom #[.slice x.1 x.2.1 x.2.2, .slice l.1 l.2.1 l.2.2, .slice d.1 d.2.1 d.2.2] w fun e w' => ∃ x', e = .returned (.tuple #[zc9 x', arr (zca S n p).2]) ∧ zau w'.heap B x' (Ls ++ (zca S n p).1) ∧ Ext (xu x) H w'.heap ∧ ∀ c ∈ xu x', c ∈ xu x ∨ H.size ≤ c := by
 intro n
 induction n with
 | zero =>
  intro w H B BL BD x l d Ls p _ _ _ _ _ hn hp8 _
  omega
 | succ n ih =>
 intro w H B BL BD x l d Ls p hw hB hBs hL hDr hn hp8 hlen
 have hll : l.2.1 = S.length := by have := hL.len; rw [qc zbo zb8] at this; omega
 have hdl : d.2.1 = p.length := by have := hDr.len; simp at this; omega
 have hxlt := hB.lt
 have hLlt := za7 hL
 have hDlt := za7 hDr
 refine z8i ?_
 unfold zrv
 refine jw hw fun w1 hw1 => ?_
 have hx1 : Ext [] H w1.heap := by rw [hw1]; exact .push _
 have hd1 : w1.heap[H.size]? = some (.cells (zc P zf) zf (0, 0)) := by rw [hw1]; exact zn
 refine xg (s := .any) (.agg (zdv (zdu []) (none, 0, 0) (none, 0, 0)).toArray) (bN3 _) ?_
 refine qg2 (zdu []) _ _ rfl fun w3 hw3 => ?_
 have hx3 : Ext [] w1.heap w3.heap := by rw [hw3]; exact .push _
 have hn3 : w3.heap[w1.heap.size]? = some (.cells (zdv (zdu []) (none, 0, 0) (none, 0, 0)).toArray zi (0, 0)) := by rw [hw3]; exact zn
 have hx03 := hx1.trans hx3
 have s1 : H.size < w1.heap.size := lt_of_get hd1
 have s3 : w1.heap.size < w3.heap.size := lt_of_get hn3
 have hd3 := hx3.get hd1 (by simp)
 refine jd (fun (s : (Option Addr × Nat × Nat) × Int) W => ∃ (i : Nat) (xi : Option Addr × Nat × Nat), s.2 = (i : Int) ∧ i ≤ S.length ∧ Ext (xu x) H W.heap ∧ w3.heap.size ≤ W.heap.size ∧ W.heap[w1.heap.size]? = some (.cells (zdv (zdu (jk (zca S n) (kids (S.take i) p)).2) (none, 0, 0) xi).toArray zi (0, 0)) ∧
   W.heap[H.size]? = some (.cells (zc P zf) zf (0, 0)) ∧ zau W.heap B s.1 (Ls ++ (jk (zca S n) (kids (S.take i) p)).1) ∧ (∀ c ∈ xu s.1, c ∈ xu x ∨ w3.heap.size ≤ c) ∧ Mine W.heap w3.heap.size qj 34 xi ((jk (zca S n) (kids (S.take i) p)).2.flatMap zfk)) (fun s _ => (S.length - s.2).toNat)
  ⟨0, (none, 0, 0), rfl, Nat.zero_le _, hx03.mono (by simp), Nat.le_refl _, by simpa [kids, jk] using hn3, hd3, by simpa [kids, jk] using hB.ext hx03 (by simp), fun c hc => .inl hc, .inl ⟨rfl, by simp [kids, jk]⟩⟩ ?_
 rintro ⟨x', _⟩ W ⟨i, xi, rfl, hi, h1, h1s, h3, h3d, h4, h5, h6⟩
 have x'lt := h4.lt
 have hHx' : ∀ {m : Nat}, H.size ≤ m → m < w3.heap.size → m ∉ xu x' := fun h h' hm => by
  rcases h5 _ hm with h2 | h2
  ·have := (hxlt _ h2).1; omega
  ·omega
 have hH2 := h1.1
 have hpre := z1b (rec := zca S n) (S := S) (p := p) (i := i)
 have htot : Ls.length + (jk (zca S n) (kids S p)).1.length + 1 ≤ 500000000 := by
  have := hlen
  simp only [zca, List.length_append, List.length_singleton] at this
  omega
 have hLW := hL.ext h1 (hB.row hL (by decide))
 have hDW := hDr.ext h1 (hB.row hDr (by decide))
 refine zq (fun hlt => ?_) (fun hge => ?_)
 ·have hil : i < S.length := by simp only at hlt; omega
  have hget := List.getElem?_eq_getElem hil
  have hmem : S[i] ∈ S := List.getElem_mem hil
  generalize S[i] = f at hget hmem
  have hkt := z6k (p := p) hget
  have hdf := hd f hmem
  refine joinP_of (fun s' W' => ∃ xi' : Option Addr × Nat × Nat, Ext (xu x) H W'.heap ∧ w3.heap.size ≤ W'.heap.size ∧ W'.heap[w1.heap.size]? = some (.cells (zdv (zdu (jk (zca S n) (kids (S.take (i + 1)) p)).2) (none, 0, 0) xi').toArray zi (0, 0)) ∧
   W'.heap[H.size]? = some (.cells (zc P zf) zf (0, 0)) ∧ zau W'.heap B s' (Ls ++ (jk (zca S n) (kids (S.take (i + 1)) p)).1) ∧ (∀ c ∈ xu s', c ∈ xu x ∨ w3.heap.size ≤ c) ∧ Mine W'.heap w3.heap.size qj 34 xi' ((jk (zca S n) (kids (S.take (i + 1)) p)).2.flatMap zfk)) ?_ ?_
  rotate_left
  ·rintro s' W' ⟨xi', g⟩
   refine xw ((i + 1 : Nat) : Int) (by simp) (by omega) (by omega) ?_
   exact ⟨⟨i + 1, xi', rfl, by omega, g⟩, by simp only; omega⟩
  refine Bl.zdf (i := i) zb8 (by omega) hLW.cells hll hget rfl fun b o c T fr _ hb hsz hc _ => ?_
  refine jh (s := .str) (t := strOf f.path) rfl hb (hc 0 (by omega)) ?_
  refine zk (z2e f.path rfl) ?_
  rintro e w5 ⟨y, rfl, hm5, hx5⟩
  refine ⟨y, rfl, ?_⟩
  have hm5 : Mine w5.heap W.heap.size qx 1 y (strRow (nm f)) := hm5
  have hyl : y.2.1 = (nm f).length := by have := hm5.len; simp at this; omega
  have h8 := (zk7 f).2
  have skip : qbm p f = false → ∀ {W' : World}, Ext [] W.heap W'.heap → ∃ xi' : Option Addr × Nat × Nat, Ext (xu x) H W'.heap ∧ w3.heap.size ≤ W'.heap.size ∧ W'.heap[w1.heap.size]? = some (.cells (zdv (zdu (jk (zca S n) (kids (S.take (i + 1)) p)).2) (none, 0, 0) xi').toArray zi (0, 0)) ∧
   W'.heap[H.size]? = some (.cells (zc P zf) zf (0, 0)) ∧ zau W'.heap B x' (Ls ++ (jk (zca S n) (kids (S.take (i + 1)) p)).1) ∧ (∀ c ∈ xu x', c ∈ xu x ∨ w3.heap.size ≤ c) ∧ Mine W'.heap w3.heap.size qj 34 xi' ((jk (zca S n) (kids (S.take (i + 1)) p)).2.flatMap zfk) := by
   intro hk W' hx
   rw [hkt, hk]
   exact ⟨xi, h1.trans (hx.mono (by simp)), Nat.le_trans h1s hx.1, hx.get h3 (by simp), hx.get h3d (by simp), h4.ext hx (by simp), h5, h6.ext hx (by simp)⟩
  refine joinP_of (fun _ W' => W'.heap = w5.heap ∧ qbm p f = true) ?_ ?_
  ·refine xw ((p.length + 1 : Nat) : Int) (by omega) (by omega) (by omega) ?_
   refine zb5 (fun h => skip (by rw [← Bool.not_eq_true, zoa]; omega) hx5) (fun h => ?_)
   refine zk (z5x rfl hm5.cells hyl (hDW.ext hx5 (by simp)).cells hdl (by omega) (by omega)) ?_
   rintro e w6 ⟨rfl, hw6⟩
   refine ⟨zcv (nm f) p, rfl, ?_⟩
   cases hwi : zcv (nm f) p with
   | false => exact zaa rfl (skip (by rw [← Bool.not_eq_true, zoa, hwi]; simp) (by rw [hw6]; exact hx5))
   | true => exact jl rfl ⟨hw6, zoa.2 ⟨by omega, hwi⟩⟩
  rintro _ W7 ⟨hW7, hkid⟩
  rw [← hW7] at hx5 hm5
  rw [hkid, if_pos rfl] at hkt
  obtain ⟨hk1, hk2⟩ : nm f ≠ [] ∧ (nm f).dropLast = p := by simpa [qbm] using hkid
  have hkl := (zoa.1 hkid).1
  obtain ⟨m, rfl⟩ : ∃ m, n = m + 1 := ⟨n - 1, by omega⟩
  refine zbs ((y.2.1 - 1 : Nat) : Int) (by omega) (by omega) (by omega) ?_
  refine z0v (xs := nm f) (i := (nm f).length - 1) rfl hm5.cells hyl (by omega) (by omega) ?_
  rw [last_at hk1]
  refine xg (s := .any) (.agg (zfk ⟨zf9 (nm f), 2, List.replicate 32 0⟩).toArray) (by rw [zfk, Bl.zgy (by simp)]; exact bT2 _ _) ?_
  refine qlv ⟨zf9 (nm f), 2, List.replicate 32 0⟩ rfl fun w9 hw9 => ?_
  have hx79 : Ext [] W7.heap w9.heap := by rw [hw9]; exact .push _
  have hb9 : w9.heap[W7.heap.size]? = some (.cells (zfk ⟨zf9 (nm f), 2, List.replicate 32 0⟩).toArray qj (0, 0)) := by rw [hw9]; exact zn
  have hx9 := hx5.trans hx79
  have s7 := hx5.1
  have s79 : W7.heap.size < w9.heap.size := lt_of_get hb9
  have hstep : (jk (zca S (m + 1)) (kids (S.take (i + 1)) p)) = zhk (zca S (m + 1)) (jk (zca S (m + 1)) (kids (S.take i) p)) f := by rw [hkt, zvo]
  have hpre' := z1b (rec := zca S (m + 1)) (S := S) (p := p) (i := i + 1)
  have hBx9 := h4.ext hx9 (by simp)
  have hL9 := hLW.ext hx9 (by simp)
  refine joinP_of (fun s' W' => ∃ s32 : List UInt8, zhh (zca S (m + 1)) f = ⟨zf9 (nm f), if f.dir then 3 else 2, s32⟩ ∧ W'.heap[W7.heap.size]? = some (.cells (zfk (zhh (zca S (m + 1)) f)).toArray qj (0, 0)) ∧ zau W'.heap B s' (Ls ++ (jk (zca S (m + 1)) (kids (S.take (i + 1)) p)).1) ∧
   Ext (W7.heap.size :: xu x') w9.heap W'.heap ∧ (∀ c ∈ xu s', c ∈ xu x' ∨ w9.heap.size ≤ c)) ?_ ?_
  ·refine Bl.zdf (i := i) zb8 (by omega) hL9.cells hll hget rfl fun b2 o2 c2 T2 fr2 _ hb2 hsz2 hc2 _ => ?_
   simp only [jv]
   refine jh (s := .bool) (t := f.dir) rfl hb2 (hc2 1 (by omega)) ?_
   cases hfd : f.dir with
   | true =>
    refine zaa rfl ?_
    refine zcd rfl hb9 (by simp [zay]) fun w10 hw10 => ?_
    have hx10 : Ext [W7.heap.size] w9.heap w10.heap := by rw [hw10]; exact Ext.set _ (by simp)
    have hb10 : w10.heap[W7.heap.size]? = some (.cells (zfk ⟨zf9 (nm f), 3, List.replicate 32 0⟩).toArray qj (0, 0)) := by rw [hw10, ← qb5]; exact qm hb9
    have tag10 : ∀ m ∈ [W7.heap.size], ∀ c T fr, w9.heap[m]? = some (.cells c T fr) → T = qj := by
     intro m hm c T fr hc
     simp at hm; subst hm
     rw [hb9] at hc
     simp only [Option.some.injEq, Obj.cells.injEq] at hc
     exact hc.2.1.symm
    have hB10 := hBx9.keep hx10 (fun m hm c T fr hc => by rw [tag10 m hm c T fr hc]; exact ⟨by decide, by decide⟩)
    have s10 := hx10.1
    have hL10 := hL9.ext hx10 (fun b hb h => by simp at h; subst h; have := (hLlt _ hb).1; omega)
    have hm10 := (hm5.ext hx79 (by simp)).ext hx10 (fun b hb h => by simp at h; subst h; have := (za7 hm5 _ hb).1; omega)
    have hlen2 : (Ls ++ (jk (zca S (m + 1)) (kids (S.take i) p)).1).length + (zca S (m + 1) (nm f)).1.length ≤ 500000000 := by
     have h := hpre'
     rw [hstep] at h
     simp only [zhk, hfd, if_true, List.length_append] at h
     simp only [List.length_append]
     omega
    refine zk (ih rfl hB10 (by omega) hL10 hm10 (by omega) h8 hlen2) ?_
    rintro e w11 ⟨x2, rfl, hB11, hx11, hs11⟩
    refine ⟨(x2, arr (zca S (m + 1) (nm f)).2), rfl, ?_⟩
    refine qg0 zga rfl fun w12 hw12 => ?_
    have hx12 : Ext [] w11.heap w12.heap := by rw [hw12]; exact .push _
    have hd12 : w12.heap[w11.heap.size]? = some (.cells (byteCells (zca S (m + 1) (nm f)).2).toArray zf (0, 0)) := by rw [hw12]; exact zn
    refine jf rfl hd12 (by simp [zga]) ?_
    have hbx' : W7.heap.size ∉ xu x' := fun h => by have := (x'lt _ h).1; omega
    have hb12 := hx12.get (hx11.get hb10 hbx') (by simp)
    refine stD zga rfl hb12 (by simp [zay]) fun w13 hw13 => ?_
    rw [z1u zga] at hw13
    have hx13 : Ext [W7.heap.size] w12.heap w13.heap := by rw [hw13]; exact Ext.set _ (by simp)
    have hit : zhh (zca S (m + 1)) f = ⟨zf9 (nm f), 3, (zca S (m + 1) (nm f)).2⟩ := by unfold zhh; rw [hfd]; rfl
    refine ⟨(zca S (m + 1) (nm f)).2, by rw [hit]; simp, by rw [hw13, hit]; exact qm hb12, ?_, ?_, fun c hc => ?_⟩
    ·have hB13 := (hB11.ext hx12 (by simp)).keep hx13 (fun m' hm c T fr hc => by
      simp at hm; subst hm
      rw [hb12] at hc
      simp only [Option.some.injEq, Obj.cells.injEq] at hc
      rw [← hc.2.1]; exact ⟨by decide, by decide⟩)
     rw [hstep]
     simp only [zhk, hfd, if_true]
     rw [← List.append_assoc]; exact hB13
    ·exact ((hx10.mono (by simp)).trans (hx11.mono fun c hc => by simp [hc])).trans ((hx12.mono (by simp)).trans (hx13.mono (by simp)))
    ·rcases hs11 c hc with h | h
     ·exact .inl h
     ·right; omega
   | false =>
    refine jl rfl ?_
    refine Bl.zdf (i := i) zb8 (by omega) hL9.cells hll hget rfl fun b3 o3 c3 T3 fr3 _ hb3 hsz3 hc3 _ => ?_
    simp only [jv]
    refine jh (s := .str) (t := strOf f.data) rfl hb3 (hc3 2 (by omega)) ?_
    have hlen2 : (Ls ++ (jk (zca S (m + 1)) (kids (S.take i) p)).1).length ≤ 536870912 := by simp only [List.length_append]; omega
    refine zk (qf5 rfl hBx9 (by omega) hlen2 (by omega)) ?_
    rintro e w11 ⟨x2, rfl, hB11, hx11, hs11⟩
    refine ⟨(x2, arr (zc7 f.data)), rfl, ?_⟩
    have hfs : (zc7 f.data).length = 32 := zad
    refine qg0 hfs rfl fun w12 hw12 => ?_
    have hx12 : Ext [] w11.heap w12.heap := by rw [hw12]; exact .push _
    have hd12 : w12.heap[w11.heap.size]? = some (.cells (byteCells (zc7 f.data)).toArray zf (0, 0)) := by rw [hw12]; exact zn
    refine jf rfl hd12 (by simp [hfs]) ?_
    have hbx' : W7.heap.size ∉ xu x' := fun h => by have := (x'lt _ h).1; omega
    have hb12 := hx12.get (hx11.get hb9 hbx') (by simp)
    refine stD hfs rfl hb12 (by simp [zay]) fun w13 hw13 => ?_
    rw [z1u hfs] at hw13
    have hx13 : Ext [W7.heap.size] w12.heap w13.heap := by rw [hw13]; exact Ext.set _ (by simp)
    have hit : zhh (zca S (m + 1)) f = ⟨zf9 (nm f), 2, zc7 f.data⟩ := by unfold zhh; rw [hfd]; rfl
    refine ⟨zc7 f.data, by rw [hit]; simp, by rw [hw13, hit]; exact qm hb12, ?_, ?_, fun c hc => ?_⟩
    ·have hB13 := (hB11.ext hx12 (by simp)).keep hx13 (fun m' hm c T fr hc => by
      simp at hm; subst hm
      rw [hb12] at hc
      simp only [Option.some.injEq, Obj.cells.injEq] at hc
      rw [← hc.2.1]; exact ⟨by decide, by decide⟩)
     rw [hstep]
     simp only [zhk, hfd, Bool.false_eq_true, if_false]
     rw [← List.append_assoc]; exact hB13
    ·exact (hx11.mono fun c hc => by simp [hc]).trans ((hx12.mono (by simp)).trans (hx13.mono (by simp)))
    ·rcases hs11 c hc with h | h
     ·exact .inl h
     ·right; omega
  rintro x2 W19 ⟨s32, hit, hb19, hB19, hx19, hs19⟩
  have hni : w1.heap.size ∉ W7.heap.size :: xu x' := fun h => by
   rcases List.mem_cons.1 h with h | h
   ·omega
   ·exact hHx' (by omega) (by omega) h
  have hn19 := hx19.get (hx9.get h3 (by simp)) hni
  refine jh (s := .slc) (t := xi) rfl hn19 rfl ?_
  refine jf rfl hb19 (by simp [zay]) ?_
  have hm19 : Mine W19.heap w3.heap.size qj 34 xi ((jk (zca S (m + 1)) (kids (S.take i) p)).2.flatMap zfk) := (h6.ext hx9 (by simp)).ext hx19 (fun b hb h => by
   rcases List.mem_cons.1 h with h | h
   ·have := (za7 h6 b hb).1; omega
   ·exact h4.row h6 (by decide) b hb h)
  have s19 := hx19.1
  have hkl2 := zsk (S := S) (p := p) (i := i)
  refine qex (i := zhh (zca S (m + 1)) f) rfl hm19 (by omega) (by rw [z9n]; omega) fun xi2 w21 hm21 hx21 hs21 => ?_
  have hn21 := hx21.get hn19 (fun h => by have := jc h6 _ h; omega)
  refine zcd rfl hn21 (by simp [zdv]) fun w22 hw22 => ?_
  have hx22 : Ext [w1.heap.size] w21.heap w22.heap := by rw [hw22]; exact Ext.set _ (by simp)
  have s21 := hx21.1
  have s22 := hx22.1
  have hacc2 : (jk (zca S (m + 1)) (kids (S.take (i + 1)) p)).2 = (jk (zca S (m + 1)) (kids (S.take i) p)).2 ++ [zhh (zca S (m + 1)) f] := by
   rw [hkt, zfx, zfx, List.map_append]; rfl
  refine ⟨xi2, ?_, by omega, ?_, ?_, ?_, fun c hc => ?_, ?_⟩
  ·have a1 : Ext (xu x) H w9.heap := h1.trans (hx9.mono (by simp))
   have a2 : Ext (xu x) H W19.heap := a1.own hx19 (fun c hc hlt => by
    rcases List.mem_cons.1 hc with h | h
    ·omega
    ·rcases h5 c h with h | h
     ·exact h
     ·omega)
   have a3 : Ext (xu x) H w21.heap := a2.own hx21 (fun c hc hlt => by have := jc h6 c hc; omega)
   exact a3.own hx22 (fun c hc hlt => by simp at hc; omega)
  ·rw [hw22, hacc2]; exact qm hn21
  ·have hni2 : H.size ∉ W7.heap.size :: xu x' := fun h => by
    rcases List.mem_cons.1 h with h | h
    ·omega
    ·exact hHx' (by omega) (by omega) h
   exact hx22.get (hx21.get (hx19.get (hx9.get h3d (by simp)) hni2) (fun h => by have := jc h6 _ h; omega)) (by simp; omega)
  ·have hB21 := hB19.keep hx21 (fun m' hm c T fr hc => by
    rcases hm19 with ⟨h, _⟩ | ⟨b', c2, hx1', _, hg, _⟩
    ·rw [h] at hm; simp [xu] at hm
    ·simp [xu, hx1'] at hm; subst hm
     rw [hc] at hg
     simp only [Option.some.injEq, Obj.cells.injEq] at hg
     rw [hg.2.1]; exact ⟨by decide, by decide⟩)
   exact hB21.keep hx22 (fun m' hm c T fr hc => by
    simp at hm; subst hm
    rw [hn21] at hc
    simp only [Option.some.injEq, Obj.cells.injEq] at hc
    rw [← hc.2.1]; exact ⟨by decide, by decide⟩)
  ·rcases hs19 c hc with h | h
   ·exact h5 c h
   ·right; omega
  ·rw [hacc2]
   exact hm21.ext hx22 (fun b hb h => by simp at h; subst h; have := jc hm21 _ hb; omega)
 ·obtain rfl : i = S.length := by simp only at hge; omega
  rw [List.take_length] at h3 h4 h6 hpre
  have hkm : ∀ f ∈ kids S p, nm f ≠ [] ∧ (nm f).dropLast = p := fun f hf => (zf1 hf).2
  have hsm := zw9 (rec := zca S n) (fun f hf => (hkm f hf).1) (show (kids S p).length ≤ 65536 by have h := zsk (S := S) (p := p) (i := S.length); rw [List.take_length] at h; omega)
  have h32 := qfk (S := S) hn hkm
  refine jf rfl h3 rfl ?_
  have hli : xi.2.1 = (jk (zca S n) (kids S p)).2.length := by
   have := h6.len
   rw [qc zfk zay] at this
   omega
  have hNW : NodW W.heap (zdu (jk (zca S n) (kids S p)).2) (none, 0, 0) xi := ⟨.inl rfl, rfl, h6.cells, hli, by simp [zdu], h32⟩
  refine zk (zuh rfl hNW hsm) ?_
  rintro e w5 ⟨y, rfl, hm5, hx5⟩
  refine ⟨y, rfl, ?_⟩
  have hB5 := h4.ext hx5 (by simp)
  have s5 := hx5.1
  have hel := z4h hsm h32
  refine zwh rfl hB5 (by omega) (hm5.mono (by omega)) (fun b hb h => by have := jc hm5 b hb; have := (x'lt b h).1; omega) (by simp only [List.length_append]; omega) fun x7 w7 hB7 hx7 hs7 => ?_
  have hx07 : Ext (xu x') W.heap w7.heap := (hx5.mono (by simp)).trans hx7
  have hm7 := hm5.ext hx7 (fun b hb h => by have := jc hm5 b hb; have := (x'lt b h).1; omega)
  have hyl : y.2.1 = (zgl (zdu (jk (zca S n) (kids S p)).2)).length := by have := hm5.len; simp at this; omega
  refine zk (Bl.zsm rfl hm7.cells hyl (by omega)) ?_
  rintro e w9 ⟨rfl, hx9⟩
  refine ⟨arr (zca S (n + 1) p).2, rfl, ?_⟩
  have hd9 := hx9.get (hx07.get h3d (hHx' (by omega) (by omega))) (by simp)
  refine z4k zga rfl hd9 zcD fun w10 hw10 => ?_
  have hx10 : Ext [H.size] w9.heap w10.heap := by rw [hw10]; exact Ext.set _ (by simp)
  have hd10 : w10.heap[H.size]? = some (.cells (byteCells (zca S (n + 1) p).2).toArray zf (0, 0)) := by rw [hw10]; exact qm hd9
  refine jf rfl hd10 (by simp [zga]) ?_
  have hB10 := (hB7.ext hx9 (by simp)).keep hx10 (fun m hm c T fr hc => by
   simp at hm; subst hm
   rw [hc] at hd9
   simp only [Option.some.injEq, Obj.cells.injEq] at hd9
   rw [hd9.2.1]; exact ⟨by decide, by decide⟩)
  refine ⟨x7, rfl, ?_, ?_, fun c hc => ?_⟩
  ·rw [List.append_assoc] at hB10; exact hB10
  ·have a1 : Ext (xu x) H w7.heap := h1.own hx07 (fun c hc hlt => by
    rcases h5 c hc with h | h
    ·exact h
    ·omega)
   exact (a1.trans (hx9.mono (by simp))).own hx10 (fun c hc hlt => by simp at hc; omega)
  ·rcases hs7 c hc with h | h
   ·rcases h5 c h with h | h
    ·exact .inl h
    ·right; omega
   ·right; omega
structure ME where
 hdr : Option Addr × Nat × Nat
 f : Fil
def zjq (m : ME) : List Value := [zc9 m.hdr, .string (strOf m.f.path), .bool m.f.dir, .string (strOf m.f.data)]
theorem zh6 (m : ME) : (zjq m).length = 4 := rfl
theorem z3a {m : ME} : zcs (zjq m) := by
 intro v hv
 simp only [zjq, List.mem_cons, List.not_mem_nil, or_false] at hv
 rcases hv with rfl | rfl | rfl | rfl <;> rfl
def zql (H : Heap) (m : ME) : Prop := Mine H 0 qx 1 m.hdr (strRow (nm m.f))
theorem qn5 : (zc P zy).size = 4 := by kernel_rfl
theorem qn0 : P.cellsOf zy = 4 := by kernel_rfl
theorem qkz {w : World} {H : Heap} (m : ME) (hw : w.heap = H) {K : Nat → World → Prop} (hK : ∀ w', w'.heap = H.push (.cells (zjq m).toArray zy (0, 0)) → K H.size w') :
  zbi (zc P zy) zy w fun b w1 => zbn P (storeVar zy (⟨b, 0, none⟩ : Addr) (.agg (zjq m).toArray)) w1 fun w2 => K b w2 :=
 qeo (v := .agg (zjq m).toArray) qn0 qn5 (by simp [Value.cells, zjq]) (by simpa [Value.cells] using z3a) hw hK
theorem Mine.keep {H H' : Heap} {B : Nat} {T : TypeId} {sz : Nat} {x : Option Addr × Nat × Nat} {vs : List Value} {M : List Nat} (h : Mine H B T sz x vs) (hx : Ext M H H') (hM : ∀ m ∈ M, ∀ c fr, H[m]? = some (.cells c T fr) → False) : Go.Fw.Mine H' B T sz x vs :=
 Go.Fw.Mine.ext h hx fun b hb hm => by
  rcases h with ⟨rfl, _⟩ | ⟨b1, c1, hx1, _, hg1, _⟩
  ·simp [xu] at hb
  ·simp [xu, hx1] at hb; subst hb
   exact hM _ hm _ _ hg1
def keyS (L : List UInt8) : Value := .string (strOf L)
theorem qi7 : KeyOk P qx (List UInt8) (fun _ => True) keyS := KeyOk.str z3o
theorem uME : P.underlying jr = some (.map qx zaq) := by kernel_rfl
theorem zME (w : World) : (zeroValue zaq).run P w = .ok (.slice none 0 0) w := by kernel_rfl
abbrev KM := ML (List UInt8) ((Option Addr × Nat × Nat) × List ME)
def evK (v : (Option Addr × Nat × Nat) × List ME) : Value := zc9 v.1
def qe2 (H : Heap) (mk : Nat) (S : List Fil) : Prop := ∃ (M : KM) (clk : Nat), H[mk]? = some (.map (ents keyS (vl evK M)) clk) ∧ MOk (fun _ => True) M clk ∧
 ∀ p, okP p → match zcf M (vk p) with
  | none => kids S p = []
  | some v => v.2.map (·.f) = kids S p ∧ Mine H 0 zy 4 v.1 (v.2.flatMap zjq) ∧ ∀ m ∈ v.2, zql H m
theorem qe2.keep {H H' : Heap} {mk : Nat} {S : List Fil} {M : List Nat} (h : qe2 H mk S) (hx : Ext M H H') (hM : ∀ m ∈ M, m < H.size → ∃ c T fr, H[m]? = some (.cells c T fr) ∧ T ≠ zy ∧ T ≠ qx) : qe2 H' mk S := by
 obtain ⟨K, clk, h1, h2, h3⟩ := h
 refine ⟨K, clk, hx.get h1 fun hm => ?_, h2, fun p hp => ?_⟩
 ·obtain ⟨c, T, fr, hc, _⟩ := hM _ hm (lt_of_get h1)
  rw [h1] at hc; cases hc
 ·have := h3 p hp
  cases hg : zcf K (vk p) with
  | none => rw [hg] at this; exact this
  | some v =>
   rw [hg] at this
   obtain ⟨g1, g2, g3⟩ := this
   refine ⟨g1, Mine.keep g2 hx fun m hm c fr hc => ?_, fun m hm => Mine.keep (g3 m hm) hx fun m hm c fr hc => ?_⟩
   ·obtain ⟨c', T, fr', hc', n1, n2⟩ := hM m hm (lt_of_get hc)
    rw [hc] at hc'
    simp only [Option.some.injEq, Obj.cells.injEq] at hc'
    exact n1 hc'.2.1.symm
   ·obtain ⟨c', T, fr', hc', n1, n2⟩ := hM m hm (lt_of_get hc)
    rw [hc] at hc'
    simp only [Option.some.injEq, Obj.cells.injEq] at hc'
    exact n2 hc'.2.1.symm
theorem z4x {κ ν : Type} [DecidableEq κ] {kt et mt : TypeId} {ok : κ → Prop} {enc : κ → Value} {ev : ν → Value} {w : World} {H : Heap} {m c : Nat} {l : ML κ ν} (K : KeyOk P kt κ ok enc) (hu : P.underlying mt = some (.map kt et)) {z : Value} (hz : ∀ w, (zeroValue et).run P w = .ok z w) (hw : w.heap = H) (hm : H[m]? = some (.map (ents enc (vl ev l)) c)) (hl : MOk ok l c) {k : κ} (hk : ok k) :
  (Instr.lookup mt (.map (some m)) (enc k) false).run P w = .ok (((zcf l k).map ev).getD z) w := by
 have hf := K.find w k (ents enc (vl ev l)).toList (vl ev l) hk hl.vl.fine (by simp [ents])
 have hg := zye (l := vl ev l) (k := k)
 generalize (((vl ev l).findIdx? (fun x => x.1 == k)).bind fun i => ((vl ev l)[i]?).map fun x => (i, x.2.1)) = r at hf hg
 simp only [Instr.lookup, Sem.run_bind, qw hu, Result.andThen_ok, qgs hw hm (by intros; simp), Sem.run_pure, K.chk w k _ hk, hf]
 rw [← zug, ← hg]
 cases r with
 | none => simp [hz]
 | some x => simp
def zv2 (bk bd bb : Nat) : Value := .func (.func zh9) #[] #[.pointer (some ⟨bk, 0, none⟩), .pointer (some ⟨bd, 0, none⟩), .pointer (some ⟨bb, 0, none⟩)]
structure DirSt (H : Heap) (bk bd bb mk B : Nat) (S : List Fil) (x : Option Addr × Nat × Nat) (Ls : List (List UInt8)) : Prop where
 k : H[bk]? = some (.cells #[.map (some mk)] jr (0, 0))
 d : H[bd]? = some (.cells #[zv2 bk bd bb] zck (0, 0))
 b : H[bb]? = some (.cells #[zc9 x] jg (0, 0))
 kids : qe2 H mk S
 blobs : zau H B x Ls
 rounds : Bl.Rounds H
 r0 : 0 ≠ bb
theorem DirSt.keep {H H' : Heap} {bk bd bb mk B : Nat} {S : List Fil} {x x' : Option Addr × Nat × Nat} {Ls Ls' : List (List UInt8)} {M : List Nat} (h : DirSt H bk bd bb mk B S x Ls) (hx : Ext M H H') (hB0 : 0 < B) (hM : ∀ m ∈ M, m < H.size → m ≠ 0 ∧ ∃ c T fr, H[m]? = some (.cells c T fr) ∧ (T = jg ∨ T = zh ∨ T = qj ∨ T = zi ∨ T = zf))
  (hb : H'[bb]? = some (.cells #[zc9 x'] jg (0, 0))) (hB : zau H' B x' Ls') : DirSt H' bk bd bb mk B S x' Ls' := by
 have no : ∀ {b : Nat} {c : Array Value} {T : TypeId} {fr : Nat × Nat}, H[b]? = some (.cells c T fr) → T ≠ jg → T ≠ zh → T ≠ qj → T ≠ zi → T ≠ zf → b ∉ M := by
  intro b c T fr hc n1 n2 n3 n4 n5 hm
  obtain ⟨_, c', T', fr', hc', ht⟩ := hM b hm (lt_of_get hc)
  rw [hc] at hc'
  simp only [Option.some.injEq, Obj.cells.injEq] at hc'
  rcases ht with h | h | h | h | h <;> rw [← hc'.2.1] at h
  ·exact n1 h
  ·exact n2 h
  ·exact n3 h
  ·exact n4 h
  ·exact n5 h
 refine ⟨hx.get h.k (no h.k (by decide) (by decide) (by decide) (by decide) (by decide)), hx.get h.d (no h.d (by decide) (by decide) (by decide) (by decide) (by decide)), hb, h.kids.keep hx fun m hm hlt => ?_, hB, h.rounds.ext hx fun h0 => ?_, h.r0⟩
 ·obtain ⟨_, c, T, fr, hc, ht⟩ := hM m hm hlt
  refine ⟨c, T, fr, hc, ?_, ?_⟩ <;> rcases ht with rfl | rfl | rfl | rfl | rfl <;> decide
 ·have hlt : 0 < H.size := by have := lt_of_get h.k; omega
  exact (hM 0 h0 hlt).1 rfl
theorem qbk {rec : Path → List (List UInt8) × List UInt8} {K : List Fil} {i : Nat} : (jk rec (K.take i)).1.length ≤ (jk rec K).1.length := by
 have h := List.take_append_drop i K
 rw [zii, zii]
 conv => rhs; rw [← h]
 rw [List.map_append, List.flatten_append, List.length_append]
 omega
set_option maxHeartbeats 64000000 in
theorem zxc (S : List Fil) (hd : ∀ f ∈ S, f.data.length ≤ 1024) (hSR : zsn S) (h64 : ∀ p, (kids S p).length ≤ 64) : ∀ (n : Nat) {w : World} {H : Heap} {bk bd bb mk B : Nat} {x : Option Addr × Nat × Nat} {Ls : List (List UInt8)} {p : Path}, w.heap = H → DirSt H bk bd bb mk B S x Ls → 0 < B → B ≤ H.size →
  okP p → p.length + n = 9 → Ls.length + (zca S n p).1.length ≤ 500000000 →
  qg P zh9 #[.string (strOf (vk p)), .pointer (some ⟨bk, 0, none⟩), .pointer (some ⟨bd, 0, none⟩), .pointer (some ⟨bb, 0, none⟩)] w fun e w' => ∃ x', e = .returned (arr (zca S n p).2) ∧ DirSt w'.heap bk bd bb mk B S x' (Ls ++ (zca S n p).1) ∧ Ext (bb :: xu x) H w'.heap ∧ ∀ c ∈ xu x', c ∈ xu x ∨ H.size ≤ c := by
 intro n
 induction n with
 | zero =>
  intro w H bk bd bb mk B x Ls p _ _ _ _ hp hn _
  have := hp.2
  omega
 | succ n ih =>
 intro w H bk bd bb mk B x Ls p hw hS hB0 hBs hp hn hlen
 obtain ⟨K, clk, g1, g2, g3⟩ := hS.kids
 have g3 := g3 p hp
 have hxlt := hS.blobs.lt
 have hbl := lt_of_get hS.b
 refine zx6 ?_
 unfold zmf
 refine jw hw fun w1 hw1 => ?_
 have hx1 : Ext [] H w1.heap := by rw [hw1]; exact .push _
 have hd1 : w1.heap[H.size]? = some (.cells (zc P zf) zf (0, 0)) := by rw [hw1]; exact zn
 refine xg (s := .any) (.agg (zdv (zdu []) (none, 0, 0) (none, 0, 0)).toArray) (bN3 _) ?_
 refine qg2 (zdu []) _ _ rfl fun w3 hw3 => ?_
 have hx3 : Ext [] w1.heap w3.heap := by rw [hw3]; exact .push _
 have hn3 : w3.heap[w1.heap.size]? = some (.cells (zdv (zdu []) (none, 0, 0) (none, 0, 0)).toArray zi (0, 0)) := by rw [hw3]; exact zn
 have hx03 := hx1.trans hx3
 have s1 : H.size < w1.heap.size := lt_of_get hd1
 have s3 : w1.heap.size < w3.heap.size := lt_of_get hn3
 have hd3 := hx3.get hd1 (by simp)
 simp only [xq]
 refine jh (s := .map) (t := some mk) rfl (hx03.get hS.k (by simp)) rfl ?_
 obtain ⟨r, hr1, hr2, hr3, hr4⟩ : ∃ r : (Option Addr × Nat × Nat) × List ME, ((zcf K (vk p)).map evK).getD (.slice none 0 0) = zc9 r.1 ∧ r.2.map (·.f) = kids S p ∧ Mine H 0 zy 4 r.1 (r.2.flatMap zjq) ∧ ∀ m ∈ r.2, zql H m := by
  cases hg : zcf K (vk p) with
  | none => rw [hg] at g3; exact ⟨((none, 0, 0), []), rfl, g3.symm, .inl ⟨rfl, rfl⟩, by simp⟩
  | some v => rw [hg] at g3; exact ⟨v, rfl, g3⟩
 have hlk := z4x (w := w3) (l := K) qi7 uME zME rfl (hx03.get g1 (by simp)) g2 (k := vk p) trivial
 rw [hr1] at hlk
 refine xg (s := .slc) r.1 hlk ?_
 have hrl : r.1.2.1 = r.2.length := by have := hr3.len; rw [qc zjq zh6] at this; omega
 have hkl : r.2.length = (kids S p).length := by rw [← hr2]; simp
 have hk64 := h64 p
 have hkm : ∀ f ∈ kids S p, nm f ≠ [] ∧ (nm f).dropLast = p := fun f hf => (zf1 hf).2
 have htot : Ls.length + (jk (zca S n) (kids S p)).1.length + 1 ≤ 500000000 := by
  have := hlen
  simp only [zca, List.length_append, List.length_singleton] at this
  omega
 have hS3 : DirSt w3.heap bk bd bb mk B S x Ls := hS.keep hx03 hB0 (by simp) (hx03.get hS.b (by simp)) (hS.blobs.ext hx03 (by simp))
 refine jd (fun (s : Int) W => ∃ (i : Nat) (x' xi : Option Addr × Nat × Nat), s = (i : Int) ∧ i ≤ r.2.length ∧ Ext (bb :: xu x) H W.heap ∧ w3.heap.size ≤ W.heap.size ∧ W.heap[w1.heap.size]? = some (.cells (zdv (zdu (jk (zca S n) ((kids S p).take i)).2) (none, 0, 0) xi).toArray zi (0, 0)) ∧
   W.heap[H.size]? = some (.cells (zc P zf) zf (0, 0)) ∧ DirSt W.heap bk bd bb mk B S x' (Ls ++ (jk (zca S n) ((kids S p).take i)).1) ∧ (∀ c ∈ xu x', c ∈ xu x ∨ w3.heap.size ≤ c) ∧ Mine W.heap w3.heap.size qj 34 xi ((jk (zca S n) ((kids S p).take i)).2.flatMap zfk)) (fun s _ => (r.2.length - s).toNat)
  ⟨0, x, (none, 0, 0), rfl, Nat.zero_le _, hx03.mono (by simp), Nat.le_refl _, by simpa [jk] using hn3, hd3, by simpa [jk] using hS3, fun c hc => .inl hc, .inl ⟨rfl, by simp [jk]⟩⟩ ?_
 rintro _ W ⟨i, x', xi, rfl, hi, h1, h1s, h3, h3d, h4, h5, h6⟩
 have hH2 := h1.1
 have x'lt := h4.blobs.lt
 have hbbW := lt_of_get h4.b
 have hHx' : ∀ {m : Nat}, H.size ≤ m → m < w3.heap.size → m ∉ xu x' := fun h h' hm => by
  rcases h5 _ hm with h2 | h2
  ·have := (hxlt _ h2).1; omega
  ·omega
 have hold : ∀ {T : TypeId} {sz : Nat} {y : Option Addr × Nat × Nat} {vs : List Value}, Mine H 0 T sz y vs → T ≠ jg → T ≠ zh → Mine W.heap 0 T sz y vs := by
  intro T sz y vs hm n1 n2
  refine Mine.keep hm h1 fun m hmm c fr hc => ?_
  rcases List.mem_cons.1 hmm with rfl | hmm
  ·rw [hS.b] at hc
   simp only [Option.some.injEq, Obj.cells.injEq] at hc
   exact n1 hc.2.1.symm
  ·obtain ⟨ys, q1, _⟩ := hS.blobs
   rcases q1 with ⟨h, _⟩ | ⟨b', c2, hx1', _, hg, _⟩
   ·rw [h] at hmm; simp [xu] at hmm
   ·simp [xu, hx1'] at hmm; subst hmm
    rw [hc] at hg
    simp only [Option.some.injEq, Obj.cells.injEq] at hg
    exact n2 hg.2.1
 refine zq (fun hlt => ?_) (fun hge => ?_)
 ·have hil : i < r.2.length := by omega
  have hget := List.getElem?_eq_getElem hil
  have hmem : r.2[i] ∈ r.2 := List.getElem_mem hil
  have hfK : (kids S p)[i]? = some (r.2[i]).f := by rw [← hr2, List.getElem?_map, hget]; rfl
  generalize r.2[i] = me at hget hmem hfK
  have hfS : me.f ∈ kids S p := by rw [← hr2]; exact List.mem_map.2 ⟨me, hmem, rfl⟩
  have hdf := hd me.f (zf1 hfS).1
  obtain ⟨hk1, hk2⟩ := hkm me.f hfS
  have hkl2 : (nm me.f).length = p.length + 1 := by
   have := congrArg List.length (zq1 hk1)
   rw [hk2] at this; simpa using this
  have h8 := (zk7 me.f).2
  have hsmall := (zk7 me.f).small
  obtain ⟨m, rfl⟩ : ∃ m, n = m + 1 := ⟨n - 1, by omega⟩
  have htk : (kids S p).take (i + 1) = (kids S p).take i ++ [me.f] := by rw [List.take_add_one, hfK]; rfl
  have hstep : (jk (zca S (m + 1)) ((kids S p).take (i + 1))) = zhk (zca S (m + 1)) (jk (zca S (m + 1)) ((kids S p).take i)) me.f := by rw [htk, zvo]
  have hpre := qbk (rec := zca S (m + 1)) (K := kids S p) (i := i)
  have hpre' := qbk (rec := zca S (m + 1)) (K := kids S p) (i := i + 1)
  refine joinP_of (fun _ W' => ∃ (x2 xi2 : Option Addr × Nat × Nat), Ext (bb :: xu x) H W'.heap ∧ w3.heap.size ≤ W'.heap.size ∧ W'.heap[w1.heap.size]? = some (.cells (zdv (zdu (jk (zca S (m + 1)) ((kids S p).take (i + 1))).2) (none, 0, 0) xi2).toArray zi (0, 0)) ∧
   W'.heap[H.size]? = some (.cells (zc P zf) zf (0, 0)) ∧ DirSt W'.heap bk bd bb mk B S x2 (Ls ++ (jk (zca S (m + 1)) ((kids S p).take (i + 1))).1) ∧ (∀ c ∈ xu x2, c ∈ xu x ∨ w3.heap.size ≤ c) ∧ Mine W'.heap w3.heap.size qj 34 xi2 ((jk (zca S (m + 1)) ((kids S p).take (i + 1))).2.flatMap zfk)) ?_ ?_
  rotate_left
  ·rintro _ W' ⟨x2, xi2, g⟩
   refine xw ((i + 1 : Nat) : Int) (by omega) (by omega) (by omega) ?_
   exact ⟨⟨i + 1, x2, xi2, rfl, by omega, g⟩, by omega⟩
  refine zac ?_
  refine zkm (i := i) zh6 (by omega) rfl (hold hr3 (by decide) (by decide)).cells hrl hget rfl ?_
  refine qkz me rfl fun w6 hw6 => ?_
  have hx6 : Ext [] W.heap w6.heap := by rw [hw6]; exact .push _
  have he6 : w6.heap[W.heap.size]? = some (.cells (zjq me).toArray zy (0, 0)) := by rw [hw6]; exact zn
  have hnm := (hold (hr4 me hmem) (by decide) (by decide)).ext hx6 (by simp)
  have hnl : me.hdr.2.1 = (nm me.f).length := by have := hnm.len; simp at this; omega
  refine jh (s := .slc) (t := me.hdr) rfl he6 rfl ?_
  refine jh (s := .slc) (t := me.hdr) rfl he6 rfl ?_
  refine zbs ((me.hdr.2.1 - 1 : Nat) : Int) (by omega) (by omega) (by omega) ?_
  refine z0v (xs := nm me.f) (i := (nm me.f).length - 1) rfl hnm.cells hnl (by omega) (by omega) ?_
  rw [last_at hk1]
  refine xg (s := .any) (.agg (zfk ⟨zf9 (nm me.f), 2, List.replicate 32 0⟩).toArray) (by rw [zfk, Bl.zgy (by simp)]; exact bT2 _ _) ?_
  refine qlv ⟨zf9 (nm me.f), 2, List.replicate 32 0⟩ rfl fun w8 hw8 => ?_
  have hx8 : Ext [] w6.heap w8.heap := by rw [hw8]; exact .push _
  have hb8 : w8.heap[w6.heap.size]? = some (.cells (zfk ⟨zf9 (nm me.f), 2, List.replicate 32 0⟩).toArray qj (0, 0)) := by rw [hw8]; exact zn
  have s6 : W.heap.size < w6.heap.size := lt_of_get he6
  have s8 : w6.heap.size < w8.heap.size := lt_of_get hb8
  have hx08 := hx6.trans hx8
  have he8 := hx8.get he6 (by simp)
  have hS8 : DirSt w8.heap bk bd bb mk B S x' (Ls ++ (jk (zca S (m + 1)) ((kids S p).take i)).1) := h4.keep hx08 hB0 (by simp) (hx08.get h4.b (by simp)) (h4.blobs.ext hx08 (by simp))
  have hnm8 := hnm.ext hx8 (by simp)
  refine joinP_of (fun _ W' => ∃ x2 : Option Addr × Nat × Nat, W'.heap[w6.heap.size]? = some (.cells (zfk (zhh (zca S (m + 1)) me.f)).toArray qj (0, 0)) ∧ DirSt W'.heap bk bd bb mk B S x2 (Ls ++ (jk (zca S (m + 1)) ((kids S p).take (i + 1))).1) ∧
   Ext (w6.heap.size :: bb :: xu x') w8.heap W'.heap ∧ (∀ c ∈ xu x2, c ∈ xu x' ∨ w8.heap.size ≤ c)) ?_ ?_
  ·refine jh (s := .bool) (t := me.f.dir) rfl he8 rfl ?_
   cases hfd : me.f.dir with
   | true =>
    refine zaa rfl ?_
    refine vg rfl fun w9 hw9 => ?_
    have hx9 : Ext [] w8.heap w9.heap := by rw [hw9]; exact .refl _ _
    have hS9 : DirSt w9.heap bk bd bb mk B S x' (Ls ++ (jk (zca S (m + 1)) ((kids S p).take i)).1) := by rw [hw9]; exact hS8
    refine jh (s := .any) (t := zv2 bk bd bb) rfl hS9.d rfl ?_
    refine jh (s := .slc) (t := me.hdr) rfl (hx9.get he8 (by simp)) rfl ?_
    refine zk (z1f rfl (hnm8.ext hx9 (by simp)).cells hnl (zib hnm) (by omega)) ?_
    rintro e w10 ⟨rfl, hx10⟩
    refine ⟨strOf (vk (nm me.f)), rfl, ?_⟩
    have hx8_10 := hx9.trans hx10
    have hS10 : DirSt w10.heap bk bd bb mk B S x' (Ls ++ (jk (zca S (m + 1)) ((kids S p).take i)).1) := hS8.keep hx8_10 hB0 (by simp) (hx8_10.get hS8.b (by simp)) (hS8.blobs.ext hx8_10 (by simp))
    refine ⟨jh (s := .any) (t := zv2 bk bd bb) rfl hS10.d rfl rfl, ?_⟩
    have s10 := hx8_10.1
    have hlen2 : (Ls ++ (jk (zca S (m + 1)) ((kids S p).take i)).1).length + (zca S (m + 1) (nm me.f)).1.length ≤ 500000000 := by
     have h := hpre'
     rw [hstep] at h
     simp only [zhk, hfd, if_true, List.length_append] at h
     simp only [List.length_append]
     omega
    refine zqc (args := #[.string (strOf (vk (nm me.f)))]) ?_
    refine (ih (w := w10) (p := nm me.f) rfl hS10 hB0 (by omega) (zk7 me.f) (by omega) hlen2).mono ?_
    rintro e w11 ⟨x2, rfl, hS11, hx11, hs11⟩
    refine ⟨arr (zca S (m + 1) (nm me.f)).2, rfl, ?_⟩
    have hbN : w6.heap.size ∉ bb :: xu x' := fun h => by
     rcases List.mem_cons.1 h with h | h
     ·omega
     ·have := (x'lt _ h).1; omega
    have hb11 := hx11.get (hx8_10.get hb8 (by simp)) hbN
    refine zcd rfl hb11 (by simp [zay]) fun w12 hw12 => ?_
    have hx12 : Ext [w6.heap.size] w11.heap w12.heap := by rw [hw12]; exact Ext.set _ (by simp)
    have hb12 : w12.heap[w6.heap.size]? = some (.cells (zfk ⟨zf9 (nm me.f), 3, List.replicate 32 0⟩).toArray qj (0, 0)) := by rw [hw12, ← qb5]; exact qm hb11
    refine stD zga rfl hb12 (by simp [zay]) fun w13 hw13 => ?_
    rw [z1u zga] at hw13
    have hx13 : Ext [w6.heap.size] w12.heap w13.heap := by rw [hw13]; exact Ext.set _ (by simp)
    have hit : zhh (zca S (m + 1)) me.f = ⟨zf9 (nm me.f), 3, (zca S (m + 1) (nm me.f)).2⟩ := by unfold zhh; rw [hfd]; rfl
    have hx1113 := hx12.trans hx13
    have hwne : w6.heap.size ≠ bb := by omega
    refine ⟨x2, by rw [hw13, hit]; exact qm hb12, ?_, ?_, fun c hc => ?_⟩
    ·have hacc : Ls ++ (jk (zca S (m + 1)) ((kids S p).take (i + 1))).1 = Ls ++ (jk (zca S (m + 1)) ((kids S p).take i)).1 ++ (zca S (m + 1) (nm me.f)).1 := by
      rw [hstep]
      simp only [zhk, hfd, if_true, List.append_assoc]
     rw [hacc]
     have tag : ∀ m' ∈ [w6.heap.size], m' < w11.heap.size → m' ≠ 0 ∧ ∃ c T fr, w11.heap[m']? = some (.cells c T fr) ∧ (T = jg ∨ T = zh ∨ T = qj ∨ T = zi ∨ T = zf) := by
      intro m' hm _
      simp at hm; subst hm
      exact ⟨by omega, _, _, _, hb11, .inr (.inr (.inl rfl))⟩
     refine hS11.keep hx1113 hB0 tag (hx1113.get hS11.b (by simp; omega)) (hS11.blobs.keep hx1113 fun m' hm c T fr hc => ?_)
     simp at hm; subst hm
     rw [hb11] at hc
     simp only [Option.some.injEq, Obj.cells.injEq] at hc
     rw [← hc.2.1]; exact ⟨by decide, by decide⟩
    ·exact (hx8_10.mono (by simp)).trans ((hx11.mono fun c hc => by simp at hc ⊢; right; exact hc).trans (hx1113.mono (by simp)))
    ·rcases hs11 c hc with h | h
     ·exact .inl h
     ·right; omega
   | false =>
    refine jl rfl ?_
    refine jh (s := .slc) (t := x') rfl hS8.b rfl ?_
    refine jh (s := .str) (t := strOf me.f.data) rfl he8 rfl ?_
    refine zk (qiy rfl hS8.blobs hB0 (by omega) hS8.rounds (by simp only [List.length_append]; omega) hdf) ?_
    rintro e w14 ⟨x2, rfl, hB14, hx14, hs14⟩
    refine ⟨(x2, arr (zc7 me.f.data)), rfl, ?_⟩
    have hbx' : bb ∉ xu x' := by
     obtain ⟨ys, q1, _⟩ := hS8.blobs
     intro h
     rcases q1 with ⟨h', _⟩ | ⟨b', c2, hx1', _, hg, _⟩
     ·rw [h'] at h; simp [xu] at h
     ·simp [xu, hx1'] at h; subst h
      rw [hS8.b] at hg
      simp only [Option.some.injEq, Obj.cells.injEq] at hg
      exact absurd hg.2.1 (by decide)
    have hbb14 := hx14.get hS8.b hbx'
    refine zcd rfl hbb14 (by simp) fun w15 hw15 => ?_
    have hx15 : Ext [bb] w14.heap w15.heap := by rw [hw15]; exact Ext.set _ (by simp)
    have hbb15 : w15.heap[bb]? = some (.cells #[zc9 x2] jg (0, 0)) := by rw [hw15]; exact qm hbb14
    have hwne : w6.heap.size ≠ bb := by omega
    have hb15 := hx15.get (hx14.get hb8 (fun h => by have := (x'lt _ h).1; omega)) (by simp; omega)
    have hfs : (zc7 me.f.data).length = 32 := zad
    refine stD hfs rfl hb15 (by simp [zay]) fun w16 hw16 => ?_
    rw [z1u hfs] at hw16
    have hx16 : Ext [w6.heap.size] w15.heap w16.heap := by rw [hw16]; exact Ext.set _ (by simp)
    have hit : zhh (zca S (m + 1)) me.f = ⟨zf9 (nm me.f), 2, zc7 me.f.data⟩ := by unfold zhh; rw [hfd]; rfl
    have hxAll : Ext (w6.heap.size :: bb :: xu x') w8.heap w16.heap := (hx14.mono fun c hc => by simp [hc]).trans ((hx15.mono (by simp)).trans (hx16.mono (by simp)))
    refine ⟨x2, by rw [hw16, hit]; exact qm hb15, ?_, hxAll, fun c hc => ?_⟩
    ·have hacc : Ls ++ (jk (zca S (m + 1)) ((kids S p).take (i + 1))).1 = Ls ++ (jk (zca S (m + 1)) ((kids S p).take i)).1 ++ ze5 me.f.data := by
      rw [hstep]
      simp only [zhk, hfd, Bool.false_eq_true, if_false, List.append_assoc]
     rw [hacc]
     refine hS8.keep hxAll hB0 (fun m' hm hlt => ?_) (hx16.get hbb15 (by simp; omega)) ?_
     ·rcases List.mem_cons.1 hm with rfl | hm
      ·exact ⟨by omega, _, _, _, hb8, .inr (.inr (.inl rfl))⟩
      ·rcases List.mem_cons.1 hm with rfl | hm
       ·exact ⟨fun h => hS8.r0 h.symm, _, _, _, hS8.b, .inl rfl⟩
       ·refine ⟨fun h => by have := hS8.blobs.ge _ hm; omega, ?_⟩
        obtain ⟨ys, q1, _⟩ := hS8.blobs
        rcases q1 with ⟨h', _⟩ | ⟨b', c2, hx1', _, hg, _⟩
        ·rw [h'] at hm; simp [xu] at hm
        ·simp [xu, hx1'] at hm; subst hm
         exact ⟨_, _, _, hg, .inr (.inl rfl)⟩
     ·refine (hB14.keep hx15 fun m' hm c T fr hc => ?_).keep hx16 fun m' hm c T fr hc => ?_
      ·simp at hm; subst hm
       rw [hbb14] at hc
       simp only [Option.some.injEq, Obj.cells.injEq] at hc
       rw [← hc.2.1]; exact ⟨by decide, by decide⟩
      ·simp at hm; subst hm
       rw [hb15] at hc
       simp only [Option.some.injEq, Obj.cells.injEq] at hc
       rw [← hc.2.1]; exact ⟨by decide, by decide⟩
    ·rcases hs14 c hc with h | h
     ·exact .inl h
     ·right; omega
  rintro _ W17 ⟨x2, hb17, hS17, hx17, hs17⟩
  have hni : ∀ {k : Nat}, H.size ≤ k → k < w3.heap.size → k ∉ w6.heap.size :: bb :: xu x' := fun hk hk' h => by
   rcases List.mem_cons.1 h with h | h
   ·omega
   ·rcases List.mem_cons.1 h with h | h
    ·omega
    ·exact hHx' hk hk' h
  have hn17 := hx17.get (hx08.get h3 (by simp)) (hni (by omega) (by omega))
  refine jh (s := .slc) (t := xi) rfl hn17 rfl ?_
  refine jf rfl hb17 (by simp [zay]) ?_
  have hm17 : Mine W17.heap w3.heap.size qj 34 xi ((jk (zca S (m + 1)) ((kids S p).take i)).2.flatMap zfk) := (h6.ext hx08 (by simp)).ext hx17 (fun b hb h => by
   rcases List.mem_cons.1 h with h | h
   ·have := (za7 h6 b hb).1; omega
   ·rcases List.mem_cons.1 h with h | h
    ·have := jc h6 b hb; omega
    ·exact h4.blobs.row h6 (by decide) b hb h)
  have s17 := hx17.1
  refine qex (i := zhh (zca S (m + 1)) me.f) rfl hm17 (by omega) (by rw [z9n]; simp; omega) fun xi2 w19 hm19 hx19 hs19 => ?_
  have hn19 := hx19.get hn17 (fun h => by have := jc h6 _ h; omega)
  refine zcd rfl hn19 (by simp [zdv]) fun w20 hw20 => ?_
  have hx20 : Ext [w1.heap.size] w19.heap w20.heap := by rw [hw20]; exact Ext.set _ (by simp)
  have s19 := hx19.1
  have s20 := hx20.1
  have hacc2 : (jk (zca S (m + 1)) ((kids S p).take (i + 1))).2 = (jk (zca S (m + 1)) ((kids S p).take i)).2 ++ [zhh (zca S (m + 1)) me.f] := by
   rw [htk, zfx, zfx, List.map_append]; rfl
  have hx1720 : Ext (w1.heap.size :: xu xi) W17.heap w20.heap := (hx19.mono fun c hc => by simp [hc]).trans (hx20.mono (by simp))
  have tag : ∀ m' ∈ w1.heap.size :: xu xi, m' < W17.heap.size → m' ≠ 0 ∧ ∃ c T fr, W17.heap[m']? = some (.cells c T fr) ∧ (T = jg ∨ T = zh ∨ T = qj ∨ T = zi ∨ T = zf) := by
   intro m' hm _
   rcases List.mem_cons.1 hm with rfl | hm
   ·exact ⟨by omega, _, _, _, hn17, .inr (.inr (.inr (.inl rfl)))⟩
   ·refine ⟨fun h => by have := jc h6 _ hm; omega, ?_⟩
    rcases hm17 with ⟨h', _⟩ | ⟨b', c2, hx1', _, hg, _⟩
    ·rw [h'] at hm; simp [xu] at hm
    ·simp [xu, hx1'] at hm; subst hm
     exact ⟨_, _, _, hg, .inr (.inr (.inl rfl))⟩
  have hbb20 := hx1720.get hS17.b (fun h => by
   rcases List.mem_cons.1 h with h | h
   ·omega
   ·have := jc h6 _ h; omega)
  refine ⟨x2, xi2, ?_, by omega, ?_, ?_, ?_, fun c hc => ?_, ?_⟩
  ·have a1 : Ext (bb :: xu x) H w8.heap := h1.trans (hx08.mono (by simp))
   have a2 : Ext (bb :: xu x) H W17.heap := a1.own hx17 (fun c hc hlt => by
    rcases List.mem_cons.1 hc with h | h
    ·omega
    ·rcases List.mem_cons.1 h with h | h
     ·simp [h]
     ·rcases h5 c h with h | h
      ·simp [h]
      ·omega)
   exact a2.own hx1720 (fun c hc hlt => by
    rcases List.mem_cons.1 hc with h | h
    ·omega
    ·have := jc h6 c h; omega)
  ·rw [hw20, hacc2]; exact qm hn19
  ·exact hx1720.get (hx17.get (hx08.get h3d (by simp)) (hni (Nat.le_refl _) (by omega))) (fun h => by
    rcases List.mem_cons.1 h with h | h
    ·omega
    ·have := jc h6 _ h; omega)
  ·refine hS17.keep hx1720 hB0 tag hbb20 (hS17.blobs.keep hx1720 fun m' hm c T fr hc => ?_)
   obtain ⟨_, c', T', fr', hc', ht⟩ := tag m' hm (lt_of_get hc)
   rcases List.mem_cons.1 hm with rfl | hm
   ·rw [hn17] at hc
    simp only [Option.some.injEq, Obj.cells.injEq] at hc
    rw [← hc.2.1]; exact ⟨by decide, by decide⟩
   ·rcases hm17 with ⟨h', _⟩ | ⟨b', c2, hx1', _, hg, _⟩
    ·rw [h'] at hm; simp [xu] at hm
    ·simp [xu, hx1'] at hm; subst hm
     rw [hc] at hg
     simp only [Option.some.injEq, Obj.cells.injEq] at hg
     rw [hg.2.1]; exact ⟨by decide, by decide⟩
  ·rcases hs17 c hc with h | h
   ·exact h5 c h
   ·right; omega
  ·rw [hacc2]
   exact hm19.ext hx20 (fun b hb h => by simp at h; subst h; have := jc hm19 _ hb; omega)
 ·obtain rfl : i = r.2.length := by omega
  have htk : (kids S p).take r.2.length = kids S p := by rw [hkl, List.take_length]
  rw [htk] at h3 h4 h6
  have h32 := qfk (S := S) hn hkm
  have hsm := zw9 (rec := zca S n) (fun f hf => (hkm f hf).1) (show (kids S p).length ≤ 65536 by omega)
  have hel := z4h hsm h32
  have hright : zdb (zdu (jk (zca S n) (kids S p)).2) = true := by rw [zfx]; exact qeu hSR hk64
  refine jw rfl fun w23 hw23 => ?_
  have hx23 : Ext [] W.heap w23.heap := by rw [hw23]; exact .push _
  have hd23 : w23.heap[W.heap.size]? = some (.cells (zc P zf) zf (0, 0)) := by rw [hw23]; exact zn
  have s23 : W.heap.size < w23.heap.size := lt_of_get hd23
  have hS23 : DirSt w23.heap bk bd bb mk B S x' (Ls ++ (jk (zca S n) (kids S p)).1) := h4.keep hx23 hB0 (by simp) (hx23.get h4.b (by simp)) (h4.blobs.ext hx23 (by simp))
  refine jh (s := .slc) (t := x') rfl hS23.b rfl ?_
  refine jf rfl (hx23.get h3 (by simp)) rfl ?_
  have hli : xi.2.1 = (jk (zca S n) (kids S p)).2.length := by
   have := h6.len
   rw [qc zfk zay] at this
   omega
  have hNW : NodW w23.heap (zdu (jk (zca S n) (kids S p)).2) (none, 0, 0) xi := ⟨.inl rfl, rfl, (h6.ext hx23 (by simp)).cells, hli, by simp [zdu], h32⟩
  refine zk (qft rfl hS23.blobs hB0 (by omega) hNW hright hS23.rounds (by simp only [List.length_append]; omega) (by omega)) ?_
  rintro e w24 ⟨x2, rfl, hB24, hx24, hs24⟩
  refine ⟨(x2, arr (zca S (n + 1) p).2), rfl, ?_⟩
  have hbx' : bb ∉ xu x' := by
   obtain ⟨ys, q1, _⟩ := h4.blobs
   intro h
   rcases q1 with ⟨h', _⟩ | ⟨b', c2, hx1', _, hg, _⟩
   ·rw [h'] at h; simp [xu] at h
   ·simp [xu, hx1'] at h; subst h
    rw [h4.b] at hg
    simp only [Option.some.injEq, Obj.cells.injEq] at hg
    exact absurd hg.2.1 (by decide)
  have hbb24 := hx24.get hS23.b hbx'
  refine zcd rfl hbb24 (by simp) fun w25 hw25 => ?_
  have hx25 : Ext [bb] w24.heap w25.heap := by rw [hw25]; exact Ext.set _ (by simp)
  have hbb25 : w25.heap[bb]? = some (.cells #[zc9 x2] jg (0, 0)) := by rw [hw25]; exact qm hbb24
  have hd25 := hx25.get (hx24.get hd23 (fun h => by have := (x'lt _ h).1; omega)) (by simp; omega)
  refine z4k zga rfl hd25 zcD fun w26 hw26 => ?_
  have hx26 : Ext [W.heap.size] w25.heap w26.heap := by rw [hw26]; exact Ext.set _ (by simp)
  have hd26 : w26.heap[W.heap.size]? = some (.cells (byteCells (zca S (n + 1) p).2).toArray zf (0, 0)) := by rw [hw26]; exact qm hd25
  refine jf rfl hd26 (by simp [zga]) ?_
  have hr26 := hx26.get (hx25.get (hx24.get (hx23.get h3d (by simp)) (hHx' (Nat.le_refl _) (by omega))) (by simp; omega)) (by simp; omega)
  refine z4k (k := (zca S (n + 1) p).2) zga rfl hr26 zcD fun w27 hw27 => ?_
  have hx27 : Ext [H.size] w26.heap w27.heap := by rw [hw27]; exact Ext.set _ (by simp)
  have hr27 : w27.heap[H.size]? = some (.cells (byteCells (zca S (n + 1) p).2).toArray zf (0, 0)) := by rw [hw27]; exact qm hr26
  refine jf rfl hr27 (by simp [zga]) ?_
  have hx2327 : Ext (W.heap.size :: H.size :: bb :: xu x') w23.heap w27.heap := (hx24.mono fun c hc => by simp [hc]).trans ((hx25.mono (by simp)).trans ((hx26.mono (by simp)).trans (hx27.mono (by simp))))
  have hbb27 := hx27.get (hx26.get hbb25 (by simp; omega)) (by simp; omega)
  refine ⟨x2, rfl, ?_, ?_, fun c hc => ?_⟩
  ·refine hS23.keep hx2327 hB0 (fun m' hm hlt => ?_) hbb27 ?_
   ·simp only [List.mem_cons] at hm
    rcases hm with rfl | rfl | rfl | hm
    ·exact ⟨by omega, _, _, _, hd23, .inr (.inr (.inr (.inr rfl)))⟩
    ·exact ⟨by omega, _, _, _, hx23.get h3d (by simp), .inr (.inr (.inr (.inr rfl)))⟩
    ·exact ⟨fun h => h4.r0 h.symm, _, _, _, hS23.b, .inl rfl⟩
    ·refine ⟨fun h => by have := h4.blobs.ge _ hm; omega, ?_⟩
     obtain ⟨ys, q1, _⟩ := hS23.blobs
     rcases q1 with ⟨h', _⟩ | ⟨b', c2, hx1', _, hg, _⟩
     ·rw [h'] at hm; simp [xu] at hm
     ·simp [xu, hx1'] at hm; subst hm
      exact ⟨_, _, _, hg, .inr (.inl rfl)⟩
   ·have hB27 := ((hB24.keep hx25 fun m' hm c T fr hc => by
     simp at hm; subst hm
     rw [hbb24] at hc
     simp only [Option.some.injEq, Obj.cells.injEq] at hc
     rw [← hc.2.1]; exact ⟨by decide, by decide⟩).keep hx26 fun m' hm c T fr hc => by
     simp at hm; subst hm
     rw [hd25] at hc
     simp only [Option.some.injEq, Obj.cells.injEq] at hc
     rw [← hc.2.1]; exact ⟨by decide, by decide⟩).keep hx27 fun m' hm c T fr hc => by
     simp at hm; subst hm
     rw [hr26] at hc
     simp only [Option.some.injEq, Obj.cells.injEq] at hc
     rw [← hc.2.1]; exact ⟨by decide, by decide⟩
    rw [List.append_assoc] at hB27
    exact hB27
  ·have a1 : Ext (bb :: xu x) H w23.heap := h1.trans (hx23.mono (by simp))
   exact a1.own hx2327 (fun c hc hlt => by
    simp only [List.mem_cons] at hc
    rcases hc with h | h | h | h
    ·omega
    ·omega
    ·simp [h]
    ·rcases h5 c h with h | h
     ·simp [h]
     ·omega)
  ·rcases hs24 c hc with h | h
   ·rcases h5 c h with h | h
    ·exact .inl h
    ·right; omega
   ·right; omega
theorem zcF : (zc P zl).size = 3 := by kernel_rfl
theorem szF : P.cellsOf zl = 3 := by kernel_rfl
theorem qnh {w : World} {H : Heap} (f : Fil) (hw : w.heap = H) {K : Nat → World → Prop} (hK : ∀ w', w'.heap = H.push (.cells (zbo f).toArray zl (0, 0)) → K H.size w') :
  zbi (zc P zl) zl w fun b w1 => zbn P (storeVar zl (⟨b, 0, none⟩ : Addr) (.agg (zbo f).toArray)) w1 fun w2 => K b w2 :=
 qeo (v := .agg (zbo f).toArray) szF zcF (by simp [Value.cells, zbo]) (by simpa [Value.cells] using zwg) hw hK
def ql4 (f : Fil) : Bool := decide ((zbd f.path).2 ≠ 0)
def zhd (L : List Fil) : Int := match L.find? ql4 with | some f => (zbd f.path).2 | none => 0
def z8v (f : Fil) : Bool := f.dir && !decide (f.data = [])
def qc7 (f : Fil) : Bool := decide (1024 < f.data.length)
def zas (L : List Fil) : Int := if zhd L ≠ 0 then zhd L else if L.any z8v then 1 else if L.any qc7 then 134 else 0
theorem zxz {L : List Fil} {i : Nat} {f : Fil} (hi : L[i]? = some f) (hf : (zbd f.path).2 ≠ 0) (hb : ∀ g ∈ L.take i, (zbd g.path).2 = 0) : zhd L = (zbd f.path).2 := by
 have hil := (List.getElem?_eq_some_iff.1 hi).1
 have e : L = L.take i ++ f :: L.drop (i + 1) := by
  conv => lhs; rw [← List.take_append_drop i L]
  rw [List.drop_eq_getElem_cons hil, (List.getElem?_eq_some_iff.1 hi).2]
 unfold zhd
 rw [e, List.find?_append, List.find?_eq_none.2 (fun g hg => by simp [ql4, hb g hg]), Option.none_or, List.find?_cons]
 have : ql4 f = true := by simp [ql4, hf]
 rw [this]
theorem zs5 {L : List Fil} (hb : ∀ g ∈ L, (zbd g.path).2 = 0) : zhd L = 0 := by
 unfold zhd
 rw [List.find?_eq_none.2 (fun g hg => by simp [ql4, hb g hg])]
theorem zdr {L : List Fil} {i : Nat} {f : Fil} (hi : L[i]? = some f) {q : Fil → Prop} (h : ∀ g ∈ L.take i, q g) (hf : q f) : ∀ g ∈ L.take (i + 1), q g := by
 intro g hg
 rw [List.take_add_one, hi] at hg
 rcases List.mem_append.1 hg with hg | hg
 ·exact h g hg
 ·simp at hg; rw [hg]; exact hf
theorem qfp {w : World} {H : Heap} {a : Option Addr} {n nc F : Nat} {L : List Fil} {g : Fil → Bool} (hw : w.heap = H) (hL : Cells H a (L.flatMap zbo)) (hn : n = L.length) (hm : L.length ≤ 1099511627776)
  (hg : ∀ (f : Fil) (w : World), qg P F #[.agg (zbo f).toArray] w fun e w' => e = .returned (.bool (g f)) ∧ Ext [] w.heap w'.heap) :
  qg P zal #[.slice a n nc, .func (.func F) #[] #[]] w fun e w' => e = .returned (.bool (L.any g)) ∧ Ext [] H w'.heap := by
 subst hn
 refine zep ?_
 unfold za2
 have h : qg P za9 #[.slice a L.length nc, .func (.func F) #[] #[]] w fun e w' => ∃ k : Int, e = .returned (.int .i64 k) ∧ (0 ≤ k ↔ L.any g = true) ∧ Ext [] H w'.heap := by
  refine zfc ?_
  unfold zba
  refine jd (fun (s : Int) W => ∃ i : Nat, s = (i : Int) ∧ i ≤ L.length ∧ (∀ f ∈ L.take i, g f = false) ∧ Ext [] H W.heap) (fun s _ => (L.length - s).toNat) ⟨0, rfl, Nat.zero_le _, by simp, by rw [hw]; exact .refl _ _⟩ ?_
  rintro _ W ⟨i, rfl, hi, hno, hxW⟩
  refine zq (fun hlt => ?_) (fun hge => ?_)
  ·have hil : i < L.length := by omega
   have hget := List.getElem?_eq_getElem hil
   have hmem : L[i] ∈ L := List.getElem_mem hil
   generalize L[i] = f at hget hmem
   refine zkm (i := i) zb8 (by omega) rfl (hL.ext hxW (by simp)) rfl hget rfl ?_
   refine zqc (args := #[.agg (zbo f).toArray]) (cap := #[]) ?_
   refine (hg f W).mono ?_
   rintro e w2 ⟨rfl, hx2⟩
   refine ⟨g f, rfl, ?_⟩
   cases hgf : g f with
   | true => exact zaa rfl ⟨_, rfl, ⟨fun _ => List.any_eq_true.2 ⟨f, hmem, hgf⟩, fun _ => by omega⟩, hxW.trans hx2⟩
   | false =>
    refine jl rfl ?_
    refine xw ((i + 1 : Nat) : Int) (by omega) (by omega) (by omega) ?_
    exact ⟨⟨i + 1, rfl, by omega, zdr (q := fun f => g f = false) hget hno hgf, hxW.trans hx2⟩, by omega⟩
  ·obtain rfl : i = L.length := by omega
   rw [List.take_length] at hno
   refine ⟨_, rfl, ⟨fun h => by omega, fun h => ?_⟩, hxW⟩
   obtain ⟨f, hf, hgf⟩ := List.any_eq_true.1 h
   rw [hno f hf] at hgf; cases hgf
 refine zk h ?_
 rintro e w1 ⟨k, rfl, hk, hx⟩
 refine ⟨k, rfl, ?_⟩
 refine ⟨?_, hx⟩
 congr 2
 rw [Bool.eq_iff_iff, ← hk]
 simp
theorem qny (f : Fil) (w : World) : qg P zl3 #[.agg (zbo f).toArray] w fun e w' => e = .returned (.bool (z8v f)) ∧ Ext [] w.heap w'.heap := by
 refine zw2 ?_
 unfold zl8
 refine jw rfl fun w1 hw1 => ?_
 have hx1 : Ext [] w.heap w1.heap := by rw [hw1]; exact .push _
 have hb1 : w1.heap[w.heap.size]? = some (.cells (zbo f).toArray zl (0, 0)) := by rw [hw1]; exact zn
 refine jh (s := .bool) (t := f.dir) rfl hb1 rfl ?_
 cases hd : f.dir with
 | false => exact jl rfl ⟨by simp [z8v, hd], hx1⟩
 | true =>
  refine zaa rfl ?_
  refine jh (s := .str) (t := strOf f.data) rfl hb1 rfl ?_
  refine ⟨?_, hx1⟩
  congr 2
  rw [z8v, hd, Bool.true_and]
  congr 1
  rw [Bool.eq_iff_iff, zkh, decide_eq_true_eq]
theorem qnm (f : Fil) (w : World) : qg P zmb #[.agg (zbo f).toArray] w fun e w' => e = .returned (.bool (qc7 f)) ∧ Ext [] w.heap w'.heap := by
 refine zzb ?_
 unfold zmq
 refine jw rfl fun w1 hw1 => ?_
 have hx1 : Ext [] w.heap w1.heap := by rw [hw1]; exact .push _
 have hb1 : w1.heap[w.heap.size]? = some (.cells (zbo f).toArray zl (0, 0)) := by rw [hw1]; exact zn
 refine jh (s := .str) (t := strOf f.data) rfl hb1 rfl ?_
 refine ⟨?_, hx1⟩
 congr 2
 unfold qc7
 rw [Bool.eq_iff_iff]
 simp
 omega
theorem uSE : P.underlying zaq = some (.slice zy) := by kernel_rfl
theorem EEn : Elem P zy 4 64 := zmn (z := .agg (zjq ⟨(none, 0, 0), ⟨[], false, []⟩⟩).toArray) (by kernel_rfl) rfl
theorem bE (x : Option Addr × Nat × Nat) (p d : ByteArray) (b : Bool) (w : World) : (Instr.build zy #[(0, .slice x.1 x.2.1 x.2.2), (1, .agg #[.string p, .bool b, .string d])]).run P w = .ok (.agg #[.slice x.1 x.2.1 x.2.2, .string p, .bool b, .string d]) w := by kernel_rfl
theorem qfw {w : World} {H : Heap} {B : Nat} {x : Option Addr × Nat × Nat} {T : List ME} {i : ME} (hw : w.heap = H) (hm : Mine H B zy 4 x (T.flatMap zjq)) (hBs : B ≤ H.size) (hlen : T.length ≤ 1073741824) {K : (Option Addr × Nat × Nat) → World → Prop}
  (hK : ∀ x' w', Mine w'.heap B zy 4 x' ((T ++ [i]).flatMap zjq) → Ext (xu x) H w'.heap → (∀ c ∈ xu x', c ∈ xu x ∨ H.size ≤ c) → x'.2.1 = T.length + 1 → K x' w') :
  zan P (Instr.buildSlice zaq 1 #[(0, .agg (zjq i).toArray)]) .slc w fun (t27 : (Option Addr × Nat × Nat)) w_13 =>
  zan P (Builtin.append_ #[zaq, zaq] zaq #[(Value.slice x.1 x.2.1 x.2.2), (Value.slice t27.1 t27.2.1 t27.2.2)]) .slc w_13 K := by
 have hlx : x.2.1 = T.length := by
  have := hm.len
  rw [qc zjq zh6] at this
  omega
 refine zai (s := .slc) (some ⟨w.heap.size, 0, none⟩, 1, 1) _ (zdy EEn uSE (v := .agg (zjq i).toArray) (by simp [Value.cells, zjq]) (by omega) (by omega)) ?_
 subst hw
 have hxp : Ext [] w.heap (w.heap.push (.cells (Value.agg (zjq i).toArray).cells zy)) := .push _
 refine zcr (bts := 64) (n := 1) (us := zjq i) (H := w.heap.push (.cells (Value.agg (zjq i).toArray).cells zy)) EEn (by omega) uSE (za6 uSE) rfl (hm.ext hxp (by simp)) (by simp; omega)
  (Src.slc rfl (.inr ⟨w.heap.size, 0, _, _, _, rfl, zn, by simp [zin], by simp [zin, List.take_of_length_le]⟩) (by rw [zh6])) z3a (by omega) ?_
 intro x' w4 hm4 hl4 hx4 hs4
 have hm4' : Mine w4.heap B zy 4 x' ((T ++ [i]).flatMap zjq) := by rw [List.flatMap_append, List.flatMap_singleton]; exact hm4
 refine hK x' w4 hm4' ((hxp.mono (by simp)).trans hx4) (fun c hc => ?_) ?_
 ·rcases hs4 c hc with h | h
  ·exact .inl h
  ·right; have := hxp.1; omega
 ·have := hm4'.len
  rw [qc zjq zh6] at this
  simp at this; omega
set_option maxHeartbeats 4000000 in
theorem qhx {w : World} {H : Heap} {a : Option Addr} {n nc : Nat} {L : List Fil} (hw : w.heap = H) (hL : Cells H a (L.flatMap zbo)) (hn : n = L.length) (hm : L.length ≤ 65536) :
  qg P zo3 #[.slice a n nc] w fun e w' => ∃ x, e = .returned (.tuple #[zc9 x, .int .i64 (zas L)]) ∧ Ext [] H w'.heap ∧ (zas L = 0 → ∃ ms : List ME, ms.map (·.f) = L ∧ Mine w'.heap H.size zy 4 x (ms.flatMap zjq) ∧ ∀ m ∈ ms, zql w'.heap m) := by
 subst hn
 refine z3g ?_
 unfold zpn
 refine jd (fun (s : (Option Addr × Nat × Nat) × Int) W => ∃ (i : Nat) (ms : List ME), s.2 = (i : Int) ∧ i ≤ L.length ∧ (∀ f ∈ L.take i, (zbd f.path).2 = 0) ∧ Ext [] H W.heap ∧ ms.map (·.f) = L.take i ∧ Mine W.heap H.size zy 4 s.1 (ms.flatMap zjq) ∧ ∀ m ∈ ms, zql W.heap m) (fun s _ => (L.length - s.2).toNat)
  ⟨0, [], rfl, Nat.zero_le _, by simp, by rw [hw]; exact .refl _ _, by simp, .inl ⟨rfl, rfl⟩, by simp⟩ ?_
 rintro ⟨x, _⟩ W ⟨i, ms, rfl, hi, hok, hxW, hms, hmW, hnW⟩
 have hml : ms.length = i := by have := congrArg List.length hms; simp at this; omega
 refine zq (fun hlt => ?_) (fun hge => ?_)
 ·have hil : i < L.length := by simp only at hlt; omega
  have hget := List.getElem?_eq_getElem hil
  generalize L[i] = f at hget
  refine zkm (i := i) zb8 (by omega) rfl (hL.ext hxW (by simp)) rfl hget rfl ?_
  refine qnh f rfl fun w3 hw3 => ?_
  have hx3 : Ext [] W.heap w3.heap := by rw [hw3]; exact .push _
  have hb3 : w3.heap[W.heap.size]? = some (.cells (zbo f).toArray zl (0, 0)) := by rw [hw3]; exact zn
  refine jh (s := .str) (t := strOf f.path) rfl hb3 rfl ?_
  refine zk (qjy f.path rfl) ?_
  rintro e w4 ⟨y, rfl, hm4, hx4⟩
  refine ⟨(y, (zbd f.path).2), rfl, ?_⟩
  have hx04 := hx3.trans hx4
  refine zb5 (fun hne => ?_) (fun hz => ?_)
  ·have hfb := zxz hget hne hok
   have hpc : zas L = (zbd f.path).2 := by unfold zas; rw [hfb, if_pos hne]
   exact ⟨(none, 0, 0), by rw [hpc]; rfl, hxW.trans hx04, fun h => absurd (by rw [← hpc, h]) hne⟩
  ·have hz : (zbd f.path).2 = 0 := hz
   refine jf rfl (hx4.get hb3 (by simp)) rfl ?_
   refine xg (s := .any) (.agg (zjq ⟨y, f⟩).toArray) (bE _ _ _ _ _) ?_
   have s04 := hx04.1
   have s0W := hxW.1
   refine qfw (i := ⟨y, f⟩) rfl (hmW.ext hx04 (by simp)) (by omega) (by omega) fun x' w6 hm6 hx6 hs6 _ => ?_
   have hx06 : Ext [] H w6.heap := zkp (hxW.trans hx04) (hmW.ext hx04 (by simp)) (Nat.le_refl _) hx6
   refine xw ((i + 1 : Nat) : Int) (by simp) (by omega) (by omega) ?_
   refine ⟨⟨i + 1, ms ++ [⟨y, f⟩], rfl, by omega, zdr (q := fun f => (zbd f.path).2 = 0) hget hok hz, hx06, ?_, hm6, fun m hm => ?_⟩, by simp only; omega⟩
   ·rw [List.map_append, hms, List.take_add_one, hget]; rfl
   ·have hxx := hmW.ext hx04 (by simp)
    rcases List.mem_append.1 hm with hm | hm
    ·exact ((hnW m hm).ext hx04 (by simp)).ext hx6 (zg1 ((hnW m hm).ext hx04 (by simp)) hxx (by decide))
    ·simp only [List.mem_singleton] at hm
     subst hm
     exact (hm4.ext hx6 (zg1 hm4 hxx (by decide))).mono (Nat.zero_le _)
 ·obtain rfl : i = L.length := by simp only at hge; omega
  rw [List.take_length] at hok hms
  have hfb := zs5 hok
  refine zk (qfp (g := z8v) rfl (hL.ext hxW (by simp)) rfl (by omega) qny) ?_
  rintro e w7 ⟨rfl, hx7⟩
  refine ⟨L.any z8v, rfl, ?_⟩
  cases h1 : L.any z8v with
  | true =>
   have hpc : zas L = 1 := by unfold zas; rw [hfb, h1]; rfl
   exact zaa rfl ⟨(none, 0, 0), by rw [hpc]; rfl, hxW.trans hx7, fun h => by rw [hpc] at h; cases h⟩
  | false =>
   refine jl rfl ?_
   refine zk (qfp (g := qc7) rfl (hL.ext (hxW.trans hx7) (by simp)) rfl (by omega) qnm) ?_
   rintro e w8 ⟨rfl, hx8⟩
   refine ⟨L.any qc7, rfl, ?_⟩
   cases h2 : L.any qc7 with
   | true =>
    have hpc : zas L = 134 := by unfold zas; rw [hfb, h1, h2]; rfl
    exact zaa rfl ⟨(none, 0, 0), by rw [hpc]; rfl, (hxW.trans hx7).trans hx8, fun h => by rw [hpc] at h; cases h⟩
   | false =>
    have hpc : zas L = 0 := by unfold zas; rw [hfb, h1, h2]; rfl
    have hx78 := hx7.trans hx8
    exact jl rfl ⟨x, by rw [hpc]; rfl, hxW.trans hx78, fun _ => ⟨ms, hms, hmW.ext hx78 (by simp), fun m hm => (hnW m hm).ext hx78 (by simp)⟩⟩
end Go.Proofs.YtbmegmbnlajbbaaGreatDoor
namespace Go.Fw
open Go Go.Proofs Go.Shelf Go.RowKit Go.Lib Go.Sort
variable {P : Program} {ρ : Ren} {α : Type} [Inhabited α]
theorem qjh (L : SlLaysF0.n6 P ρ) {k : Nat} (aE : ∀ w, (isAgg (ρ.t 24)).run P w = .ok true w) (zE : ∀ w, (Go.sizeOf (ρ.t 24)).run P w = .ok k w) (enc : α → List Value) (hk : ∀ x, (enc x).length = k) (h0 : 0 < k)
  (h1 : ∀ x, ∀ v ∈ enc x, v.oneCell' = true) (cf : α → α → Int) (hO : SWO (ltOf cf)) {g : Nat} (eg : ∀ args w, (callFunc g args).run P w = .ok (.enter g args) w) (e6 : ∀ args w, (callFunc (ρ.f 6) args).run P w = .ok (.enter (ρ.f 6) args) w)
  {w : World} {H : Heap} (hw : w.heap = H) {B : Nat} {T : TypeId} {x : Option Addr × Nat × Nat} {xs : List α}
  (hcmp : ∀ (W : World) y z, Ext (xu x) H W.heap → qg P g #[.agg (enc y).toArray, .agg (enc z).toArray] W fun e W' => e = .returned (.int .i64 (cf y z)) ∧ Ext [] W.heap W'.heap) (hM : Mine H B T k x (xs.flatMap enc)) (hlen : xs.length < 4611686018427387904) :
  qg P (ρ.f 6) #[.slice x.1 x.2.1 x.2.2, .func (.func g) #[] #[]] w fun e w' => e = .returned (.tuple #[]) ∧ ∃ ys : List α, ys.Perm xs ∧ ys.Pairwise (fun a b => ¬ cf b a < 0) ∧ Mine w'.heap B T k x (ys.flatMap enc) ∧ Ext (xu x) H w'.heap := by
 subst hw
 have hl := hM.len
 rw [qc enc hk] at hl
 have hxl : x.2.1 = xs.length := (Nat.eq_of_mul_eq_mul_right h0 hl).symm
 refine ⟨e6 _ _, ?_⟩
 rcases hM with ⟨rfl, hnil⟩ | ⟨b, c, hx1, hB, hb, hc, hl2, hle, he⟩
 ·clear hxl hl
  have hx0 : xs = [] := by
   have := congrArg List.length hnil
   rw [qc enc hk, List.length_nil] at this
   rcases Nat.mul_eq_zero.1 this with h | h
   ·exact List.eq_nil_of_length_eq_zero h
   ·omega
  refine (AnyF.slices_SortFunc_none L none 0 _ w).mono ?_
  rintro e w' ⟨he, hw'⟩
  subst hw'
  exact ⟨⟨he, [], by rw [hx0], .nil, .inl ⟨rfl, rfl⟩, .refl _ _⟩, .refl _⟩
 ·obtain ⟨xa, xl, xc⟩ := x
  simp only at hx1 hxl hc hl2 hle
  subst hx1 hxl
  have hlt : b < w.heap.size := lt_of_get hb
  have hcl : xs.length * k ≤ c.size := by rw [hc]; exact Nat.mul_le_mul_right k hle
  have hget : ∀ t, t < xs.length * k → c[t]? = (xs.flatMap enc)[t]? := by
   intro t ht
   rw [← he, Array.getElem?_toList, Array.getElem?_extract]
   rw [if_pos (by rw [qc enc hk]; omega)]
   simp
  have hH : HoldsK enc k w b 0 xs.toArray := by
   intro j hj
   simp only [size_flatK, List.size_toArray] at hj
   have h2 := z7y enc hk h0 xs.toArray j (by simpa using hj)
   refine ⟨?_, ?_⟩
   ·rw [Nat.zero_add, z1q rfl hb, hget j hj]
    simpa using h2
   ·exact z4e rfl hb
  have hgen : ∀ (m : Nat) (os : Array Obj) (dk : Array α), (sortWorldK enc k w b 0 m dk os).heap = (w.heap.setIfInBounds b (.cells (putCells id 0 (flatK enc k dk) c) T (0, 0))) ++ os := by
   intro m os dk
   unfold sortWorldK grow putRowK putRow mapBlock
   simp only [Sort.ahead]
   congr 1
   apply Array.ext_getElem?
   intro i
   rw [Array.getElem?_modify]
   by_cases hib : b = i
   ·subst hib
    simp only [if_pos, Array.getElem?_setIfInBounds_self_of_lt hlt, hb, Option.map_some]
    rfl
   ·rw [if_neg hib, Array.getElem?_setIfInBounds_ne hib]
  have hextg : ∀ (m : Nat) (os : Array Obj) (dk : Array α), Ext (xu (some ⟨b, 0, none⟩, xs.length, xc)) w.heap (sortWorldK enc k w b 0 m dk os).heap := by
   intro m os dk
   rw [hgen]
   refine ⟨by simp, fun i hi hn => ?_⟩
   rw [Array.getElem?_append_left (by simpa using hi)]
   exact Array.getElem?_setIfInBounds_ne (by rintro rfl; exact hn (by simp [xu]))
  have hcon := AnyQ.slices_SortFunc L k aE zE enc hk h1 cf hO g #[] b 0 xc xs.toArray w eg (fun m os dk _ x y => ?_) hH hlt (by simpa using hlen)
  ·simp only [List.size_toArray] at hcon
   refine hcon.mono ?_
   rintro e w' ⟨rfl, d', n, os, hp, hs, rfl⟩
   obtain ⟨hps, _, hpp⟩ := hp
   have hps' : d'.size = xs.length := by simpa using hps
   have hperm : d'.toList.Perm xs := by
    have h3 : (d'.extract 0 xs.length).toList = d'.toList := by
     simp only [Array.toList_extract, List.extract_eq_take_drop, List.drop_zero, Nat.sub_zero]
     exact List.take_of_length_le (by simp [hps'])
    have h4 : ((xs.toArray).extract 0 xs.length).toList = xs := by simp
    rw [h3, h4] at hpp
    exact hpp
   have hsort : d'.toList.Pairwise (fun a b => ¬ cf b a < 0) := by
    rw [List.pairwise_iff_getElem]
    intro i j hi hj hij
    have := hs i j (Nat.zero_le _) hij (by simpa [hps'] using hj)
    simp only [ltOf, decide_eq_false_iff_not] at this
    rw [getElem!_pos d' j (by simpa using hj), getElem!_pos d' i (by simpa using hi)] at this
    simpa using this
   have hheap : (sortWorldK enc k w b 0 n d' os).heap = (w.heap.setIfInBounds b (.cells (putCells id 0 (flatK enc k d') c) T (0, 0))) ++ os := by
    unfold sortWorldK grow putRowK putRow mapBlock
    simp only [Sort.ahead]
    congr 1
    apply Array.ext_getElem?
    intro i
    rw [Array.getElem?_modify]
    by_cases hib : b = i
    ·subst hib
     simp only [if_pos, Array.getElem?_setIfInBounds_self_of_lt hlt, hb, Option.map_some]
     rfl
    ·rw [if_neg hib, Array.getElem?_setIfInBounds_ne hib]
   have hsz : (putCells id 0 (flatK enc k d') c).size = c.size := by simp [putCells]
   have hext : Ext (xu (some ⟨b, 0, none⟩, xs.length, xc)) w.heap (sortWorldK enc k w b 0 n d' os).heap := by
    rw [hheap]
    refine ⟨by simp, fun i hi hn => ?_⟩
    rw [Array.getElem?_append_left (by simpa using hi)]
    exact Array.getElem?_setIfInBounds_ne (by rintro rfl; exact hn (by simp [xu]))
   refine ⟨⟨rfl, d'.toList, hperm, hsort, .inr ⟨b, _, rfl, hB, ?_, hsz.trans hc, ?_, hle, ?_⟩, hext⟩, ?_⟩
   ·rw [hheap, Array.getElem?_append_left (by simpa using hlt), Array.getElem?_setIfInBounds_self_of_lt hlt]
   ·rw [qc enc hk]; simp [hps']
   ·apply List.ext_getElem?
    intro t
    rw [Array.getElem?_toList, Array.getElem?_extract, qc enc hk]
    simp only [Array.length_toList, hps']
    by_cases ht : t < xs.length * k
    ·rw [if_pos (by omega)]
     have h5 := z7y enc hk h0 d' t (by rw [hps']; exact ht)
     rw [h5]
     have h6 : t < c.size := by omega
     simp only [putCells, Nat.zero_add, Array.getElem?_mapIdx, Array.getElem?_eq_getElem h6, Option.map_some]
     rw [if_pos ⟨Nat.zero_le _, by simp [hps', ht]⟩]
     rfl
    ·rw [if_neg (by omega), List.getElem?_eq_none (by rw [qc enc hk]; simp [hps']; omega)]
   ·unfold sortWorldK grow putRowK putRow mapBlock
    exact ⟨rfl, rfl, rfl, by simp [Sort.ahead]⟩
  ·have h := (hcmp (sortWorldK enc k w b 0 m dk os) x y (hextg m os dk)).2
   exact h.mono fun e W' ⟨⟨he, hx⟩, hc⟩ => ⟨he, grown_of hx hc⟩
end Go.Fw
namespace Go.Proofs.YtbmegmbnlajbbaaGreatDoor
open Go Go.Fw Go.Proofs Go.Sort
theorem qin {W : World} {y z : ME} (hy : zql W.heap y) (hz : zql W.heap z) : qg P zfu #[.agg (zjq y).toArray, .agg (zjq z).toArray] W fun e W' => e = .returned (.int .i64 (zfy (nm y.f) (nm z.f))) ∧ Ext [] W.heap W'.heap := by
 refine zyd ?_
 unfold zln
 refine jw rfl fun w1 hw1 => ?_
 have hx1 : Ext [] W.heap w1.heap := by rw [hw1]; exact .push _
 have hb1 : w1.heap[W.heap.size]? = some (.cells (zjq y).toArray zy (0, 0)) := by rw [hw1]; exact zn
 refine jw rfl fun w2 hw2 => ?_
 have hx2 : Ext [] w1.heap w2.heap := by rw [hw2]; exact .push _
 have hb2 : w2.heap[w1.heap.size]? = some (.cells (zjq z).toArray zy (0, 0)) := by rw [hw2]; exact zn
 have hx := hx1.trans hx2
 have hyl : y.hdr.2.1 = (nm y.f).length := by have := Mine.len hy; simp at this; omega
 have hzl : z.hdr.2.1 = (nm z.f).length := by have := Mine.len hz; simp at this; omega
 have h8 := (zk7 y.f).2
 refine jh (s := .slc) (t := y.hdr) rfl (hx2.get hb1 (by simp)) rfl ?_
 refine jh (s := .slc) (t := z.hdr) rfl hb2 rfl ?_
 refine zk (z5n rfl (Mine.ext hy hx (by simp)).cells hyl (Mine.ext hz hx (by simp)).cells hzl (by omega)) ?_
 rintro e w3 ⟨rfl, hw3⟩
 refine ⟨zfy (nm y.f) (nm z.f), rfl, ?_⟩
 exact ⟨rfl, by rw [hw3]; exact hx⟩
theorem qjm {w : World} {H : Heap} {B : Nat} {x : Option Addr × Nat × Nat} {ms : List ME} (hw : w.heap = H) (hM : Mine H B zy 4 x (ms.flatMap zjq)) (hn : ∀ m ∈ ms, zql H m) (hne : ms ≠ []) (hlen : ms.length < 4611686018427387904) :
  qg P zce #[.slice x.1 x.2.1 x.2.2, .func (.func zfu) #[] #[]] w fun e w' => e = .returned (.tuple #[]) ∧ ∃ ys : List ME, ys.Perm ms ∧ ys.Pairwise (fun a b => ¬ zfy (nm b.f) (nm a.f) < 0) ∧ Mine w'.heap B zy 4 x (ys.flatMap zjq) ∧ Ext (xu x) H w'.heap := by
 obtain ⟨m0, hm0⟩ := List.exists_mem_of_ne_nil _ hne
 let α := { m : ME // m ∈ ms }
 haveI : Inhabited α := ⟨⟨m0, hm0⟩⟩
 have hflat : ms.flatMap zjq = ms.attach.flatMap fun (m : α) => zjq m.1 := by
  conv => lhs; rw [← List.attach_map_subtype_val ms]
  rw [List.flatMap_map]
 rw [hflat] at hM
 have h := qjh (α := α) Tryz.sortE (k := 4) (fun w => by kernel_rfl) (fun w => by kernel_rfl) (fun m => zjq m.1) (fun m => zh6 m.1) (by omega) (fun m => z3a) (fun a b => zfy (nm a.1.f) (nm b.1.f)) (qh7 (α := α) (fun m => nm m.1.f)) (g := zfu) (fun args w => by kernel_rfl) (fun args w => by kernel_rfl)
  (w := w) (H := H) (x := x) (xs := ms.attach) hw (fun W y z hx => by
   have hk : ∀ m : α, zql W.heap m.1 := fun m => Mine.ext (hn m.1 m.2) hx (zg1 (hn m.1 m.2) hM (by decide))
   exact qin (hk y) (hk z)) hM (by rw [List.length_attach]; exact hlen)
 refine h.mono ?_
 rintro e w' ⟨rfl, ys, hp, hs, hm, hx⟩
 refine ⟨rfl, ys.map Subtype.val, ?_, ?_, ?_, hx⟩
 ·have := hp.map Subtype.val
  rw [List.attach_map_subtype_val] at this
  exact this
 ·rw [List.pairwise_map]; exact hs
 ·rw [List.flatMap_map]; exact hm
def zze (L : List Fil) : Prop := ∃ i, ∃ h : i < L.length, nm L[i] = [] ∨ ∃ g ∈ L.take i, nm g = nm L[i]
def qeq (L : List Fil) : Prop := ∃ f ∈ L, (nm f).dropLast ≠ [] ∧ ∀ g ∈ L, nm g ≠ (nm f).dropLast
def zz0 (L : List Fil) : Prop := ∃ f ∈ L, ∃ g ∈ L, nm g = (nm f).dropLast ∧ g.dir = false
def qfl (L : List Fil) : Prop := ∃ f ∈ L, 64 < (kids L (nm f).dropLast).length
open Classical in
noncomputable def zcc (L : List Fil) : Int := if zze L then 5 else if qeq L then 4 else if zz0 L then 70 else if qfl L then 8 else 0
theorem z8z {L : List Fil} (h : zze L) : zcc L = 5 := by unfold zcc; rw [if_pos h]
theorem z15 {L : List Fil} (h5 : ¬ zze L) (h : qeq L) : zcc L = 4 := by unfold zcc; rw [if_neg h5, if_pos h]
theorem z3w {L : List Fil} (h5 : ¬ zze L) (h4 : ¬ qeq L) (h : zz0 L) : zcc L = 70 := by unfold zcc; rw [if_neg h5, if_neg h4, if_pos h]
theorem z92 {L : List Fil} (h5 : ¬ zze L) (h4 : ¬ qeq L) (h70 : ¬ zz0 L) (h : qfl L) : zcc L = 8 := by unfold zcc; rw [if_neg h5, if_neg h4, if_neg h70, if_pos h]
theorem z9w {L : List Fil} (h5 : ¬ zze L) (h4 : ¬ qeq L) (h70 : ¬ zz0 L) (h : ¬ qfl L) : zcc L = 0 := by unfold zcc; rw [if_neg h5, if_neg h4, if_neg h70, if_neg h]
theorem zjv {L : List Fil} (h : ¬ zze L) : (L.map nm).Nodup ∧ ∀ f ∈ L, nm f ≠ [] := by
 constructor
 ·rw [List.nodup_iff_pairwise_ne, List.pairwise_map, List.pairwise_iff_getElem]
  intro i j hi hj hij e
  exact h ⟨j, hj, .inr ⟨L[i], List.mem_take_iff_getElem.2 ⟨i, by omega, rfl⟩, e⟩⟩
 ·intro f hf e
  obtain ⟨i, hi, rfl⟩ := List.getElem_of_mem hf
  exact h ⟨i, hi, .inl e⟩
theorem zyx {A B : List Fil} (h : A.Perm B) (p : Path) : (kids A p).Perm (kids B p) := h.filter _
theorem qif {L : List Fil} (h5 : ¬ zze L) (h8 : ¬ qfl L) (p : Path) : (kids (zhs L) p).length ≤ 64 := by
 rw [(zyx (zh3 (zjv h5).1).1 p).length_eq]
 by_cases hk : kids L p = []
 ·rw [hk]; simp
 ·obtain ⟨f, hf⟩ := List.exists_mem_of_ne_nil _ hk
  obtain ⟨h1, h2, h3⟩ := zf1 hf
  rw [← h3]
  exact Nat.le_of_not_lt fun h => h8 ⟨f, h1, h⟩
theorem uMT : P.underlying zbk = some (.map qx zy) := by kernel_rfl
def z8h : ME := ⟨(none, 0, 0), ⟨[], true, []⟩⟩
def zeroE : ME := ⟨(none, 0, 0), ⟨[], false, []⟩⟩
def evE (m : ME) : Value := .agg (zjq m).toArray
theorem zET (w : World) : (zeroValue zy).run P w = .ok (evE zeroE) w := by kernel_rfl
theorem bF1 (w : World) : (Instr.build zl #[(1, .bool true)]).run P w = .ok (.agg (zbo ⟨[], true, []⟩).toArray) w := by kernel_rfl
abbrev PM := ML (List UInt8) ME
def Places (M : PM) (ms : List ME) : Prop := ∀ p, okP p → zcf M (vk p) = if p = [] then some z8h else ms.find? fun m => decide (nm m.f = p)
theorem MOk.map_val {κ ν ν' : Type} [DecidableEq κ] {ok : κ → Prop} {l : ML κ ν} {c : Nat} (h : MOk ok l c) (g : κ × ν × Nat → ν') : MOk ok (l.map fun x => (x.1, g x, x.2.2)) c := by
 refine ⟨?_, ?_, ?_, ?_⟩
 ·have := h.keys; simp only [List.map_map]; exact this
 ·have := h.born; simp only [List.map_map]; exact this
 ·intro x hx; obtain ⟨y, hy, rfl⟩ := List.mem_map.1 hx; exact h.old y hy
 ·intro x hx; obtain ⟨y, hy, rfl⟩ := List.mem_map.1 hx; exact h.fine y hy
def zuk (p : Path) (m : ME) : Bool := decide ((nm m.f).dropLast = p)
structure RowsW (W : Heap) (B : Nat) (K : KM) (ms : List ME) : Prop where
 key : ∀ z ∈ K, ∃ p, okP p ∧ z.1 = vk p
 get : ∀ p, okP p → (match zcf K (vk p) with | none => ms.filter (zuk p) = [] | some v => v.2 = ms.filter (zuk p) ∧ v.2 ≠ [])
 row : ∀ z ∈ K, Mine W B zy 4 z.2.1.1 (z.2.1.2.flatMap zjq)
 apart : ∀ z ∈ K, ∀ z' ∈ K, z.1 ≠ z'.1 → ∀ b ∈ xu z.2.1.1, b ∉ xu z'.2.1.1
theorem RowsW.step {H H' : Heap} {B clk : Nat} {K : KM} {ms : List ME} {m : ME} {v : (Option Addr × Nat × Nat) × List ME} {x' : Option Addr × Nat × Nat} (h : RowsW H B K ms) (hM : MOk (fun _ => True) K clk) (hv : (zcf K (vk (nm m.f).dropLast)).getD ((none, 0, 0), []) = v)
  (hm : Mine H' B zy 4 x' ((v.2 ++ [m]).flatMap zjq)) (hx : Ext (xu v.1) H H') (hs : ∀ c ∈ xu x', c ∈ xu v.1 ∨ H.size ≤ c) : RowsW H' B (zo0 K (vk (nm m.f).dropLast) (x', v.2 ++ [m]) clk) (ms ++ [m]) := by
 have hokd : okP (nm m.f).dropLast := by rw [List.dropLast_eq_take]; exact (zk7 m.f).take _
 have hold : ∀ z ∈ K, z.1 ≠ vk (nm m.f).dropLast → Mine H' B zy 4 z.2.1.1 (z.2.1.2.flatMap zjq) ∧ ∀ b ∈ xu z.2.1.1, b ∉ xu x' := by
  intro z hz hne
  have hap : ∀ b ∈ xu z.2.1.1, b ∉ xu v.1 := by
   cases hg : zcf K (vk (nm m.f).dropLast) with
   | none => rw [hg] at hv; subst hv; simp [xu]
   | some u =>
    rw [hg] at hv
    obtain ⟨c, hc⟩ := zfh hg
    have hu : u = v := hv
    subst hu
    exact h.apart z hz _ hc hne
  refine ⟨(h.row z hz).ext hx hap, fun b hb hb' => ?_⟩
  rcases hs b hb' with h' | h'
  ·exact hap b hb h'
  ·have := (za7 (h.row z hz) b hb).1; omega
 have hmem : ∀ z ∈ zo0 K (vk (nm m.f).dropLast) (x', v.2 ++ [m]) clk, (z.1 = vk (nm m.f).dropLast ∧ z.2.1 = (x', v.2 ++ [m])) ∨ (z.1 ≠ vk (nm m.f).dropLast ∧ z ∈ K) := fun z hz => zo9 hz
 refine ⟨fun z hz => ?_, fun p hp => ?_, fun z hz => ?_, fun z hz z' hz' hne b hb => ?_⟩
 ·rcases hmem z hz with ⟨h1, _⟩ | ⟨_, h1⟩
  ·exact ⟨_, hokd, h1⟩
  ·exact h.key z h1
 ·rw [zwb]
  by_cases e : vk p = vk (nm m.f).dropLast
  ·rw [if_pos e]
   have hpe := zv7 hp hokd e
   subst hpe
   have hgp := h.get _ hokd
   have h2 : v.2 = ms.filter (zuk (nm m.f).dropLast) := by
    cases hg : zcf K (vk (nm m.f).dropLast) with
    | none => rw [hg] at hgp hv; subst hv; exact hgp.symm
    | some u => rw [hg] at hgp hv; have hu : u = v := hv; subst hu; exact hgp.1
   simp only
   rw [List.filter_append, ← h2]
   exact ⟨by simp [zuk], by simp⟩
  ·rw [if_neg e]
   have hne : (nm m.f).dropLast ≠ p := by rintro rfl; exact e rfl
   have := h.get p hp
   cases hg : zcf K (vk p) with
   | none =>
    rw [hg] at this
    simp only at this ⊢
    rw [List.filter_append, this]
    simp [zuk, hne]
   | some u =>
    rw [hg] at this
    simp only at this ⊢
    refine ⟨?_, this.2⟩
    rw [List.filter_append, this.1]
    simp [zuk, hne]
 ·rcases hmem z hz with ⟨_, h1⟩ | ⟨h0, h1⟩
  ·rw [h1]; exact hm
  ·exact (hold z h1 h0).1
 ·rcases hmem z hz with ⟨e1, h1⟩ | ⟨e1, h1⟩
  ·rcases hmem z' hz' with ⟨e2, _⟩ | ⟨e2, h2⟩
   ·exact absurd (e1.trans e2.symm) hne
   ·rw [h1] at hb
    exact fun h3 => (hold z' h2 e2).2 b h3 hb
  ·rcases hmem z' hz' with ⟨e2, h2⟩ | ⟨e2, h2⟩
   ·rw [h2]; exact (hold z h1 e1).2 b hb
   ·intro h3; exact h.apart z h1 z' h2 hne b hb h3
theorem find_none_of {ms : List ME} {p : Path} : (ms.find? fun m => decide (nm m.f = p)) = none ↔ ∀ m ∈ ms, nm m.f ≠ p := by
 rw [List.find?_eq_none]
 simp
theorem find_some_of {ms : List ME} {p : Path} {m : ME} (h : (ms.find? fun m => decide (nm m.f = p)) = some m) : m ∈ ms ∧ nm m.f = p := by
 have h1 := List.mem_of_find?_eq_some h
 have h2 := List.find?_some h
 exact ⟨h1, by simpa using h2⟩
theorem z7k {α β : Type} {g : α → β} : ∀ {L : List α}, (L.map g).Nodup → ∀ {a b : α}, a ∈ L → b ∈ L → g a = g b → a = b
 | [], _, _, _, ha, _, _ => by simp at ha
 | x :: L, h, a, b, ha, hb, e => by
  rw [List.map_cons, List.nodup_cons] at h
  rcases List.mem_cons.1 ha with h1 | h1 <;> rcases List.mem_cons.1 hb with h2 | h2
  ·rw [h1, h2]
  ·subst h1; exact absurd (List.mem_map.2 ⟨b, h2, e.symm⟩) h.1
  ·subst h2; exact absurd (List.mem_map.2 ⟨a, h1, e⟩) h.1
  ·exact z7k h.2 h1 h2 e
theorem znw {ms : List ME} {p : Path} (hne : ∀ m ∈ ms, nm m.f ≠ []) : (ms.filter (zuk p)).map (·.f) = kids (ms.map (·.f)) p := by
 unfold kids
 rw [List.filter_map]
 congr 1
 apply List.filter_congr
 intro m hm
 simp [zuk, qbm, hne m hm]
theorem qa6 {ms : List ME} {i : Nat} : (ms.take i).map (·.f) = (ms.map (·.f)).take i := List.map_take
structure Rows3 (W : Heap) (B : Nat) (K K3 : KM) (seen : Array Nat) : Prop where
 vls : vl evK K3 = vl evK K
 from_ : ∀ z ∈ K3, ∃ z0 ∈ K, z0.1 = z.1 ∧ z0.2.1.1 = z.2.1.1 ∧ z.2.1.2.Perm z0.2.1.2
 row : ∀ z ∈ K3, Mine W B zy 4 z.2.1.1 (z.2.1.2.flatMap zjq)
 done : ∀ z ∈ K3, z.2.2 ∈ seen → z.2.1.2.length ≤ 64 ∧ z.2.1.2.Pairwise fun a b => ¬ zfy (nm b.f) (nm a.f) < 0
theorem z88 {es fs : List ME} {L : List Fil} {p : Path} (hp : es.Perm fs) (hfs : fs.map (·.f) = kids L p) (hnd : (L.map nm).Nodup) (hs : es.Pairwise fun a b => ¬ zfy (nm b.f) (nm a.f) < 0) : es.map (·.f) = kids (zhs L) p := by
 have hsp := zh3 hnd
 have hperm : (es.map (·.f)).Perm (kids L p) := by rw [← hfs]; exact hp.map _
 have hnk : ((kids L p).map nm).Nodup := (List.filter_sublist.map nm).nodup hnd
 have hne : ((es.map (·.f)).map nm).Nodup := (hperm.map nm).nodup_iff.2 hnk
 refine z8s ?_ (hsp.2.sublist List.filter_sublist) (hperm.trans (zyx hsp.1 p).symm)
 unfold zsn
 rw [List.pairwise_map]
 rw [List.nodup_iff_pairwise_ne, List.pairwise_map, List.pairwise_map] at hne
 refine (hs.and hne).imp fun {a b} h => ?_
 have h1 := zoo (p := nm a.f) (q := nm b.f)
 have h2 : zfy (nm a.f) (nm b.f) ≠ 0 := fun e => h.2 (znr.1 e)
 have h3 := h.1
 omega
set_option maxHeartbeats 32000000 in
theorem qhi {w : World} {H : Heap} {a : Option Addr} {n nc : Nat} {ms : List ME} (hw : w.heap = H) (hL : Cells H a (ms.flatMap zjq)) (hn : n = ms.length) (hm : ms.length ≤ 65536) (hN : ∀ m ∈ ms, zql H m) :
  qg P zph #[.slice a n nc] w fun e w' => ∃ v, e = .returned (.tuple #[.map v, .int .i64 (zcc (ms.map (·.f)))]) ∧ Ext [] H w'.heap ∧ (zcc (ms.map (·.f)) = 0 → ∃ mk, v = some mk ∧ qe2 w'.heap mk (zhs (ms.map (·.f)))) := by
 subst hn
 refine z2p ?_
 unfold zpp
 refine zai (s := .map) (some H.size) _ (ztc hw) ?_
 refine xg (s := .any) _ (bF1 _) ?_
 refine xg (s := .any) (evE z8h) (bE (none, 0, 0) _ _ _ _) ?_
 have hm1 : (H.push (.map #[] 0))[H.size]? = some (.map (ents keyS (vl evE ([] : PM))) 0) := zn
 refine zyt _ (ztl qi7 uMT (w := { w with heap := H.push (.map #[] 0) }) rfl hm1 MOk.nil (k := vk []) trivial z8h rfl) ?_
 generalize hW0 : ({ w with heap := (H.push (.map #[] 0)).setIfInBounds H.size (.map (ents keyS (vl evE (zo0 ([] : PM) (vk []) z8h 0))) (zu4 ([] : PM) (vk []) 0)) } : World) = W0
 have hh0 : W0.heap = (H.push (.map #[] 0)).setIfInBounds H.size (.map (ents keyS (vl evE (zo0 ([] : PM) (vk []) z8h 0))) (zu4 ([] : PM) (vk []) 0)) := by rw [← hW0]
 have hx0 : Ext [] H W0.heap := by rw [hh0]; exact (Ext.push _).set_own (.inl (Nat.le_refl _))
 have hp0 : W0.heap[H.size]? = some (.map (ents keyS (vl evE (zo0 ([] : PM) (vk []) z8h 0))) (zu4 ([] : PM) (vk []) 0)) := by rw [hh0]; exact qm hm1
 have hok0 : MOk (fun _ => True) (zo0 ([] : PM) (vk []) z8h 0) (zu4 ([] : PM) (vk []) 0) := MOk.nil.upd trivial _
 have hnil : okP [] := ⟨by simp, by simp⟩
 have hpl0 : Places (zo0 ([] : PM) (vk []) z8h 0) [] := by
  intro p hp
  rw [zwb]
  by_cases e : p = []
  ·subst e; rw [if_pos rfl, if_pos rfl]
  ·rw [if_neg (fun h => e (zv7 hp hnil h)), if_neg e]; rfl
 have hlm : (ms.map (·.f)).length = ms.length := by simp
 have hHs0 : H.size < W0.heap.size := lt_of_get hp0
 refine jd (fun (s : Int) W => ∃ (i : Nat) (M : PM) (c : Nat), s = (i : Int) ∧ i ≤ ms.length ∧ Ext [] H W.heap ∧ W.heap[H.size]? = some (.map (ents keyS (vl evE M)) c) ∧ MOk (fun _ => True) M c ∧ Places M (ms.take i) ∧ (∀ j (h : j < (ms.map (·.f)).length), j < i → nm (ms.map (·.f))[j] ≠ [] ∧ ∀ g ∈ (ms.map (·.f)).take j, nm g ≠ nm (ms.map (·.f))[j]))
  (fun s _ => (ms.length - s).toNat) ⟨0, _, _, rfl, Nat.zero_le _, hx0, hp0, hok0, by simpa using hpl0, fun j _ h => by omega⟩ ?_
 rintro _ W ⟨i, M, c, rfl, hi, hxW, hpW, hoM, hPl, hgood⟩
 refine zq (fun hlt => ?_) (fun hge => ?_)
 ·have hil : i < ms.length := by omega
  have hget := List.getElem?_eq_getElem hil
  have hmem : ms[i] ∈ ms := List.getElem_mem hil
  have hfi : (ms.map (·.f))[i]'(by simpa using hil) = (ms[i]).f := by simp
  generalize ms[i] = m at hget hmem hfi
  have hsm := (zk7 m.f).small
  refine zkm (i := i) zh6 (by omega) rfl (hL.ext hxW (by simp)) rfl hget rfl ?_
  refine qkz m rfl fun w5 hw5 => ?_
  have hx5 : Ext [] W.heap w5.heap := by rw [hw5]; exact .push _
  have hb5 : w5.heap[W.heap.size]? = some (.cells (zjq m).toArray zy (0, 0)) := by rw [hw5]; exact zn
  have hnm := (hN m hmem)
  have hnl : m.hdr.2.1 = (nm m.f).length := by have := Mine.len hnm; simp at this; omega
  have hcap := zib hnm
  refine jh (s := .slc) (t := m.hdr) rfl hb5 rfl ?_
  refine zk (z1f rfl (Mine.ext hnm (hxW.trans hx5) (by simp)).cells hnl hcap (by omega)) ?_
  rintro e w6 ⟨rfl, hx6⟩
  refine ⟨strOf (vk (nm m.f)), rfl, ?_⟩
  have hx06 := hx5.trans hx6
  have hp6 := hx06.get hpW (by simp)
  have hlk := zjz qi7 uMT zET (w := w6) rfl hp6 hoM (k := vk (nm m.f)) trivial
  have hval : ((zcf M (vk (nm m.f))).map evE).getD (evE zeroE) = evE ((zcf M (vk (nm m.f))).getD zeroE) := by cases zcf M (vk (nm m.f)) <;> rfl
  rw [hval] at hlk
  refine znk (l := [.any, .bool]) (evE ((zcf M (vk (nm m.f))).getD zeroE), (zcf M (vk (nm m.f))).isSome) hlk ?_
  refine qkz ((zcf M (vk (nm m.f))).getD zeroE) rfl fun w8 hw8 => ?_
  have hx8 : Ext [] w6.heap w8.heap := by rw [hw8]; exact .push _
  have hx08 := hx06.trans hx8
  have hpm := hPl (nm m.f) (zk7 m.f)
  cases hs : (zcf M (vk (nm m.f))).isSome with
  | true =>
   refine zaa rfl ?_
   have h5 : zze (ms.map (·.f)) := by
    refine ⟨i, by simpa using hil, ?_⟩
    rw [hfi]
    by_cases e : nm m.f = []
    ·exact .inl e
    ·right
     rw [hpm, if_neg e] at hs
     obtain ⟨m', hm'⟩ := Option.isSome_iff_exists.1 hs
     obtain ⟨h1, h2⟩ := find_some_of hm'
     exact ⟨m'.f, by rw [← qa6]; exact List.mem_map.2 ⟨m', h1, rfl⟩, h2⟩
   exact ⟨none, by rw [z8z h5], hxW.trans hx08, fun h => by rw [z8z h5] at h; cases h⟩
  | false =>
   refine jl rfl ?_
   have hno : nm m.f ≠ [] ∧ ∀ m' ∈ ms.take i, nm m'.f ≠ nm m.f := by
    rw [hpm] at hs
    by_cases e : nm m.f = []
    ·rw [if_pos e] at hs; simp at hs
    ·rw [if_neg e] at hs
     exact ⟨e, find_none_of.1 (by simpa using hs)⟩
   refine vg rfl fun w9 hw9 => ?_
   have hx9 : Ext [] w8.heap w9.heap := by rw [hw9]; exact .refl _ _
   have hb9 := hx9.get (hx8.get (hx6.get hb5 (by simp)) (by simp)) (by simp)
   refine jh (s := .slc) (t := m.hdr) rfl hb9 rfl ?_
   refine jf rfl hb9 rfl ?_
   have hx09 := hx08.trans hx9
   refine zk (z1f rfl (Mine.ext hnm (hxW.trans hx09) (by simp)).cells hnl hcap (by omega)) ?_
   rintro e w10 ⟨rfl, hx10⟩
   refine ⟨strOf (vk (nm m.f)), rfl, ?_⟩
   refine ⟨jf rfl (hx10.get hb9 (by simp)) rfl rfl, ?_⟩
   have hx010 := hx09.trans hx10
   have hp10 := hx010.get hpW (by simp)
   refine zyt _ (ztl qi7 uMT (w := w10) rfl hp10 hoM (k := vk (nm m.f)) trivial m rfl) ?_
   refine xw ((i + 1 : Nat) : Int) (by omega) (by omega) (by omega) ?_
   refine ⟨⟨i + 1, _, _, rfl, by omega, (hxW.trans hx010).set_own (.inl (Nat.le_refl _)), qm hp10, hoM.upd trivial _, fun p hp => ?_, fun j hj hji => ?_⟩, by omega⟩
   ·rw [zwb, List.take_add_one, hget, Option.toList_some, List.find?_append]
    by_cases e : vk p = vk (nm m.f)
    ·have hpe := zv7 hp (zk7 m.f) e
     subst hpe
     rw [if_pos e, if_neg hno.1, find_none_of.2 hno.2]
     simp
    ·rw [if_neg e, hPl p hp]
     have hne : nm m.f ≠ p := by rintro rfl; exact e rfl
     by_cases e0 : p = []
     ·rw [if_pos e0, if_pos e0]
     ·rw [if_neg e0, if_neg e0]
      simp [hne]
   ·by_cases e : j = i
    ·subst e
     rw [hfi]
     refine ⟨hno.1, fun g hg => ?_⟩
     rw [← qa6] at hg
     obtain ⟨m', hm', rfl⟩ := List.mem_map.1 hg
     exact hno.2 m' hm'
    ·exact hgood j hj (by omega)
 ·obtain rfl : i = ms.length := by omega
  have h5 : ¬ zze (ms.map (·.f)) := by
   rintro ⟨j, hj, h⟩
   obtain ⟨g1, g2⟩ := hgood j hj (by omega)
   rcases h with h | ⟨g, hg, e⟩
   ·exact g1 h
   ·exact g2 g hg e
  rw [List.take_length] at hPl
  obtain ⟨hnd, hne⟩ := zjv h5
  have hnem : ∀ m ∈ ms, nm m.f ≠ [] := fun m hm => hne _ (List.mem_map.2 ⟨m, hm, rfl⟩)
  have hsW := hxW.1
  have hpml := lt_of_get hpW
  refine zai (s := .map) (some W.heap.size) { W with heap := W.heap.push (.map #[] 0) } (ztc rfl) ?_
  have hxm : Ext [] W.heap (W.heap.push (.map #[] 0)) := .push _
  refine jd (fun (s : Bool × Int) W2 => ∃ (i : Nat) (K : KM) (c2 : Nat), s.2 = (i : Int) ∧ i ≤ ms.length ∧ Ext [] W.heap W2.heap ∧ W2.heap[W.heap.size]? = some (.map (ents keyS (vl evK K)) c2) ∧ MOk (fun _ => True) K c2 ∧ RowsW W2.heap (W.heap.size + 1) K (ms.take i) ∧
    (s.1 = true ↔ ∃ f ∈ (ms.map (·.f)).take i, ∃ g ∈ ms.map (·.f), nm g = (nm f).dropLast ∧ g.dir = false) ∧ (∀ f ∈ (ms.map (·.f)).take i, (nm f).dropLast = [] ∨ ∃ g ∈ ms.map (·.f), nm g = (nm f).dropLast))
   (fun s _ => (ms.length - s.2).toNat) ⟨0, [], 0, rfl, Nat.zero_le _, hxm, zn, .nil, ⟨by simp, fun p hp => by simp [zcf], by simp, by simp⟩, by simp, by simp⟩ ?_
  rintro ⟨flat, _⟩ W2 ⟨i, K, c2, rfl, hi, hx2, hk2, hoK, hR, hfl, hab⟩
  have hxH2 := hxW.trans hx2
  have hp2 := hx2.get hpW (by simp)
  have hkl := lt_of_get hk2
  have hx2s := hx2.1
  refine zq (fun hlt => ?_) (fun hge => ?_)
  ·have hil : i < ms.length := by simp only at hlt; omega
   have hget := List.getElem?_eq_getElem hil
   have hmem : ms[i] ∈ ms := List.getElem_mem hil
   generalize ms[i] = m at hget hmem
   have hgf : (ms.map (·.f))[i]? = some m.f := by rw [List.getElem?_map, hget]; rfl
   have hsm := (zk7 m.f).small
   have hok8 := (zk7 m.f).2
   have hmne := hnem m hmem
   have hpos := List.length_pos_iff.2 hmne
   refine zkm (i := i) zh6 (by omega) rfl (hL.ext hxH2 (by simp)) rfl hget rfl ?_
   refine qkz m rfl fun w15 hw15 => ?_
   have hx15 : Ext [] W2.heap w15.heap := by rw [hw15]; exact .push _
   have hb15 : w15.heap[W2.heap.size]? = some (.cells (zjq m).toArray zy (0, 0)) := by rw [hw15]; exact zn
   have hnm := (hN m hmem)
   have hnl : m.hdr.2.1 = (nm m.f).length := by have := Mine.len hnm; simp at this; omega
   have hcap := zib hnm
   refine jh (s := .slc) (t := m.hdr) rfl hb15 rfl ?_
   refine jh (s := .slc) (t := m.hdr) rfl hb15 rfl ?_
   refine zbs ((m.hdr.2.1 - 1 : Nat) : Int) (by omega) (by omega) (by omega) ?_
   refine xg (s := .slc) (if m.hdr.2.2 = 0 then m.hdr.1 else m.hdr.1.map (·.add (0 * 1)), (m.hdr.2.1 - 1) - 0, m.hdr.2.2 - 0) (zaz zv3 qeh .no (.yes rfl) (Nat.zero_le _) (show m.hdr.2.1 - 1 ≤ m.hdr.2.2 by omega)) ?_
   have hcut := (Mine.cut (Mine.ext hnm (hxH2.trans hx15) (by simp)) (k := m.hdr.2.1 - 1) (by omega)).cells
   rw [zrg] at hcut
   have hdl : (nm m.f).take (m.hdr.2.1 - 1) = (nm m.f).dropLast := by rw [List.dropLast_eq_take, hnl]
   have hcut : Cells w15.heap (if m.hdr.2.2 = 0 then m.hdr.1 else m.hdr.1.map (·.add (0 * 1))) (strRow ((nm m.f).take (m.hdr.2.1 - 1))) := hcut
   rw [hdl] at hcut
   have hql : (nm m.f).dropLast.length = m.hdr.2.1 - 1 := by rw [List.length_dropLast]; omega
   have hokd : okP (nm m.f).dropLast := by rw [List.dropLast_eq_take]; exact (zk7 m.f).take _
   have hsmd := hokd.small
   refine zk (z1f rfl hcut (by rw [hql]; simp) (by simp only; omega) (by omega)) ?_
   rintro e w16 ⟨rfl, hx16⟩
   refine ⟨strOf (vk (nm m.f).dropLast), rfl, ?_⟩
   have hx216 := hx15.trans hx16
   have hp16 := hx216.get hp2 (by simp)
   have hlk := zjz qi7 uMT zET (w := w16) rfl hp16 hoM (k := vk (nm m.f).dropLast) trivial
   have hval : ((zcf M (vk (nm m.f).dropLast)).map evE).getD (evE zeroE) = evE ((zcf M (vk (nm m.f).dropLast)).getD zeroE) := by cases zcf M (vk (nm m.f).dropLast) <;> rfl
   rw [hval] at hlk
   refine znk (l := [.any, .bool]) (evE ((zcf M (vk (nm m.f).dropLast)).getD zeroE), (zcf M (vk (nm m.f).dropLast)).isSome) hlk ?_
   refine qkz ((zcf M (vk (nm m.f).dropLast)).getD zeroE) rfl fun w18 hw18 => ?_
   have hx18 : Ext [] w16.heap w18.heap := by rw [hw18]; exact .push _
   have hb18 : w18.heap[w16.heap.size]? = some (.cells (zjq ((zcf M (vk (nm m.f).dropLast)).getD zeroE)).toArray zy (0, 0)) := by rw [hw18]; exact zn
   have hx218 := hx216.trans hx18
   have hpm := hPl _ hokd
   have htk : (ms.map (·.f)).take (i + 1) = (ms.map (·.f)).take i ++ [m.f] := by rw [List.take_add_one, hgf]; rfl
   cases hs : (zcf M (vk (nm m.f).dropLast)).isSome with
   | false =>
    refine zaa rfl ?_
    have h4 : qeq (ms.map (·.f)) := by
     rw [hpm] at hs
     by_cases e : (nm m.f).dropLast = []
     ·rw [if_pos e] at hs; simp at hs
     ·rw [if_neg e] at hs
      have hnf := find_none_of.1 (by simpa using hs)
      refine ⟨m.f, List.mem_map.2 ⟨m, hmem, rfl⟩, e, fun g hg => ?_⟩
      obtain ⟨m', hm', rfl⟩ := List.mem_map.1 hg
      exact hnf m' hm'
    exact ⟨none, by rw [z15 h5 h4], hxH2.trans hx218, fun h => by rw [z15 h5 h4] at h; cases h⟩
   | true =>
    refine jl rfl ?_
    obtain ⟨m0, hm0⟩ := Option.isSome_iff_exists.1 hs
    have hm0' := hm0
    rw [hpm] at hm0'
    have hab' : (nm m.f).dropLast = [] ∨ ∃ g ∈ ms.map (·.f), nm g = (nm m.f).dropLast := by
     by_cases e : (nm m.f).dropLast = []
     ·exact .inl e
     ·rw [if_neg e] at hm0'
      obtain ⟨h1, h2⟩ := find_some_of hm0'
      exact .inr ⟨m0.f, List.mem_map.2 ⟨m0, h1, rfl⟩, h2⟩
    have hflat : m0.f.dir = false ↔ ∃ g ∈ ms.map (·.f), nm g = (nm m.f).dropLast ∧ g.dir = false := by
     by_cases e : (nm m.f).dropLast = []
     ·rw [if_pos e] at hm0'
      cases hm0'
      constructor
      ·intro h; cases h
      ·rintro ⟨g, hg, h1, _⟩
       rw [e] at h1
       exact absurd h1 (hne g hg)
     ·rw [if_neg e] at hm0'
      obtain ⟨h1, h2⟩ := find_some_of hm0'
      constructor
      ·intro h; exact ⟨m0.f, List.mem_map.2 ⟨m0, h1, rfl⟩, h2, h⟩
      ·rintro ⟨g, hg, h3, h4⟩
       have : m0.f = g := z7k hnd (List.mem_map.2 ⟨m0, h1, rfl⟩) hg (h2.trans h3.symm)
       rw [this]; exact h4
    refine joinP_of (fun s' W' => W' = w18 ∧ (s' = true ↔ ∃ f ∈ (ms.map (·.f)).take (i + 1), ∃ g ∈ ms.map (·.f), nm g = (nm f).dropLast ∧ g.dir = false)) ?_ ?_
    ·cases hfb : flat with
     | true =>
      refine zaa rfl ⟨rfl, ⟨fun _ => ?_, fun _ => rfl⟩⟩
      obtain ⟨f, hf, h⟩ := hfl.1 (by simpa using hfb)
      exact ⟨f, by rw [htk]; exact List.mem_append_left _ hf, h⟩
     | false =>
      refine jl rfl ?_
      refine jh (s := .bool) (t := m0.f.dir) rfl hb18 (by rw [hm0]; rfl) ?_
      refine ⟨rfl, ?_⟩
      rw [Bool.not_eq_true', hflat]
      constructor
      ·intro h; exact ⟨m.f, by rw [htk]; simp, h⟩
      ·rintro ⟨f, hf, h⟩
       rw [htk] at hf
       rcases List.mem_append.1 hf with hf | hf
       ·have := hfl.2 ⟨f, hf, h⟩
        simp only at this
        rw [hfb] at this; cases this
       ·simp at hf; subst hf; exact h
    rintro s' W' ⟨hW', hs'⟩
    subst hW'
    have hk18 := hx218.get hk2 (by simp)
    obtain ⟨v, hv⟩ : ∃ v, (zcf K (vk (nm m.f).dropLast)).getD ((none, 0, 0), []) = v := ⟨_, rfl⟩
    have hlk2 := z4x (w := W') qi7 uME zME rfl hk18 hoK (k := vk (nm m.f).dropLast) trivial
    have hv2 : ((zcf K (vk (nm m.f).dropLast)).map evK).getD (.slice none 0 0) = zc9 v.1 := by
     rw [← hv]
     cases zcf K (vk (nm m.f).dropLast) <;> rfl
    rw [hv2] at hlk2
    refine xg (s := .slc) v.1 hlk2 ?_
    have hb1518 := hx18.get (hx16.get hb15 (by simp)) (by simp)
    refine jf rfl hb1518 rfl ?_
    have hRow : Mine W'.heap (W.heap.size + 1) zy 4 v.1 (v.2.flatMap zjq) := by
     cases hg : zcf K (vk (nm m.f).dropLast) with
     | none => rw [hg] at hv; subst hv; exact .inl ⟨rfl, rfl⟩
     | some u =>
      rw [hg] at hv
      have hu : u = v := hv
      subst hu
      obtain ⟨c, hc⟩ := zfh hg
      exact (hR.row _ hc).ext hx218 (by simp)
    have hvl : v.2.length ≤ ms.length := by
     have := hR.get _ hokd
     cases hg : zcf K (vk (nm m.f).dropLast) with
     | none => rw [hg] at hv; subst hv; simp
     | some u =>
      rw [hg] at hv this
      have hu : u = v := hv
      subst hu
      rw [this.1]
      have h1 := List.length_filter_le (zuk (nm m.f).dropLast) (ms.take i)
      have h2 : (ms.take i).length ≤ ms.length := by simp; omega
      omega
    have hs18 := hx218.1
    refine qfw (i := m) rfl hRow (by omega) (by omega) fun x' w21 hm21 hx21 hs21 hl21 => ?_
    have hkne : W.heap.size ∉ xu v.1 := fun h => by have := jc hRow _ h; omega
    have hk21 := hx21.get hk18 hkne
    refine zyt _ (ztl qi7 uME (w := w21) rfl hk21 hoK (k := vk (nm m.f).dropLast) trivial (x', v.2 ++ [m]) rfl) ?_
    have hx221 : Ext (xu v.1) W2.heap w21.heap := (hx218.mono (by simp)).trans hx21
    have hs221 : ∀ c ∈ xu x', c ∈ xu v.1 ∨ W2.heap.size ≤ c := fun c hc => by
     rcases hs21 c hc with h | h
     ·exact .inl h
     ·right; omega
    have hstep := hR.step hoK hv hm21 hx221 hs221
    have hxk : Ext [W.heap.size] w21.heap (w21.heap.setIfInBounds W.heap.size (.map (ents keyS (vl evK (zo0 K (vk (nm m.f).dropLast) (x', v.2 ++ [m]) c2))) (zu4 K (vk (nm m.f).dropLast) c2))) := Ext.set _ (by simp)
    refine xw ((i + 1 : Nat) : Int) (by simp) (by omega) (by omega) ?_
    refine ⟨⟨i + 1, _, _, rfl, by omega, ?_, qm hk21, hoK.upd trivial _, ⟨?_, ?_, ?_, ?_⟩, hs', ?_⟩, by simp only; omega⟩
    ·exact (hx2.own hx221 (fun c hc hlt => by have := jc hRow c hc; omega)).set_own (.inl (Nat.le_refl _))
    ·exact hstep.key
    ·rw [List.take_add_one, hget]; exact hstep.get
    ·intro z hz
     exact (hstep.row z hz).ext hxk (fun b hb h => by simp at h; subst h; have := jc (hstep.row z hz) _ hb; omega)
    ·exact hstep.apart
    ·rw [htk]
     intro f hf
     rcases List.mem_append.1 hf with hf | hf
     ·exact hab f hf
     ·simp at hf; subst hf; exact hab'
  ·obtain rfl : i = ms.length := by simp only at hge; omega
   rw [List.take_length] at hR
   have htl : (ms.map (·.f)).take ms.length = ms.map (·.f) := by rw [← hlm, List.take_length]
   rw [htl] at hfl hab
   have h4 : ¬ qeq (ms.map (·.f)) := by
    rintro ⟨f, hf, h1, h2⟩
    rcases hab f hf with h | ⟨g, hg, h⟩
    ·exact h1 h
    ·exact h2 g hg h
   cases hfb : flat with
   | true =>
    have h70 : zz0 (ms.map (·.f)) := hfl.1 (by simpa using hfb)
    exact zaa rfl ⟨none, by rw [z3w h5 h4 h70], hxH2, fun h => by rw [z3w h5 h4 h70] at h; cases h⟩
   | false =>
    have h70 : ¬ zz0 (ms.map (·.f)) := fun h => by
     have := hfl.2 h
     simp only at this
     rw [hfb] at this; cases this
    refine jl rfl ?_
    refine zai (s := .ptr) (some ⟨W2.heap.size, 0, none⟩) { W2 with heap := W2.heap.push (.mapIter (some W.heap.size) c2 #[] c2) } (qgn uME rfl hk2) ?_
    have hxr : Ext [] W2.heap (W2.heap.push (.mapIter (some W.heap.size) c2 #[] c2)) := .push _
    have nrow : ∀ {z : List UInt8 × ((Option Addr × Nat × Nat) × List ME) × Nat}, z ∈ K → ∃ p, okP p ∧ z.1 = vk p ∧ z.2.1.2 = ms.filter (zuk p) ∧ z.2.1.2 ≠ [] := by
     intro z hz
     obtain ⟨p, hp, e⟩ := hR.key z hz
     have hg := zr7 hoK.keys (k := z.1) (v := z.2.1) (c := z.2.2) hz
     have h := hR.get p hp
     rw [← e, hg] at h
     exact ⟨p, hp, e, h.1, h.2⟩
    refine zsu (fun k (_ : Unit) W3 => ∃ (seen : Array Nat) (last : Nat) (K3 : KM), Ext [] H W3.heap ∧ W2.heap.size < W3.heap.size ∧ W3.heap[W.heap.size]? = some (.map (ents keyS (vl evK K3)) c2) ∧ W3.heap[W2.heap.size]? = some (.mapIter (some W.heap.size) c2 seen last) ∧ c2 ≤ last ∧ MOk (fun _ => True) K3 c2 ∧ Rows3 W3.heap (W.heap.size + 1) K K3 seen ∧ k = (K3.filter fun y => !seen.contains y.2.2).length)
     (K.filter fun y => !(#[] : Array Nat).contains y.2.2).length ?_ ?_
    ·exact ⟨#[], c2, K, hxH2.trans hxr, by simp, zec hk2, zn, Nat.le_refl _, hoK, ⟨rfl, fun z hz => ⟨z, hz, rfl, rfl, .refl _⟩, fun z hz => (hR.row z hz).ext hxr (by simp), fun z _ h => by simp at h⟩, rfl⟩
    rintro k _ W3 ⟨seen, last, K3, hx3, hs3, hk3, hi3, hcl, hoK3, hR3, rfl⟩ Kk hKk
    rcases qix (P := P) (ty := zlp) rfl hk3 hi3 (fun x hx => hoK3.old x hx) hcl with ⟨hall, W4, hnx, hc4, hh4⟩ | ⟨x, hx, hns, W4, hnx, hc4, hh4⟩
    ·refine zai (s := .any) _ W4 hnx ?_ hc4
     refine zx1 (s := .bool) false rfl rfl ?_
     refine jl rfl ?_
     have hget3 : ∀ {p v}, okP p → zcf K3 (vk p) = some v → v.2.length ≤ 64 ∧ v.2.Pairwise (fun a b => ¬ zfy (nm b.f) (nm a.f) < 0) ∧ v.2.Perm (ms.filter (zuk p)) ∧ Mine W3.heap (W.heap.size + 1) zy 4 v.1 (v.2.flatMap zjq) := by
      intro p v hp hg
      obtain ⟨c, hc⟩ := zfh hg
      obtain ⟨z0, hz0, e1, _, hpm⟩ := hR3.from_ _ hc
      obtain ⟨p0, hp0', e0, h0, _⟩ := nrow hz0
      have : p0 = p := zv7 hp0' hp (by rw [← e0, e1])
      subst this
      obtain ⟨d1, d2⟩ := hR3.done _ hc (hall _ hc)
      exact ⟨d1, d2, by rw [← h0]; exact hpm, hR3.row _ hc⟩
     have hnone : ∀ {p}, okP p → zcf K3 (vk p) = none → ms.filter (zuk p) = [] := by
      intro p hp hg
      have h1 : (zcf K3 (vk p)).map evK = (zcf K (vk p)).map evK := by rw [← zug, ← zug, hR3.vls]
      rw [hg] at h1
      have h2 : zcf K (vk p) = none := by
       cases h : zcf K (vk p) with
       | none => rfl
       | some u => rw [h] at h1; simp at h1
      have := hR.get p hp
      rw [h2] at this
      exact this
     have h8 : ¬ qfl (ms.map (·.f)) := by
      rintro ⟨f, hf, h⟩
      have hokp : okP (nm f).dropLast := by rw [List.dropLast_eq_take]; exact (zk7 f).take _
      rw [← znw hnem, List.length_map] at h
      cases hg : zcf K3 (vk (nm f).dropLast) with
      | none => rw [hnone hokp hg] at h; simp at h
      | some v =>
       obtain ⟨d1, _, d3, _⟩ := hget3 hokp hg
       rw [← d3.length_eq] at h
       omega
     refine ⟨some W.heap.size, by rw [z9w h5 h4 h70 h8], by rw [hh4]; exact hx3, fun _ => ⟨W.heap.size, rfl, K3, c2, by rw [hh4]; exact hk3, hoK3, fun p hp => ?_⟩⟩
     cases hg : zcf K3 (vk p) with
     | none =>
      have h1 := hnone hp hg
      have h2 : kids (ms.map (·.f)) p = [] := by rw [← znw hnem, h1]; rfl
      have h3 := zyx (zh3 hnd).1 p
      rw [h2] at h3
      exact h3.eq_nil
     | some v =>
      obtain ⟨d1, d2, d3, d4⟩ := hget3 hp hg
      refine ⟨z88 d3 (znw hnem) hnd d2, ?_, fun m hm => ?_⟩
      ·rw [hh4]; exact d4.mono (Nat.zero_le _)
      ·have hmm : m ∈ ms := (List.mem_filter.1 (d3.mem_iff.1 hm)).1
       rw [hh4]; exact Mine.ext (hN m hmm) hx3 (by simp)
    ·refine zai (s := .any) _ W4 hnx ?_ hc4
     refine zx1 (s := .bool) true rfl rfl ?_
     refine zaa rfl ?_
     have hilt := lt_of_get hi3
     have hx34 : Ext [W2.heap.size] W3.heap W4.heap := by rw [hh4]; exact Ext.set _ (by simp)
     have hi4 : W4.heap[W2.heap.size]? = some (.mapIter (some W.heap.size) c2 (seen.push x.2.2) c2) := by rw [hh4]; exact Array.getElem?_setIfInBounds_self_of_lt hilt
     have hk4 := hx34.get hk3 (by simp; omega)
     refine xg (s := .any) _ (qea (last := c2) rfl hk4 hi4 hx hoK3) ?_
     refine zx1 (s := .slc) x.2.1.1 rfl rfl ?_
     have hrow3 := hR3.row x hx
     have hrow4 : Mine W4.heap (W.heap.size + 1) zy 4 x.2.1.1 (x.2.1.2.flatMap zjq) := hrow3.ext hx34 (fun b hb h => by
      simp at h; subst h
      obtain ⟨_, c', T', fr', hcell⟩ := za7 hrow3 _ hb
      rw [hi3] at hcell; cases hcell)
     have hxl : x.2.1.1.2.1 = x.2.1.2.length := by have := hrow3.len; rw [qc zjq zh6] at this; omega
     obtain ⟨z0, hz0, e1, e2, hpm⟩ := hR3.from_ x hx
     obtain ⟨p0, hp0', e0, h0, h0n⟩ := nrow hz0
     have hH34 : Ext [] H W4.heap := hx3.own hx34 (by intro c hc hlt; simp at hc; omega)
     refine zq (fun hbig => ?_) (fun hsmall => ?_)
     ·have h8 : qfl (ms.map (·.f)) := by
       obtain ⟨m, hm⟩ := List.exists_mem_of_ne_nil _ h0n
       rw [h0] at hm
       obtain ⟨h1, h2⟩ := List.mem_filter.1 hm
       refine ⟨m.f, List.mem_map.2 ⟨m, h1, rfl⟩, ?_⟩
       have : (nm m.f).dropLast = p0 := by simpa [zuk] using h2
       rw [this, ← znw hnem, List.length_map, ← h0, ← hpm.length_eq]
       omega
      exact ⟨none, by rw [z92 h5 h4 h70 h8], hH34, fun h => by rw [z92 h5 h4 h70 h8] at h; cases h⟩
     ·have hes : ∀ m ∈ x.2.1.2, zql W4.heap m := fun m hm => by
       have hm2 := hpm.mem_iff.1 hm
       rw [h0] at hm2
       exact Mine.ext (hN m (List.mem_filter.1 hm2).1) hH34 (by simp)
      have hne2 : x.2.1.2 ≠ [] := fun h => h0n (by rw [h] at hpm; exact hpm.nil_eq.symm)
      refine zk (l := []) (qjm rfl hrow4 hes hne2 (by omega)) ?_
      rintro e W5 ⟨rfl, ys, hys, hso, hm5, hx45⟩
      refine ⟨(), rfl, ?_⟩
      have hii : W2.heap.size ∉ xu x.2.1.1 := fun h => by
       obtain ⟨_, c', T', fr', hcell⟩ := za7 hrow4 _ h
       rw [hi4] at hcell; cases hcell
      have hkk : W.heap.size ∉ xu x.2.1.1 := fun h => by have := jc hrow4 _ h; omega
      have hi5 := hx45.get hi4 hii
      have hk5 := hx45.get hk4 hkk
      have s5 := hx45.1
      have s4 := hx34.1
      obtain ⟨K4, hK4⟩ : ∃ K4 : KM, K4 = K3.map fun z => (z.1, (if z.2.2 = x.2.2 then (z.2.1.1, ys) else z.2.1), z.2.2) := ⟨_, rfl⟩
      have hvl : vl evK K4 = vl evK K3 := by
       rw [hK4]
       unfold vl
       rw [List.map_map]
       apply List.map_congr_left
       intro z _
       simp only [Function.comp]
       split <;> rfl
      have hoK4 : MOk (fun _ => True) K4 c2 := by rw [hK4]; exact MOk.map_val hoK3 _
      have hcount : (K4.filter fun y => !(seen.push x.2.2).contains y.2.2).length = (K3.filter fun y => !(seen.push x.2.2).contains y.2.2).length := by
       rw [hK4, List.filter_map, List.length_map]; rfl
      refine hKk _ _ _ (by rw [hcount]; exact qfn hx hns) ⟨seen.push x.2.2, c2, K4, hH34.own hx45 (fun c hc hlt => by have := jc hrow4 c hc; omega), by omega, by rw [hvl]; exact hk5, hi5, Nat.le_refl _, hoK4, ⟨hvl.trans hR3.vls, fun z hz => ?_, fun z hz => ?_, fun z hz hin => ?_⟩, rfl⟩
      ·rw [hK4] at hz
       obtain ⟨y, hy, rfl⟩ := List.mem_map.1 hz
       obtain ⟨y0, hy0, f1, f2, f3⟩ := hR3.from_ y hy
       by_cases e : y.2.2 = x.2.2
       ·have hyx : y = x := Go.Fw.born_inj hoK3 hy hx e
        subst hyx
        exact ⟨y0, hy0, f1, by simp only [if_pos]; exact f2, by simp only [if_pos]; exact hys.trans f3⟩
       ·exact ⟨y0, hy0, f1, by simp only [if_neg e]; exact f2, by simp only [if_neg e]; exact f3⟩
      ·rw [hK4] at hz
       obtain ⟨y, hy, rfl⟩ := List.mem_map.1 hz
       by_cases e : y.2.2 = x.2.2
       ·have hyx : y = x := Go.Fw.born_inj hoK3 hy hx e
        subst hyx
        simp only [if_pos]
        exact hm5
       ·simp only [if_neg e]
        have hr4 : Mine W4.heap (W.heap.size + 1) zy 4 y.2.1.1 (y.2.1.2.flatMap zjq) := (hR3.row y hy).ext hx34 (fun b hb h => by
         simp at h; subst h
         obtain ⟨_, c', T', fr', hcell⟩ := za7 (hR3.row y hy) _ hb
         rw [hi3] at hcell; cases hcell)
        refine hr4.ext hx45 ?_
        obtain ⟨y0, hy0, f1, f2, _⟩ := hR3.from_ y hy
        have hne1 : y0.1 ≠ z0.1 := fun h => by
         rw [f1, e1] at h
         exact e (by rw [Go.Fw.key_inj hoK3 hy hx h])
        have := hR.apart y0 hy0 z0 hz0 hne1
        rw [f2, e2] at this
        exact this
      ·rw [hK4] at hz
       obtain ⟨y, hy, rfl⟩ := List.mem_map.1 hz
       by_cases e : y.2.2 = x.2.2
       ·have hyx : y = x := Go.Fw.born_inj hoK3 hy hx e
        subst hyx
        simp only [if_pos]
        exact ⟨by rw [hys.length_eq]; omega, hso⟩
       ·simp only [if_neg e]
        refine hR3.done y hy ?_
        rcases Array.mem_push.1 hin with h | h
        ·exact h
        ·exact absurd h e
noncomputable def zch (L : List Fil) : Int := if zas L ≠ 0 then zas L else zcc L
def zls (L : List Fil) : List (List UInt8) × List UInt8 := zca (zhs L) 9 []
theorem zif {L : List Fil} : zls L = zca (zhs L) 9 [] := rfl
attribute [irreducible] zls
def zvp (pre : Int) (q : Int) (r : Bl.SM) (bl : List (List UInt8) × List UInt8) (code : Int) (d : List UInt8) (r' : Bl.SM) : Prop :=
 (pre ≠ 0 → code = pre ∧ d = Bl.nought ∧ r' = r) ∧ (pre = 0 → Bl.zxb q r bl.1 code r' ∧ d = if code = 0 then bl.2 else Bl.nought)
theorem qk1 : zc P jg = #[.slice none 0 0] := by kernel_rfl
theorem qll : zc P jr = #[.map none] := by kernel_rfl
theorem qlc : (zc P zck).size = 1 := by kernel_rfl
theorem qmz : P.cellsOf zck = 1 := by kernel_rfl
theorem qff {L : List Fil} (h : zas L = 0) : ∀ f ∈ L, f.data.length ≤ 1024 := by
 unfold zas at h
 split at h
 ·rename_i h1; exact absurd h h1
 ·split at h
  ·cases h
  ·split at h
   ·cases h
   ·rename_i h2
    intro f hf
    have : qc7 f = false := by
     rw [← Bool.not_eq_true]
     exact fun hb => h2 (List.any_eq_true.2 ⟨f, hf, hb⟩)
    simpa [qc7] using this
theorem qa7 {L : List Fil} (h : zcc L = 0) : ¬ zze L ∧ ¬ qfl L := by
 unfold zcc at h
 by_cases h5 : zze L
 ·rw [if_pos h5] at h; cases h
 ·rw [if_neg h5] at h
  by_cases h4 : qeq L
  ·rw [if_pos h4] at h; cases h
  ·rw [if_neg h4] at h
   by_cases h70 : zz0 L
   ·rw [if_pos h70] at h; cases h
   ·rw [if_neg h70] at h
    by_cases h8 : qfl L
    ·rw [if_pos h8] at h; cases h
    ·exact ⟨h5, h8⟩
theorem z6p {L : List Fil} (h5 : ¬ zze L) (hd : ∀ f ∈ L, f.data.length ≤ 1024) : (zls L).1.length ≤ 1 + 18 * L.length := by
 obtain ⟨hp, hr⟩ := zh3 (zjv h5).1
 have h := qbs hr (fun f hf => hd f (hp.mem_iff.1 hf)) 9 []
 have h2 := List.length_filter_le (fun f => zcv (nm f) [] && decide ((([] : Path)).length < (nm f).length)) (zhs L)
 have h3 := hp.length_eq
 rw [zif]
 omega
theorem zh7 {w : World} {H : Heap} {b : Nat} {R : Array Value → World → Prop} (hw : w.heap = H) (hb : H[b]? = some (.cells (zc P zf) zf (0, 0))) (hR : ∀ w', Ext [b] H w'.heap → R (byteCells Bl.nought).toArray w') :
  za0 P (Instr.build zf #[]) .any w fun (t : Value) => zbn P (storeVar zf (⟨b, 0, none⟩ : Addr) t) w fun w2 => ldA P 32 (⟨b, 0, none⟩ : Addr) w2 fun t4 => R t4 w2 := by
 refine xg (s := .any) (arr Bl.nought) (Bl.b27 _) ?_
 refine z4k Bl.zda hw hb zcD fun w2 hw2 => ?_
 have hb2 : w2.heap[b]? = some (.cells (byteCells Bl.nought).toArray zf (0, 0)) := by rw [hw2]; exact qm hb
 refine jf rfl hb2 (by simp [Bl.zda]) ?_
 exact hR w2 (by rw [hw2]; exact Ext.set _ (by simp))
set_option maxHeartbeats 1000000 in
theorem z14 {w : World} {H : Heap} {fp : List Nat} {p : Nat} {q : Int} {r : Bl.SM} {c : Nat} {a : Option Addr} {n nc : Nat} {L : List Fil} (hw : w.heap = H) (hS : Bl.Store H fp p q r c) (hfp : ∀ b ∈ fp, b < H.size) (hRo : Bl.Rounds H) (h0 : 0 ∉ fp)
  (hL : Cells H a (L.flatMap zbo)) (hn : n = L.length) (hm : L.length ≤ 65536) (hb : Bl.total r < 1000000000000) (hq : 0 ≤ q) (hq2 : q ≤ 9223372036854775807) (hlen : ∀ k L, Bl.zax r k = some L → L.length < 1099511627776) :
  qg P zfb #[.pointer (some ⟨p, 0, none⟩), .slice a n nc] w fun e w' => ∃ code d r' c' fp', e = .returned (.tuple #[arr d, .int .i64 code]) ∧ d.length = 32 ∧ Bl.Store w'.heap fp' p q r' c' ∧ Ext fp H w'.heap ∧ (∀ b ∈ fp', b < w'.heap.size) ∧ (∀ b ∈ fp', b ∈ fp ∨ H.size ≤ b) ∧
   zvp (zch L) q r (zls L) code d r' ∧ Bl.total r' ≤ Bl.total r + 4096 * (1 + 18 * L.length) := by
 refine zsg ?_
 unfold zk9
 have hpl := hS.lt
 have hH0 : 0 < H.size := by obtain ⟨_, _, _, h, _⟩ := hRo; exact lt_of_get h
 refine jw hw fun w1 hw1 => ?_
 have hx1 : Ext [] H w1.heap := by rw [hw1]; exact .push _
 have hd1 : w1.heap[H.size]? = some (.cells (zc P zf) zf (0, 0)) := by rw [hw1]; exact zn
 refine jl rfl ?_
 refine zk (qhx rfl (hL.ext hx1 (by simp)) hn hm) ?_
 rintro e w3 ⟨x, rfl, hx3, h3⟩
 refine ⟨(x, zas L), rfl, ?_⟩
 have hd3 := hx3.get hd1 (by simp)
 have hx03 := hx1.trans hx3
 have hn0 : ∀ {w' : World} {H' : Heap}, H.size ≤ H'.size → Ext [] H H' → Ext [H.size] H' w'.heap → Ext fp H w'.heap := fun _ hxa hxb => (hxa.mono (by simp)).own hxb (fun c hc hlt => by simp at hc; omega)
 have bad : ∀ {H' : Heap} {w' : World} {code : Int}, code ≠ 0 → zch L = code → Ext [] H H' → Ext [H.size] H' w'.heap → ∃ code' d r' c' fp', Ending.returned (.tuple #[arr Bl.nought, .int .i64 code]) = .returned (.tuple #[arr d, .int .i64 code']) ∧ d.length = 32 ∧ Bl.Store w'.heap fp' p q r' c' ∧ Ext fp H w'.heap ∧ (∀ b ∈ fp', b < w'.heap.size) ∧ (∀ b ∈ fp', b ∈ fp ∨ H.size ≤ b) ∧
   zvp (zch L) q r (zls L) code' d r' ∧ Bl.total r' ≤ Bl.total r + 4096 * (1 + 18 * L.length) := by
  intro H' w' code h0' hc hxa hxb
  have hxx : Ext fp H w'.heap := (hxa.mono (by simp)).own hxb (fun c hc hlt => by simp at hc; omega)
  have hsz := hxx.1
  refine ⟨code, Bl.nought, r, c, fp, rfl, Bl.zda, (hS.ext hxa (by simp)).ext hxb (fun b hb h => by simp at h; have := hfp b hb; omega), hxx, fun b hb => by have := hfp b hb; omega, fun b hb => .inl hb, ⟨fun _ => ⟨hc.symm, rfl, rfl⟩, fun h => absurd (hc.symm.trans h) h0'⟩, by omega⟩
 refine zb5 (fun hc => ?_) (fun hc => ?_)
 ·exact zh7 rfl hd3 fun w4 hx4 => bad hc (by simp only at hc; rw [zch, if_pos hc]) hx03 hx4
 simp only at hc
 have hchk : zch L = zcc L := by rw [zch, if_neg (by simpa using hc)]
 obtain ⟨ms, rfl, hm3, hN3⟩ := h3 hc
 simp only [List.length_map] at *
 have hxl : x.2.1 = ms.length := by
  have := hm3.len
  rw [qc zjq zh6] at this
  omega
 refine zk (qhi (ms := ms) rfl hm3.cells hxl hm hN3) ?_
 rintro e w5 ⟨v, rfl, hx5, h5⟩
 refine ⟨(v, zcc (ms.map (·.f))), rfl, ?_⟩
 have hx05 := hx03.trans hx5
 have hd5 := hx5.get hd3 (by simp)
 refine jw rfl fun w6 hw6 => ?_
 have hx6 : Ext [] w5.heap w6.heap := by rw [hw6]; exact .push _
 have hb6 : w6.heap[w5.heap.size]? = some (.cells #[.map none] jr (0, 0)) := by rw [hw6, qll]; exact zn
 refine zcd rfl hb6 (by simp) fun w7 hw7 => ?_
 have hx7 : Ext [] w5.heap w7.heap := by rw [hw7]; exact hx6.set_own (.inl (Nat.le_refl _))
 have hb7 : w7.heap[w5.heap.size]? = some (.cells #[.map v] jr (0, 0)) := by rw [hw7]; exact qm hb6
 have hx07 := hx05.trans hx7
 have hd7 := hx7.get hd5 (by simp)
 refine zb5 (fun hs => ?_) (fun hs => ?_)
 ·exact zh7 rfl hd7 fun w8 hx8 => bad hs hchk hx07 hx8
 simp only at hs
 obtain ⟨mk, rfl, hK5⟩ := h5 hs
 obtain ⟨n5, n8⟩ := qa7 hs
 have hdl := qff hc
 obtain ⟨hperm, hrise⟩ := zh3 (zjv n5).1
 refine jw rfl fun w9 hw9 => ?_
 have hx9 : Ext [] w7.heap w9.heap := by rw [hw9]; exact .push _
 have hb9 : w9.heap[w7.heap.size]? = some (.cells #[zc9 (none, 0, 0)] jg (0, 0)) := by rw [hw9, qk1]; exact zn
 refine jw rfl fun w10 hw10 => ?_
 have hx10 : Ext [] w9.heap w10.heap := by rw [hw10]; exact .push _
 have hf10 : w10.heap[w9.heap.size]? = some (.cells (zc P zck) zck (0, 0)) := by rw [hw10]; exact zn
 refine xg (s := .any) (zv2 w5.heap.size w9.heap.size w7.heap.size) rfl ?_
 have s1 := lt_of_get hd1
 have s5 := hx03.1
 have s6 := lt_of_get hb7
 have s9 := lt_of_get hb9
 have s10 := lt_of_get hf10
 have sx5 := hx5.1
 have sx3 := hx3.1
 have hx010 := (hx07.trans hx9).trans hx10
 refine zbf (v := zv2 w5.heap.size w9.heap.size w7.heap.size) (by rw [qmz]; rfl) (by simp [Value.cells, zv2]) (by intro v hv; simp [Value.cells, zv2] at hv; subst hv; rfl) rfl hf10 (by rw [qlc]; simp [Value.cells, zv2]) fun w11 hw11 => ?_
 have hset : setCells (zc P zck) 0 (zv2 w5.heap.size w9.heap.size w7.heap.size).cells.toList = #[zv2 w5.heap.size w9.heap.size w7.heap.size] := by
  rw [zam (by rw [qlc]; rfl)]; rfl
 rw [hset] at hw11
 have hx1011 : Ext [w9.heap.size] w10.heap w11.heap := by rw [hw11]; exact Ext.set _ (by simp)
 have hx911 : Ext [] w9.heap w11.heap := by rw [hw11]; exact hx10.set_own (.inl (Nat.le_refl _))
 have hf11 : w11.heap[w9.heap.size]? = some (.cells #[zv2 w5.heap.size w9.heap.size w7.heap.size] zck (0, 0)) := by rw [hw11]; exact qm hf10
 refine jh (s := .any) (t := zv2 w5.heap.size w9.heap.size w7.heap.size) rfl hf11 rfl ?_
 have hx711 := hx9.trans hx911
 have hx511 := hx7.trans hx711
 have hx011 := hx05.trans hx511
 have hD11 : DirSt w11.heap w5.heap.size w9.heap.size w7.heap.size mk w11.heap.size (zhs (ms.map (·.f))) (none, 0, 0) [] :=
  ⟨hx711.get hb7 (by simp), hf11, hx911.get hb9 (by simp), hK5.keep hx511 (by simp), .nil, hRo.ext hx011 (by simp), by omega⟩
 have s11 := hx911.1
 have hlen1 := z6p n5 hdl
 simp only [List.length_map] at hlen1
 refine zqc (args := #[.string (strOf (vk []))]) ?_
 refine (zxc (zhs (ms.map (·.f))) (fun f hf => hdl f (hperm.mem_iff.1 hf)) hrise (fun p => qif n5 n8 p) 9 (w := w11) (p := []) rfl hD11 (by omega) (Nat.le_refl _) (by simp [okP]) (by simp) (by rw [zif] at hlen1; rw [List.length_nil]; omega)).mono ?_
 rintro e w12 ⟨x2, rfl, hD12, hx12, hs12⟩
 rw [← zif] at hD12 ⊢
 have h32 : (zls (ms.map (·.f))).2.length = 32 := by rw [zif]; exact zga
 generalize zls (ms.map (·.f)) = T at *
 refine ⟨arr T.2, rfl, ?_⟩
 have hbl : zau w12.heap w11.heap.size x2 T.1 := hD12.blobs
 refine jw rfl fun w13 hw13 => ?_
 have hx13 : Ext [] w12.heap w13.heap := by rw [hw13]; exact .push _
 have hd13 : w13.heap[w12.heap.size]? = some (.cells (zc P zf) zf (0, 0)) := by rw [hw13]; exact zn
 refine z4k (k := T.2) h32 rfl hd13 zcD fun w14 hw14 => ?_
 have hx14 : Ext [] w12.heap w14.heap := by rw [hw14]; exact hx13.set_own (.inl (Nat.le_refl _))
 have hd14 : w14.heap[w12.heap.size]? = some (.cells (byteCells T.2).toArray zf (0, 0)) := by rw [hw14]; exact qm hd13
 refine jh (s := .slc) (t := x2) rfl (hx14.get hD12.b (by simp)) rfl ?_
 have hx012 : Ext [] H w12.heap := hx011.own hx12 (fun b hb hlt => by
  rcases List.mem_cons.1 hb with h | h
  ·omega
  ·simp [xu] at h)
 have hx014 := hx012.trans hx14
 have s12 := hx12.1
 have s14 := hx14.1
 have hS14 := hS.ext hx014 (by simp)
 have htot : Bl.total r + 4096 * T.1.length < 1125899906842624 := by omega
 refine zk (Bl.qbj rfl hS14 (fun b hb => by have := hfp b hb; have := hx014.1; omega) (hRo.ext hx014 (by simp)) h0 ((hbl.ext hx14 (by simp)).rows) htot hq hq2 hlen) ?_
 rintro e w15 ⟨code, r', c', fp', rfl, hS15, hx15, hf1, hf2, hP, ht⟩
 refine ⟨code, rfl, ?_⟩
 have s014 := hx014.1
 have nfp : ∀ {b : Nat}, H.size ≤ b → b ∉ fp := fun h hb => by have := hfp _ hb; omega
 have hd14' : w14.heap[H.size]? = some (.cells (zc P zf) zf (0, 0)) := hx14.get (hx12.get (hx711.get hd7 (by simp)) (by simp [xu]; omega)) (by simp)
 have hd15 := hx15.get hd14' (nfp (Nat.le_refl _))
 have he15 := hx15.get hd14 (nfp (by omega))
 have hx015 : Ext fp H w15.heap := (hx014.mono (by simp)).trans hx15
 have s15 := hx15.1
 have fin : ∀ {w' : World} {d : List UInt8}, Ext [H.size] w15.heap w'.heap → d.length = 32 → d = (if code = 0 then T.2 else Bl.nought) → ∃ code' d' r'' c'' fp'', Ending.returned (.tuple #[arr d, .int .i64 code]) = .returned (.tuple #[arr d', .int .i64 code']) ∧ d'.length = 32 ∧ Bl.Store w'.heap fp'' p q r'' c'' ∧ Ext fp H w'.heap ∧ (∀ b ∈ fp'', b < w'.heap.size) ∧ (∀ b ∈ fp'', b ∈ fp ∨ H.size ≤ b) ∧
   zvp (zch (ms.map (·.f))) q r T code' d' r'' ∧ Bl.total r'' ≤ Bl.total r + 4096 * (1 + 18 * ms.length) := by
  intro w' d hxb hdl' hd'
  have s' := hxb.1
  refine ⟨code, d, r', c', fp', rfl, hdl', hS15.ext hxb (fun b hb h => ?_), hx015.own hxb (fun c hc hlt => by simp at hc; omega), fun b hb => by have := hf1 b hb; omega, fun b hb => ?_, ⟨fun h => absurd (hchk.trans hs) h, fun _ => ⟨hP, hd'⟩⟩, by omega⟩
  ·simp at h; subst h
   rcases hf2 _ hb with h | h
   ·exact nfp (Nat.le_refl _) h
   ·omega
  ·rcases hf2 _ hb with h | h
   ·exact .inl h
   ·right; omega
 refine zb5 (fun h1 => ?_) (fun h1 => ?_)
 ·exact zh7 rfl hd15 fun w16 hx16 => fin hx16 Bl.zda (by rw [if_neg h1])
 ·refine jf rfl he15 (by simp [h32]) ?_
  refine z4k (k := T.2) h32 rfl hd15 zcD fun w17 hw17 => ?_
  have hx17 : Ext [H.size] w15.heap w17.heap := by rw [hw17]; exact Ext.set _ (by simp)
  have hd17 : w17.heap[H.size]? = some (.cells (byteCells T.2).toArray zf (0, 0)) := by rw [hw17]; exact qm hd15
  refine jf rfl hd17 (by simp [h32]) ?_
  subst h1
  exact fin hx17 h32 (by rw [if_pos rfl])
def zzk (D : List UInt8) : List (List UInt8) × List UInt8 := (ze5 D, zc7 D)
def ziq (D : List UInt8) : Int := if 1024 < D.length then 134 else 0
set_option maxHeartbeats 2000000 in
theorem qik {w : World} {H : Heap} {fp : List Nat} {p : Nat} {q : Int} {r : Bl.SM} {c : Nat} {D : List UInt8} (hw : w.heap = H) (hS : Bl.Store H fp p q r c) (hfp : ∀ b ∈ fp, b < H.size) (hRo : Bl.Rounds H) (h0 : 0 ∉ fp)
  (hb : Bl.total r < 1000000000000) (hq : 0 ≤ q) (hq2 : q ≤ 9223372036854775807) (hlen : ∀ k L, Bl.zax r k = some L → L.length < 1099511627776) :
  qg P zih #[.pointer (some ⟨p, 0, none⟩), .string (strOf D)] w fun e w' => ∃ code d r' c' fp', e = .returned (.tuple #[arr d, .int .i64 code]) ∧ d.length = 32 ∧ Bl.Store w'.heap fp' p q r' c' ∧ Ext fp H w'.heap ∧ (∀ b ∈ fp', b < w'.heap.size) ∧ (∀ b ∈ fp', b ∈ fp ∨ H.size ≤ b) ∧
   zvp (ziq D) q r (zzk D) code d r' ∧ Bl.total r' ≤ Bl.total r + 4096 * 17 := by
 refine zs4 ?_
 unfold zli
 have hpl := hS.lt
 have hH0 : 0 < H.size := by obtain ⟨_, _, _, h, _⟩ := hRo; exact lt_of_get h
 refine jw hw fun w1 hw1 => ?_
 have hx1 : Ext [] H w1.heap := by rw [hw1]; exact .push _
 have hd1 : w1.heap[H.size]? = some (.cells (zc P zf) zf (0, 0)) := by rw [hw1]; exact zn
 have s1 := lt_of_get hd1
 refine jl rfl ?_
 refine zq (fun hbig => ?_) (fun hsm => ?_)
 ·have hc : ziq D = 134 := by unfold ziq; rw [if_pos (by simp only [jm] at hbig; omega)]
  refine zh7 rfl hd1 fun w2 hx2 => ?_
  have hxx : Ext fp H w2.heap := (hx1.mono (by simp)).own hx2 (fun c hc hlt => by simp at hc; omega)
  have hsz := hxx.1
  exact ⟨134, Bl.nought, r, c, fp, rfl, Bl.zda, (hS.ext hx1 (by simp)).ext hx2 (fun b hb h => by simp at h; have := hfp b hb; omega), hxx, fun b hb => by have := hfp b hb; omega, fun b hb => .inl hb, ⟨fun _ => ⟨hc.symm, rfl, rfl⟩, fun h => absurd (hc.symm.trans h) (by decide)⟩, by omega⟩
 have hDl : D.length ≤ 1024 := by simp only [jm] at hsm; omega
 have hc0 : ziq D = 0 := by unfold ziq; rw [if_neg (by omega)]
 refine zk (qiy (B := w1.heap.size) (x := (none, 0, 0)) (Ls := []) rfl .nil (by omega) (Nat.le_refl _) (hRo.ext hx1 (by simp)) (by simp) hDl) ?_
 rintro e w12 ⟨x2, rfl, hbl, hx12, hs12⟩
 refine ⟨(x2, arr (zc7 D)), rfl, ?_⟩
 have h32 : (zzk D).2.length = 32 := zad
 have hBl := zn5 hDl
 change zau w12.heap w1.heap.size x2 (zzk D).1 at hbl
 change (zzk D).1.length ≤ 17 at hBl
 change zbi _ _ w12 _
 have e2 : zc7 D = (zzk D).2 := rfl
 simp only [e2]
 generalize zzk D = T at *
 refine jw rfl fun w13 hw13 => ?_
 have hx13 : Ext [] w12.heap w13.heap := by rw [hw13]; exact .push _
 have hd13 : w13.heap[w12.heap.size]? = some (.cells (zc P zf) zf (0, 0)) := by rw [hw13]; exact zn
 refine z4k (k := T.2) h32 rfl hd13 zcD fun w14 hw14 => ?_
 have hx14 : Ext [] w12.heap w14.heap := by rw [hw14]; exact hx13.set_own (.inl (Nat.le_refl _))
 have hd14 : w14.heap[w12.heap.size]? = some (.cells (byteCells T.2).toArray zf (0, 0)) := by rw [hw14]; exact qm hd13
 have hx12' : Ext [] w1.heap w12.heap := hx12.mono (by simp [xu])
 have hx114 := hx12'.trans hx14
 have hx014 := hx1.trans hx114
 have s12 := hx12.1
 have s14 := hx14.1
 have hS14 := hS.ext hx014 (by simp)
 have htot : Bl.total r + 4096 * T.1.length < 1125899906842624 := by omega
 refine zk (Bl.qbj rfl hS14 (fun b hb => by have := hfp b hb; have := hx014.1; omega) (hRo.ext hx014 (by simp)) h0 ((hbl.ext hx14 (by simp)).rows) htot hq hq2 hlen) ?_
 rintro e w15 ⟨code, r', c', fp', rfl, hS15, hx15, hf1, hf2, hP, ht⟩
 refine ⟨code, rfl, ?_⟩
 have s014 := hx014.1
 have nfp : ∀ {b : Nat}, H.size ≤ b → b ∉ fp := fun h hb => by have := hfp _ hb; omega
 have hd15 := hx15.get (hx114.get hd1 (by simp)) (nfp (Nat.le_refl _))
 have he15 := hx15.get hd14 (nfp (by omega))
 have hx015 : Ext fp H w15.heap := (hx014.mono (by simp)).trans hx15
 have s15 := hx15.1
 have fin : ∀ {w' : World} {d : List UInt8}, Ext [H.size] w15.heap w'.heap → d.length = 32 → d = (if code = 0 then T.2 else Bl.nought) → ∃ code' d' r'' c'' fp'', Ending.returned (.tuple #[arr d, .int .i64 code]) = .returned (.tuple #[arr d', .int .i64 code']) ∧ d'.length = 32 ∧ Bl.Store w'.heap fp'' p q r'' c'' ∧ Ext fp H w'.heap ∧ (∀ b ∈ fp'', b < w'.heap.size) ∧ (∀ b ∈ fp'', b ∈ fp ∨ H.size ≤ b) ∧
   zvp (ziq D) q r T code' d' r'' ∧ Bl.total r'' ≤ Bl.total r + 4096 * 17 := by
  intro w' d hxb hdl' hd'
  have s' := hxb.1
  refine ⟨code, d, r', c', fp', rfl, hdl', hS15.ext hxb (fun b hb h => ?_), hx015.own hxb (fun c hc hlt => by simp at hc; omega), fun b hb => by have := hf1 b hb; omega, fun b hb => ?_, ⟨fun h => absurd hc0 h, fun _ => ⟨hP, hd'⟩⟩, by omega⟩
  ·simp at h; subst h
   rcases hf2 _ hb with h | h
   ·exact nfp (Nat.le_refl _) h
   ·omega
  ·rcases hf2 _ hb with h | h
   ·exact .inl h
   ·right; omega
 refine zb5 (fun h1 => ?_) (fun h1 => ?_)
 ·exact zh7 rfl hd15 fun w16 hx16 => fin hx16 Bl.zda (by rw [if_neg h1])
 ·refine jf rfl he15 (by simp [h32]) ?_
  refine z4k (k := T.2) h32 rfl hd15 zcD fun w17 hw17 => ?_
  have hx17 : Ext [H.size] w15.heap w17.heap := by rw [hw17]; exact Ext.set _ (by simp)
  have hd17 : w17.heap[H.size]? = some (.cells (byteCells T.2).toArray zf (0, 0)) := by rw [hw17]; exact qm hd15
  refine jf rfl hd17 (by simp [h32]) ?_
  subst h1
  exact fin hx17 h32 (by rw [if_pos rfl])
theorem qen {w : World} {H : Heap} {a : Option Addr} {n nc : Nat} (hw : w.heap = H) : qg P zfb #[.pointer none, .slice a n nc] w fun e w' => e = .returned (.tuple #[arr Bl.nought, .int .i64 7]) ∧ Ext [] H w'.heap := by
 refine zsg ?_
 unfold zk9
 refine jw hw fun w1 hw1 => ?_
 have hx1 : Ext [] H w1.heap := by rw [hw1]; exact .push _
 have hd1 : w1.heap[H.size]? = some (.cells (zc P zf) zf (0, 0)) := by rw [hw1]; exact zn
 refine zaa rfl ?_
 refine zh7 rfl hd1 fun w2 hx2 => ?_
 exact ⟨rfl, hx1.own hx2 fun c hc hlt => by simp at hc; omega⟩
theorem qfq {w : World} {H : Heap} {D : List UInt8} (hw : w.heap = H) : qg P zih #[.pointer none, .string (strOf D)] w fun e w' => e = .returned (.tuple #[arr Bl.nought, .int .i64 7]) ∧ Ext [] H w'.heap := by
 refine zs4 ?_
 unfold zli
 refine jw hw fun w1 hw1 => ?_
 have hx1 : Ext [] H w1.heap := by rw [hw1]; exact .push _
 have hd1 : w1.heap[H.size]? = some (.cells (zc P zf) zf (0, 0)) := by rw [hw1]; exact zn
 refine zaa rfl ?_
 refine zh7 rfl hd1 fun w2 hx2 => ?_
 exact ⟨rfl, hx1.own hx2 fun c hc hlt => by simp at hc; omega⟩
theorem z1j {D : List UInt8} (hD : D.length ≤ 1024) : ∀ L ∈ ze5 D, L.length ≤ 10000000000 := by
 intro L hL
 rcases List.mem_append.1 hL with h | h
 ·obtain ⟨j, _, rfl⟩ := List.mem_map.1 h
  have := znp (D := D) (j := j)
  omega
 ·simp only [List.mem_singleton] at h
  subst h
  have := zqq (D := D) (k := npc D) (by unfold npc; omega)
  omega
theorem z8l {S : List Fil} (hd : ∀ f ∈ S, f.data.length ≤ 1024) (hSl : S.length ≤ 65536) : ∀ (n : Nat) (p : Path), p.length + n = 9 → ∀ L ∈ (zca S n p).1, L.length ≤ 10000000000
 | 0, p, _, L, hL => by simp [zca] at hL
 | n + 1, p, hn, L, hL => by
  simp only [zca, List.mem_append, List.mem_singleton] at hL
  rcases hL with h | rfl
  ·rw [zii] at h
   obtain ⟨b, hb, hLb⟩ := List.mem_flatten.1 h
   obtain ⟨f, hf, rfl⟩ := List.mem_map.1 hb
   obtain ⟨h1, h2, h3⟩ := zf1 hf
   unfold zov at hLb
   by_cases hfd : f.dir
   ·rw [if_pos hfd] at hLb
    exact z8l hd hSl n (nm f) (by
     have := congrArg List.length h3
     have h4 : 0 < (nm f).length := List.length_pos_iff.2 h2
     simp at this; omega) L hLb
   ·rw [if_neg hfd] at hLb
    exact z1j (hd f h1) L hLb
  ·have hkm : ∀ f ∈ kids S p, nm f ≠ [] ∧ (nm f).dropLast = p := fun f hf => (zf1 hf).2
   exact z4h (zw9 (rec := zca S n) (fun f hf => (hkm f hf).1) (Nat.le_trans (List.length_filter_le _ _) hSl)) (qfk (S := S) hn hkm)
theorem qds {L : List Fil} (h5 : ¬ zze L) (hd : ∀ f ∈ L, f.data.length ≤ 1024) (hL : L.length ≤ 65536) : ∀ b ∈ (zls L).1, b.length ≤ 10000000000 := by
 obtain ⟨hp, hr⟩ := zh3 (zjv h5).1
 rw [zif]
 exact z8l (fun f hf => hd f (hp.mem_iff.1 hf)) (by rw [hp.length_eq]; exact hL) 9 [] rfl
theorem qi2 {w : World} {H H0 : Heap} {fp : List Nat} {p bd : Nat} {q : Int} {r : Bl.SM} {x : Option Addr × Nat × Nat} {T : List (List UInt8) × List UInt8} {B : Nat} (hw : w.heap = H) (hx0 : Ext [] H0 H) (hS : Bl.zd9 H0 fp p q r) (hfp : ∀ b ∈ fp, b < H0.size) (hbd : H0.size ≤ bd)
  (hd : H[bd]? = some (.cells (zc P zf) zf (0, 0))) (hbl : zau H B x T.1) (h32 : T.2.length = 32) (hl : ∀ L ∈ T.1, L.length ≤ 10000000000)
  (hb : Bl.total r < 1000000000000) (hTl : T.1.length ≤ 200000000) (hn : r.length < 100000000000) (hq : 0 ≤ q) (hq2 : q ≤ 9223372036854775807) (hlen : ∀ x ∈ r, x.2.1.2.length < 1099511627776) {R : Ending → World → Prop}
  (hR : ∀ code d r' fp' w', d.length = 32 → Bl.zd9 w'.heap fp' p q r' → Ext fp H0 w'.heap → (∀ b ∈ fp', b < w'.heap.size) → (∀ b ∈ fp', b ∈ fp ∨ H0.size ≤ b) → Bl.zxb q r T.1 code r' → d = (if code = 0 then T.2 else Bl.nought) → r'.length ≤ r.length + T.1.length → Bl.total r' ≤ Bl.total r + 4096 * T.1.length → (∀ x ∈ r', x.2.1.2.length < 1099511627776) → R (.returned (.tuple #[arr d, .int .i64 code])) w') :
  zbi (zc P zf) zf w fun b9 w_5 =>
  zbn P (storeVar zf (⟨b9, 0, none⟩ : Addr) (arr T.2)) w_5 fun w_6 =>
  qp P zds #[(Value.pointer (some ⟨p, 0, none⟩)), (Value.slice x.1 x.2.1 x.2.2)] [.int .i64] false w_6 fun (t26 : Int) w_7 =>
  xk (t26 != 0) (
  za0 P (Instr.build zf #[]) .any w_7 fun (t29 : Value) =>
  zbn P (storeVar zf (⟨bd, 0, none⟩ : Addr) t29) w_7 fun w_8 =>
  ldA P 32 (⟨bd, 0, none⟩ : Addr) w_8 fun t4_1 =>
  R (.returned (Value.tuple #[(Value.agg t4_1), (Value.int .i64 t26)])) w_8) (
  ldA P 32 (⟨b9, 0, none⟩ : Addr) w_7 fun t31 =>
  zbn P (storeVar zf (⟨bd, 0, none⟩ : Addr) (Value.agg t31)) w_7 fun w_9 =>
  ldA P 32 (⟨bd, 0, none⟩ : Addr) w_9 fun t4_2 =>
  R (.returned (Value.tuple #[(Value.agg t4_2), (Value.int .i64 0)])) w_9) := by
 subst hw
 refine jw rfl fun w13 hw13 => ?_
 have hx13 : Ext [] w.heap w13.heap := by rw [hw13]; exact .push _
 have hd13 : w13.heap[w.heap.size]? = some (.cells (zc P zf) zf (0, 0)) := by rw [hw13]; exact zn
 refine z4k (k := T.2) h32 rfl hd13 zcD fun w14 hw14 => ?_
 have hx14 : Ext [] w.heap w14.heap := by rw [hw14]; exact hx13.set_own (.inl (Nat.le_refl _))
 have hd14 : w14.heap[w.heap.size]? = some (.cells (byteCells T.2).toArray zf (0, 0)) := by rw [hw14]; exact qm hd13
 have hx014 := hx0.trans hx14
 have s0 := hx0.1
 have s14 := hx14.1
 have hbl2 := lt_of_get hd
 have hS14 := hS.ext hx014 (by simp)
 refine zk (Bl.qey rfl hS14 (fun b hb => by have := hfp b hb; have := hx014.1; omega) ((hbl.ext hx14 (by simp)).rows) (by omega) (by omega) hq hq2 hlen (fun L hL => by have := hl L hL; omega)) ?_
 rintro e w15 ⟨code, r', fp', rfl, hS15, hx15, hf, hP, hl1, hl2, hl3⟩
 refine ⟨code, rfl, ?_⟩
 have nfp : ∀ {b : Nat}, H0.size ≤ b → b ∉ fp := fun h hb => by have := hfp _ hb; omega
 have hd15 := hx15.get (hx14.get hd (by simp)) (nfp hbd)
 have he15 := hx15.get hd14 (nfp s0)
 have hx015 : Ext fp H0 w15.heap := (hx014.mono (by simp)).trans hx15
 have s15 := hx15.1
 have fin : ∀ {w' : World} {d : List UInt8}, Ext [bd] w15.heap w'.heap → d.length = 32 → d = (if code = 0 then T.2 else Bl.nought) → R (.returned (.tuple #[arr d, .int .i64 code])) w' := by
  intro w' d hxb hdl' hd'
  have s' := hxb.1
  refine hR code d r' fp' w' hdl' (hS15.ext hxb (fun b hb h => ?_)) (hx015.own hxb (fun c hc hlt => by simp at hc; omega)) (fun b hb => ?_) (fun b hb => ?_) hP hd' hl1 hl2 hl3
  ·simp at h; subst h
   rcases hf _ hb with h | h
   ·exact nfp hbd h
   ·omega
  ·rcases hf _ hb with h | h
   ·have := hfp _ h; omega
   ·omega
  ·rcases hf _ hb with h | h
   ·exact .inl h
   ·right; omega
 refine zb5 (fun h1 => ?_) (fun h1 => ?_)
 ·exact zh7 rfl hd15 fun w16 hx16 => fin hx16 Bl.zda (by rw [if_neg h1])
 ·refine jf rfl he15 (by simp [h32]) ?_
  refine z4k (k := T.2) h32 rfl hd15 zcD fun w17 hw17 => ?_
  have hx17 : Ext [bd] w15.heap w17.heap := by rw [hw17]; exact Ext.set _ (by simp)
  have hd17 : w17.heap[bd]? = some (.cells (byteCells T.2).toArray zf (0, 0)) := by rw [hw17]; exact qm hd15
  refine jf rfl hd17 (by simp [h32]) ?_
  subst h1
  exact fin hx17 h32 (by rw [if_pos rfl])
def qmd (H : Heap) (fp : List Nat) (p : Nat) (q : Int) (r : Bl.SM) (pre : Int) (T : List (List UInt8) × List UInt8) (k : Nat) (e : Ending) (w' : World) : Prop :=
 ∃ code d r' fp', e = .returned (.tuple #[arr d, .int .i64 code]) ∧ d.length = 32 ∧ Bl.zd9 w'.heap fp' p q r' ∧ Ext fp H w'.heap ∧ (∀ b ∈ fp', b < w'.heap.size) ∧ (∀ b ∈ fp', b ∈ fp ∨ H.size ≤ b) ∧
   zvp pre q r T code d r' ∧ r'.length ≤ r.length + k ∧ Bl.total r' ≤ Bl.total r + 4096 * k ∧ ∀ x ∈ r', x.2.1.2.length < 1099511627776
set_option maxHeartbeats 2000000 in
theorem qhm {w : World} {H : Heap} {fp : List Nat} {p : Nat} {q : Int} {r : Bl.SM} {D : List UInt8} (hw : w.heap = H) (hS : Bl.zd9 H fp p q r) (hfp : ∀ b ∈ fp, b < H.size)
  (hb : Bl.total r < 1000000000000) (hn : r.length < 100000000000) (hq : 0 ≤ q) (hq2 : q ≤ 9223372036854775807) (hlen : ∀ x ∈ r, x.2.1.2.length < 1099511627776) :
  qg P zrd #[.pointer (some ⟨p, 0, none⟩), .string (strOf D)] w (qmd H fp p q r (ziq D) (zzk D) 17) := by
 refine z6c ?_
 unfold zqs
 refine jw hw fun w1 hw1 => ?_
 have hx1 : Ext [] H w1.heap := by rw [hw1]; exact .push _
 have hd1 : w1.heap[H.size]? = some (.cells (zc P zf) zf (0, 0)) := by rw [hw1]; exact zn
 have s1 := lt_of_get hd1
 refine zq (fun hbig => ?_) (fun hsm => ?_)
 ·have hc : ziq D = 134 := by unfold ziq; rw [if_pos (by simp only [jm] at hbig; omega)]
  refine zh7 rfl hd1 fun w2 hx2 => ?_
  have hxx : Ext fp H w2.heap := (hx1.mono (by simp)).own hx2 (fun c hc hlt => by simp at hc; omega)
  have hsz := hxx.1
  exact ⟨134, Bl.nought, r, fp, rfl, Bl.zda, (hS.ext hx1 (by simp)).ext hx2 (fun b hb h => by simp at h; have := hfp b hb; omega), hxx, fun b hb => by have := hfp b hb; omega, fun b hb => .inl hb, ⟨fun _ => ⟨hc.symm, rfl, rfl⟩, fun h => absurd (hc.symm.trans h) (by decide)⟩, by omega, by omega, hlen⟩
 have hDl : D.length ≤ 1024 := by simp only [jm] at hsm; omega
 have hc0 : ziq D = 0 := by unfold ziq; rw [if_neg (by omega)]
 refine zk (qf5 (B := w1.heap.size) (x := (none, 0, 0)) (Ls := []) rfl .nil (Nat.le_refl _) (by simp) (show D.length ≤ 100000 by omega)) ?_
 rintro e w12 ⟨x2, rfl, hbl, hx12, hs12⟩
 refine ⟨(x2, arr (zc7 D)), rfl, ?_⟩
 have h17 : (zzk D).1.length ≤ 17 := zn5 hDl
 have hx12' : Ext [] w1.heap w12.heap := hx12.mono (by simp [xu])
 refine qi2 (R := qmd H fp p q r (ziq D) (zzk D) 17) (T := zzk D) rfl (hx1.trans hx12') hS hfp (Nat.le_refl _) (hx12'.get hd1 (by simp)) hbl zad (z1j hDl) hb (by omega) hn hq hq2 hlen fun code d r' fp' w' a1 a2 a3 a4 a5 a6 a7 a8 a9 a10 => ?_
 exact ⟨code, d, r', fp', rfl, a1, a2, a3, a4, a5, ⟨fun h => absurd hc0 h, fun _ => ⟨a6, a7⟩⟩, by omega, by omega, a10⟩
theorem qew {T E : TypeId} {sz : Nat} {H : Heap} {a : Option Addr} {l c : Nat} {vs : List Value} {i : Nat} {n : Int} (hu : P.underlying T = some (.slice E)) (hs : (P.info? E).map (·.size) = some sz) (hL : Cells H a vs) (hc : l ≤ c) (hi : i ≤ l) (hn : n = (i : Int)) :
  ∃ a', (∀ w, (Instr.sliceAt T (.slice a l c) none (some (.int .i64 n)) none).run P w = .ok (.slice a' i c) w) ∧ Cells H a' (vs.take (i * sz)) := by
 refine ⟨_, fun w => zaz (l := 0) (h := i) hu hs .no (.yes hn) (Nat.zero_le _) (by omega), ?_⟩
 by_cases h : c = 0
 ·rw [if_pos h]; exact hL.take _
 ·rw [if_neg h, Nat.zero_mul]
  have := hL.part 0 vs.length (by omega)
  simp only [List.drop_zero, List.take_length] at this
  exact this.take _
theorem qg5 {T E : TypeId} {sz : Nat} {H : Heap} {a : Option Addr} {l c : Nat} {vs : List Value} {i : Nat} {n : Int} (hu : P.underlying T = some (.slice E)) (hs : (P.info? E).map (·.size) = some sz) (hL : Cells H a vs) (hv : vs.length = l * sz) (hc : l ≤ c) (hi : i ≤ l) (hn : n = (i : Int)) :
  ∃ a', (∀ w, (Instr.sliceAt T (.slice a l c) (some (.int .i64 n)) none none).run P w = .ok (.slice a' (l - i) (c - i)) w) ∧ Cells H a' (vs.drop (i * sz)) := by
 refine ⟨_, fun w => zaz (l := i) (h := l) hu hs (.yes hn) .no (by omega) (by omega), ?_⟩
 by_cases h : c = i
 ·left
  rw [List.drop_eq_nil_of_le]
  rw [hv, show l = i by omega]; exact Nat.le_refl _
 ·rw [if_neg h]
  have h1 : i * sz ≤ l * sz := Nat.mul_le_mul_right _ hi
  have := hL.part (i * sz) (vs.length - i * sz) (by omega)
  rwa [List.take_of_length_le (by simp)] at this
theorem uFs : P.underlying zo = some (.slice zl) := by kernel_rfl
theorem qm9 : (P.info? zl).map (·.size) = some 3 := by kernel_rfl
theorem EFi : Elem P zl 3 40 := zmn (z := .agg #[.string .empty, .bool false, .string .empty]) (by kernel_rfl) rfl
theorem qme : P.underlying zby = some (.slice ql) := by kernel_rfl
theorem qmt : (P.info? ql).map (·.size) = some 1 := by kernel_rfl
theorem qd9 (S : List Fil) : (S.flatMap zbo).length = S.length * 3 := by rw [qc zbo zb8]
theorem qm7 {S : List Fil} : zcs (S.flatMap zbo) := by
 intro v hv
 obtain ⟨i, _, hi⟩ := List.mem_flatMap.1 hv
 exact zwg v hi
theorem qk3 {S : List Fil} {i : Nat} (hi : i ≤ S.length) : (S.flatMap zbo).take (i * 3) = (S.take i).flatMap zbo := by
 have h1 : S.flatMap zbo = (S.take i).flatMap zbo ++ (S.drop i).flatMap zbo := by rw [← List.flatMap_append, List.take_append_drop]
 have h2 : ((S.take i).flatMap zbo).length = i * 3 := by rw [qd9, List.length_take, Nat.min_eq_left hi]
 rw [h1, List.take_left' h2]
theorem qlo {S : List Fil} {i : Nat} (hi : i ≤ S.length) : (S.flatMap zbo).drop (i * 3) = (S.drop i).flatMap zbo := by
 have h1 : S.flatMap zbo = (S.take i).flatMap zbo ++ (S.drop i).flatMap zbo := by rw [← List.flatMap_append, List.take_append_drop]
 have h2 : ((S.take i).flatMap zbo).length = i * 3 := by rw [qd9, List.length_take, Nat.min_eq_left hi]
 rw [h1, List.drop_left' h2]
theorem qnd {w : World} {H : Heap} (hw : w.heap = H) {K : (Option Addr × Nat × Nat) → World → Prop} (hK : ∀ w', Ext [] H w'.heap → Mine w'.heap H.size zl 3 (some ⟨H.size, 0, none⟩, 0, 0) (([] : List Fil).flatMap zbo) → K (some ⟨H.size, 0, none⟩, 0, 0) w') : zan P (Instr.buildSlice zo 0 #[]) .slc w K := by
 refine zai (s := .slc) (some ⟨H.size, 0, none⟩, 0, 0) { w with heap := H.push (.cells #[] zl) } (by rw [← hw]; kernel_rfl) ?_
 exact hK _ (.push _) (.inr ⟨H.size, #[], rfl, Nat.le_refl _, zn, rfl, rfl, Nat.le_refl _, rfl⟩)
theorem ql8 {w : World} {H : Heap} {B : Nat} {x : Option Addr × Nat × Nat} {a : Option Addr} {l c : Nat} {xs ys : List Fil} (hw : w.heap = H) (hx : Mine H B zl 3 x (xs.flatMap zbo)) (hB : B ≤ H.size) (hL : Cells H a (ys.flatMap zbo)) (hl : l = ys.length) (hlen : xs.length + ys.length ≤ 1099511627) {K : (Option Addr × Nat × Nat) → World → Prop}
  (hK : ∀ x' w', Mine w'.heap B zl 3 x' ((xs ++ ys).flatMap zbo) → Ext (xu x) H w'.heap → K x' w') : zan P (Builtin.append_ #[zo, zo] zo #[.slice x.1 x.2.1 x.2.2, .slice a l c]) .slc w K := by
 have hxl : x.2.1 = xs.length := by have := hx.len; rw [qd9] at this; omega
 refine zcr EFi (by omega) uFs (za6 uFs) hw hx hB (Src.slc hw hL (by rw [qd9, hl])) qm7 (by omega) ?_
 intro x' w' hm hl' hx' hs
 refine hK x' w' ?_ hx'
 rw [List.flatMap_append]; exact hm
theorem qmh {w : World} {H : Heap} (f : Fil) (hw : w.heap = H) {K : (Option Addr × Nat × Nat) → World → Prop} (hK : ∀ a w', Ext [] H w'.heap → Cells w'.heap a ([f].flatMap zbo) → K (a, 1, 1) w') : zan P (Instr.buildSlice zo 1 #[(0, .agg (zbo f).toArray)]) .slc w K := by
 refine zai (s := .slc) (some ⟨w.heap.size, 0, none⟩, 1, 1) _ (zdy EFi uFs (v := .agg (zbo f).toArray) (by simp [Value.cells, zb8]) (by omega) (by omega)) ?_
 exact hK _ _ (by rw [← hw]; exact .push _) (.inr ⟨w.heap.size, 0, _, _, _, rfl, zn, by simp [Value.cells, zbo], by simp [Value.cells, zbo]⟩)
theorem qf1 : ∀ {S : List Fil} {f : Fil} {i : Nat}, i ≤ S.length → (∀ g ∈ S.take i, zfy (nm g) (nm f) < 0) → (∀ g, S[i]? = some g → ¬ zfy (nm g) (nm f) < 0) → z06 S f = S.take i ++ f :: S.drop i
 | [], f, i, _, _, _ => by simp [z06]
 | g :: S, f, 0, _, _, h2 => by
  unfold z06
  rw [if_neg (h2 g rfl)]; rfl
 | g :: S, f, i + 1, hi, h1, h2 => by
  unfold z06
  rw [if_pos (h1 g (by simp)), qf1 (by simpa using hi) (fun x hx => h1 x (by simp [hx])) (fun x hx => h2 x (by simpa using hx))]
  rfl
set_option maxHeartbeats 4000000 in
theorem qf3 {w : World} {H : Heap} {x : Option Addr × Nat × Nat} {S : List Fil} {f : Fil} (hw : w.heap = H) (hL : Cells H x.1 (S.flatMap zbo)) (hl : x.2.1 = S.length) (hc : x.2.1 ≤ x.2.2) (hS : S.length ≤ 1000000) :
  qg P zlb #[.slice x.1 x.2.1 x.2.2, .agg (zbo f).toArray] w fun e w' => ∃ x', e = .returned (zc9 x') ∧ Mine w'.heap H.size zl 3 x' ((z06 S f).flatMap zbo) ∧ Ext [] H w'.heap := by
 refine z2x ?_
 unfold zpm
 refine jw hw fun w1 hw1 => ?_
 have hx1 : Ext [] H w1.heap := by rw [hw1]; exact .push _
 have hb1 : w1.heap[H.size]? = some (.cells (zbo f).toArray zl (0, 0)) := by rw [hw1]; exact zn
 refine joinP_of (fun (s : Int) W => ∃ i : Nat, s = (i : Int) ∧ i ≤ S.length ∧ (∀ g ∈ S.take i, zfy (nm g) (nm f) < 0) ∧ (∀ g, S[i]? = some g → ¬ zfy (nm g) (nm f) < 0) ∧ Ext [] w1.heap W.heap) ?_ ?_
 ·refine jd (fun (s : Int) W => ∃ i : Nat, s = (i : Int) ∧ i ≤ S.length ∧ (∀ g ∈ S.take i, zfy (nm g) (nm f) < 0) ∧ Ext [] w1.heap W.heap) (fun s _ => (S.length - s).toNat) ⟨0, rfl, Nat.zero_le _, by simp, .refl _ _⟩ ?_
  rintro _ W ⟨i, rfl, hi, hlo, hxW⟩
  refine joinP_of (fun _ W' => i < S.length ∧ (∀ g ∈ S.take (i + 1), zfy (nm g) (nm f) < 0) ∧ Ext [] w1.heap W'.heap) ?_ ?_
  rotate_left
  ·rintro _ W' ⟨g1, g2, g3⟩
   refine xw ((i + 1 : Nat) : Int) (by simp) (by omega) (by omega) ?_
   exact ⟨⟨i + 1, rfl, by omega, g2, g3⟩, by omega⟩
  refine vg rfl fun w3 hw3 => ?_
  have hxW3 : Ext [] w1.heap w3.heap := by rw [hw3]; exact hxW
  have hb3 := hxW3.get hb1 (by simp)
  refine zq (fun hlt => ?_) (fun hge => ?_)
  ·have hil : i < S.length := by omega
   have hget := List.getElem?_eq_getElem hil
   generalize S[i] = g at hget
   refine Bl.zdf (i := i) zb8 (by omega) (hL.ext (hx1.trans hxW3) (by simp)) hl hget rfl fun b o c T fr _ hb hsz hcc _ => ?_
   refine jh (s := .str) (t := strOf g.path) rfl hb (hcc 0 (by omega)) ?_
   refine jh (s := .str) (t := strOf f.path) rfl hb3 rfl ?_
   refine zk (z2e g.path rfl) ?_
   rintro e w4 ⟨y, rfl, hm4, hx4⟩
   refine ⟨y, rfl, ⟨jh (s := .str) (o := 0) (t := strOf f.path) (K := fun z => Value.string z = Value.string (strOf f.path)) rfl (hx4.get hb3 (by simp)) rfl rfl, ?_⟩⟩
   refine zk (z2e f.path rfl) ?_
   rintro e w5 ⟨z, rfl, hm5, hx5⟩
   refine ⟨z, rfl, ?_⟩
   have hm4 : Mine w4.heap w3.heap.size qx 1 y (strRow (nm g)) := hm4
   have hm5 : Mine w5.heap w4.heap.size qx 1 z (strRow (nm f)) := hm5
   have hyl : y.2.1 = (nm g).length := by have := hm4.len; simp at this; omega
   have hzl : z.2.1 = (nm f).length := by have := hm5.len; simp at this; omega
   have h8 := (zk7 g).2
   refine zk (z1d rfl (hm4.ext hx5 (by simp)).cells hyl hm5.cells hzl (by omega)) ?_
   rintro e w6 ⟨rfl, hw6⟩
   refine ⟨zfy (nm g) (nm f), rfl, ?_⟩
   have hx6 : Ext [] w1.heap w6.heap := by rw [hw6]; exact (hxW3.trans hx4).trans hx5
   refine zq (fun h => ?_) (fun h => ?_)
   ·exact ⟨hil, zdr hget hlo h, hx6⟩
   ·exact ⟨i, rfl, hi, hlo, fun g' hg' => by rw [hget] at hg'; cases hg'; exact h, hx6⟩
  ·refine ⟨rfl, i, rfl, hi, hlo, fun g hg => ?_, hxW3⟩
   have := (List.getElem?_eq_some_iff.1 hg).1
   omega
 ·rintro _ W ⟨i, rfl, hi, hlo, hhi, hxW⟩
  have hx := hx1.trans hxW
  have hLW := hL.ext hx (by simp)
  refine qnd rfl fun w9 hx9 hm9 => ?_
  obtain ⟨a1, r1, c1⟩ := qew (T := zo) (l := x.2.1) (c := x.2.2) (i := i) uFs qm9 (hLW.ext hx9 (by simp)) hc (by omega) rfl
  refine xg (s := .slc) (a1, i, x.2.2) (r1 _) ?_
  rw [qk3 hi] at c1
  refine ql8 (ys := S.take i) rfl hm9 (by have := hx9.1; omega) c1 (by simp; omega) (by simp; omega) fun x3 w10 hm10 hx10 => ?_
  have h0 : ∀ b ∈ xu (some (⟨W.heap.size, 0, none⟩ : Addr), 0, 0), W.heap.size ≤ b := by simp [xu]
  have s9 := hx9.1
  have s10 := hx10.1
  have sW := hx.1
  have lb1 := lt_of_get hb1
  have sxW := hxW.1
  have hx910 : Ext [] W.heap w10.heap := hx9.own hx10 (fun c hc hlt => by have := h0 c hc; omega)
  have hb10 := hx910.get (hxW.get hb1 (by simp)) (by simp)
  refine jf rfl hb10 rfl ?_
  refine qmh f rfl fun a2 w11 hx11 hc11 => ?_
  have hx911 := hx910.trans hx11
  refine ql8 (ys := [f]) rfl (hm10.ext hx11 (by simp)) (by have := hx11.1; omega) hc11 rfl (by simp; omega) fun x4 w12 hm12 hx12 => ?_
  have g3 := jc hm10
  have hx912 : Ext [] W.heap w12.heap := hx911.own hx12 (fun c hc hlt => by have := g3 c hc; omega)
  obtain ⟨a3, r3, c3⟩ := qg5 (T := zo) (l := x.2.1) (c := x.2.2) (i := i) uFs qm9 (hLW.ext hx912 (by simp)) (by rw [qd9, hl]) hc (by omega) rfl
  refine xg (s := .slc) (a3, x.2.1 - i, x.2.2 - i) (r3 _) ?_
  rw [qlo hi] at c3
  refine ql8 (ys := S.drop i) rfl hm12 (by have := hx12.1; have := hx11.1; omega) c3 (by simp; omega) (by simp; omega) fun x5 w13 hm13 hx13 => ?_
  have g4 := jc hm12
  have hx913 : Ext [] W.heap w13.heap := hx912.own hx13 (fun c hc hlt => by have := g4 c hc; omega)
  refine ⟨x5, rfl, ?_, hx.trans hx913⟩
  rw [qf1 hi hlo hhi]
  have e : ([] ++ S.take i ++ [f] ++ S.drop i) = S.take i ++ f :: S.drop i := by simp
  rw [e] at hm13
  exact hm13.mono sW
abbrev NR := (Option Addr × Nat × Nat) × Path
def encR (y : NR) : List Value := [zc9 y.1]
theorem qa5 (y : NR) : (encR y).length = 1 := rfl
theorem qbb (ys : List NR) : ys.flatMap encR = ys.map fun y => zc9 y.1 := by
 induction ys with
 | nil => rfl
 | cons y ys ih => rw [List.flatMap_cons, ih]; rfl
def z8a (H : Heap) (y : NR) : Prop := Mine H 0 qx 1 y.1 (strRow y.2)
theorem qbu {w : World} {H : Heap} {a b : Option Addr} {n nc m mc : Nat} {ys : List NR} {p : Path} (hw : w.heap = H) (hL : Cells H a (ys.flatMap encR)) (hn : n = ys.length) (hy : ∀ y ∈ ys, z8a H y) (h8 : ∀ y ∈ ys, y.2.length ≤ 8) (hys : ys.length ≤ 65536) (hp : Cells H b (strRow p)) (hm : m = p.length) :
  qg P zhu #[.slice a n nc, .slice b m mc] w fun e w' => w'.heap = H ∧ ((e = .returned (.int .i64 (-1)) ∧ ∀ y ∈ ys, y.2 ≠ p) ∨ ∃ (i : Nat) (y : NR), e = .returned (.int .i64 (i : Int)) ∧ ys[i]? = some y ∧ y.2 = p) := by
 refine z4o ?_
 unfold zrb
 refine jd (fun (s : Int) W => ∃ i : Nat, s = (i : Int) ∧ i ≤ ys.length ∧ (∀ y ∈ ys.take i, y.2 ≠ p) ∧ W.heap = H) (fun s _ => (ys.length - s).toNat) ⟨0, rfl, Nat.zero_le _, by simp, hw⟩ ?_
 rintro _ W ⟨i, rfl, hi, hno, hW⟩
 refine zq (fun hlt => ?_) (fun hge => ?_)
 ·have hil : i < ys.length := by omega
  have hget := List.getElem?_eq_getElem hil
  have hmem : ys[i] ∈ ys := List.getElem_mem hil
  generalize ys[i] = y at hget hmem
  refine Bl.zdf (i := i) qa5 (by omega) hL hn hget rfl fun b' o c T fr _ hb hsz hcc _ => ?_
  refine jh (s := .slc) (t := y.1) hW hb (hcc 0 (by omega)) ?_
  have hyl : y.1.2.1 = y.2.length := by have := Mine.len (hy y hmem); simp at this; omega
  have := h8 y hmem
  refine zk (z1d hW (hy y hmem).cells hyl hp hm (by omega)) ?_
  rintro e w2 ⟨rfl, hw2⟩
  refine ⟨zfy y.2 p, rfl, ?_⟩
  refine zbv (fun h => ?_) (fun h => ?_)
  ·exact ⟨hw2, .inr ⟨i, y, rfl, hget, znr.1 h⟩⟩
  ·refine xw ((i + 1 : Nat) : Int) (by simp) (by omega) (by omega) ?_
   refine ⟨⟨i + 1, rfl, by omega, fun z hz => ?_, hw2⟩, by omega⟩
   rw [List.take_add_one, hget] at hz
   rcases List.mem_append.1 hz with hz | hz
   ·exact hno z hz
   ·simp at hz; rw [hz]; exact fun e => h (znr.2 e)
 ·obtain rfl : i = ys.length := by omega
  rw [List.take_length] at hno
  exact ⟨hW, .inl ⟨rfl, hno⟩⟩
theorem ERs : Elem P ql 1 24 := zmn (z := .slice none 0 0) (by kernel_rfl) rfl
def zld (H : Heap) (B : Nat) (x : Option Addr × Nat × Nat) (ps : List Path) : Prop :=
 ∃ ys : List NR, Mine H B ql 1 x (ys.flatMap encR) ∧ ys.map (·.2) = ps ∧ ∀ y ∈ ys, z8a H y
theorem zld.nil {H : Heap} {B : Nat} : zld H B (none, 0, 0) [] := ⟨[], .inl ⟨rfl, rfl⟩, rfl, by simp⟩
theorem qni (ys : List NR) : (ys.flatMap encR).length = ys.length := by rw [qbb]; simp
theorem zld.len {H : Heap} {B : Nat} {x : Option Addr × Nat × Nat} {ps : List Path} (h : zld H B x ps) : x.2.1 = ps.length := by
 obtain ⟨ys, h1, h2, _⟩ := h
 have := h1.len
 rw [qni] at this
 rw [← h2]; simp; omega
theorem zld.ext {H H' : Heap} {B : Nat} {x : Option Addr × Nat × Nat} {ps : List Path} (h : zld H B x ps) (hx : Ext [] H H') : zld H' B x ps := by
 obtain ⟨ys, h1, h2, h3⟩ := h
 exact ⟨ys, h1.ext hx (by simp), h2, fun y hy => Mine.ext (h3 y hy) hx (by simp)⟩
theorem zld.cap {H : Heap} {B : Nat} {x : Option Addr × Nat × Nat} {ps : List Path} (h : zld H B x ps) : x.2.1 ≤ x.2.2 := by
 obtain ⟨ys, h1, _⟩ := h
 exact zib h1
theorem zld.ge {H : Heap} {B : Nat} {x : Option Addr × Nat × Nat} {ps : List Path} (h : zld H B x ps) : ∀ b ∈ xu x, B ≤ b := by
 obtain ⟨ys, h1, _⟩ := h
 exact jc h1
theorem qhr {w : World} {H : Heap} {B B2 : Nat} {x y : Option Addr × Nat × Nat} {ps : List Path} {p : Path} (hw : w.heap = H) (hB : zld H B x ps) (hBs : B ≤ H.size) (hy : Mine H B2 qx 1 y (strRow p)) (hlen : ps.length ≤ 1073741824) {K : (Option Addr × Nat × Nat) → World → Prop}
  (hK : ∀ x' w', zld w'.heap B x' (ps ++ [p]) → Ext (xu x) H w'.heap → K x' w') :
  zan P (Instr.buildSlice zby 1 #[(0, (Value.slice y.1 y.2.1 y.2.2))]) .slc w fun (t15 : (Option Addr × Nat × Nat)) w_4 =>
  zan P (Builtin.append_ #[zby, zby] zby #[(Value.slice x.1 x.2.1 x.2.2), (Value.slice t15.1 t15.2.1 t15.2.2)]) .slc w_4 K := by
 have hl := hB.len
 obtain ⟨ys, h1, h2, h3⟩ := hB
 have hylen : ys.length = ps.length := by rw [← h2]; simp
 refine zai (s := .slc) (some ⟨w.heap.size, 0, none⟩, 1, 1) _ (zdy ERs qme (v := .slice y.1 y.2.1 y.2.2) rfl (by omega) (by omega)) ?_
 subst hw
 have hxp : Ext [] w.heap (w.heap.push (.cells (Value.slice y.1 y.2.1 y.2.2).cells ql)) := .push _
 refine zcr (n := 1) (us := [zc9 y]) (H := w.heap.push (.cells (Value.slice y.1 y.2.1 y.2.2).cells ql)) ERs (by omega) qme (za6 qme) rfl (h1.ext hxp (by simp)) (by simp; omega)
  (Src.slc rfl (.inr ⟨w.heap.size, 0, _, _, _, rfl, zn, by simp [Value.cells], by simp [Value.cells, zc9]⟩) rfl) (by intro v hv; simp at hv; subst hv; rfl) (by omega) ?_
 intro x' w4 hm4 hl4 hx4 hs4
 have hx04 : Ext (xu x) w.heap w4.heap := (hxp.mono (by simp)).trans hx4
 refine hK x' w4 ⟨ys ++ [(y, p)], by rw [List.flatMap_append, List.flatMap_singleton]; exact hm4, by simp [h2], fun z hz => ?_⟩ hx04
 rcases List.mem_append.1 hz with hz | hz
 ·exact Mine.ext (h3 z hz) hx04 (zg1 (h3 z hz) h1 (by decide))
 ·simp only [List.mem_singleton] at hz
  subst hz
  exact Mine.ext (hy.mono (Nat.zero_le _)) hx04 (zg1 hy h1 (by decide))
theorem ql3 {L : List Fil} (h5 : ¬ zze L) {f g : Fil} (hf : f ∈ L) (hg : g ∈ L) (e : nm f = nm g) : f = g := by
 obtain ⟨i, hi, rfl⟩ := List.getElem_of_mem hf
 obtain ⟨j, hj, rfl⟩ := List.getElem_of_mem hg
 rcases Nat.lt_trichotomy i j with h | h | h
 ·exact absurd ⟨j, hj, .inr ⟨L[i], List.mem_take_iff_getElem.2 ⟨i, by omega, rfl⟩, e⟩⟩ h5
 ·subst h; rfl
 ·exact absurd ⟨i, hi, .inr ⟨L[j], List.mem_take_iff_getElem.2 ⟨j, by omega, rfl⟩, e.symm⟩⟩ h5
theorem z09 : ∀ {S : List Fil} {f : Fil}, z06 (S.map clean) (clean f) = (z06 S f).map clean
 | [], f => rfl
 | g :: S, f => by
  simp only [List.map_cons, z06, z2q]
  split
  ·rw [List.map_cons, z09]
  ·rfl
theorem qc0 {f : Fil} : (zbo f).toArray.setIfInBounds 0 (.string (strOf (vk (nm f)))) = (zbo (clean f)).toArray := by
 simp [zbo, clean]
theorem zl4 {H : Heap} {a : Option Addr} {n i : Nat} {m : Int} {ys : List NR} {L : List Fil} {f : Fil} (hL : Cells H a (ys.flatMap encR)) (hn : n = ys.length) (hy : ∀ y ∈ ys, z8a H y) (he : ys.map (·.2) = L.map nm) (hi : L[i]? = some f) (hm : m = (i : Int)) {K : Addr → Prop}
  (hK : ∀ (b o : Nat) c T fr (z : Option Addr × Nat × Nat), H[b]? = some (.cells c T fr) → c[o]? = some (zc9 z) → z8a H (z, nm f) → K ⟨b, o, none⟩) : ixS a n 1 m K := by
 have h1 : (ys.map (·.2))[i]? = (L.map nm)[i]? := by rw [he]
 rw [List.getElem?_map, List.getElem?_map, hi] at h1
 cases hg : ys[i]? with
 | none => rw [hg] at h1; cases h1
 | some y =>
  rw [hg] at h1
  simp only [Option.map_some, Option.some.injEq] at h1
  have hmem : y ∈ ys := List.mem_of_getElem? hg
  refine Bl.zdf (i := i) qa5 (by omega) hL hn hg hm fun b o c T fr _ hb hsz hcc _ => ?_
  refine hK b o c T fr y.1 hb (hcc 0 (by omega)) ?_
  have := hy y hmem
  rw [← h1]; exact this
theorem z8a.len {H : Heap} {z : Option Addr × Nat × Nat} {p : Path} (h : z8a H (z, p)) : z.2.1 = p.length := by
 have := Mine.len h
 simp at this; omega
theorem qbt {H : Heap} {z : Option Addr × Nat × Nat} {p : Path} (h : z8a H (z, p)) (hp : p ≠ []) {n : Int} (hn : n = ((p.length - 1 : Nat) : Int)) :
  ∃ a', (∀ w, (Instr.sliceAt ql (.slice z.1 z.2.1 z.2.2) none (some (.int .i64 n)) none).run P w = .ok (.slice a' (p.length - 1) z.2.2) w) ∧ Cells H a' (strRow p.dropLast) := by
 have hl := h.len
 obtain ⟨a', h1, h2⟩ := qew (T := ql) (l := z.2.1) (c := z.2.2) (i := p.length - 1) zv3 qeh (Mine.cells h) (zib h) (by omega) hn
 refine ⟨a', h1, ?_⟩
 rw [List.dropLast_eq_take]
 have : (strRow p).take ((p.length - 1) * 1) = strRow (p.take (p.length - 1)) := by simp [strRow, List.map_take]
 rw [← this]; exact h2
structure Seen (H : Heap) (a : Option Addr) (x : Option Addr × Nat × Nat) (ys : List NR) (L : List Fil) : Prop where
 row : Cells H a (L.flatMap zbo)
 cells : Cells H x.1 (ys.flatMap encR)
 len : x.2.1 = ys.length
 cap : x.2.1 ≤ x.2.2
 path : ∀ y ∈ ys, z8a H y
 eq : ys.map (·.2) = L.map nm
theorem Seen.ext {H H' : Heap} {a : Option Addr} {x : Option Addr × Nat × Nat} {ys : List NR} {L : List Fil} (h : Seen H a x ys L) (hx : Ext [] H H') : Seen H' a x ys L :=
 ⟨h.row.ext hx (by simp), h.cells.ext hx (by simp), h.len, h.cap, fun y hy => Mine.ext (h.path y hy) hx (by simp), h.eq⟩
theorem qg4 {w : World} {H : Heap} {a : Option Addr} {n : Nat} {x : Option Addr × Nat × Nat} {ys : List NR} {L : List Fil} (hw : w.heap = H) (hN : Seen H a x ys L) (hn : n = L.length) (hm : L.length ≤ 65536) {R : (Option Addr × Nat × Nat) × Int → World → Prop}
  (hR : ∀ x' (i : Int) w', Mine w'.heap H.size zl 3 x' (((zhs L).map clean).flatMap zbo) → Ext [] H w'.heap → R (x', i) w') :
  zat ((Option Addr × Nat × Nat) × Int) (fun s_14 w_24 k_14 =>
  xk (decide (s_14.2 < (n : Int))) (
  ixS a n 3 s_14.2 fun t193 =>
  ldA P 3 t193 w_24 fun t194 =>
  zbi (zc P zl) zl w_24 fun b20 w_25 =>
  zbn P (storeVar zl (⟨b20, 0, none⟩ : Addr) (Value.agg t194)) w_25 fun w_26 =>
  ixS x.1 x.2.1 1 s_14.2 fun t197 =>
  ld .slc t197 w_26 fun (t198 : (Option Addr × Nat × Nat)) =>
  qp P zp6 #[(Value.slice t198.1 t198.2.1 t198.2.2)] [.str] false w_26 fun (t199 : ByteArray) w_27 =>
  stC (⟨b20, 0, none⟩ : Addr) (Value.string t199) w_27 fun w_28 =>
  ldA P 3 (⟨b20, 0, none⟩ : Addr) w_28 fun t202 =>
  qp P zlb #[(Value.slice s_14.1.1 s_14.1.2.1 s_14.1.2.2), (Value.agg t202)] [.slc] false w_28 fun (t203 : (Option Addr × Nat × Nat)) w_29 =>
  zbb .i64 s_14.2 1 fun t190 =>
  k_14 ((t203.1, t203.2.1, t203.2.2), t190) w_29) (
  R s_14 w_24)) ((none, 0, 0), 0) w := by
 refine jd (fun (s : (Option Addr × Nat × Nat) × Int) W => ∃ i : Nat, s.2 = (i : Int) ∧ i ≤ L.length ∧ Ext [] H W.heap ∧ Mine W.heap H.size zl 3 s.1 (((zhs (L.take i)).map clean).flatMap zbo) ∧ (zhs (L.take i)).length = i) (fun s _ => (L.length - s.2).toNat)
  ⟨0, rfl, Nat.zero_le _, by rw [hw]; exact .refl _ _, .inl ⟨rfl, rfl⟩, rfl⟩ ?_
 rintro ⟨x', _⟩ W ⟨i, rfl, hi, hx, hmW, hsl⟩
 refine zq (fun hlt => ?_) (fun hge => ?_)
 ·have hil : i < L.length := by simp only at hlt; omega
  have hget := List.getElem?_eq_getElem hil
  generalize L[i] = f at hget
  refine zkm (i := i) zb8 (by omega) rfl (hN.ext hx).row hn hget rfl ?_
  refine qnh f rfl fun w3 hw3 => ?_
  have hx3 : Ext [] W.heap w3.heap := by rw [hw3]; exact .push _
  have hb3 : w3.heap[W.heap.size]? = some (.cells (zbo f).toArray zl (0, 0)) := by rw [hw3]; exact zn
  have hN3 := hN.ext (hx.trans hx3)
  refine zl4 (i := i) hN3.cells hN3.len hN3.path hN3.eq hget rfl fun b o c T fr z hb hc hp => ?_
  refine jh (s := .slc) (t := z) rfl hb hc ?_
  have hsm := (zk7 f).small
  refine zk (qkb (p := nm f) rfl (Mine.cells hp) hp.len (by omega)) ?_
  rintro e w4 ⟨rfl, rfl⟩
  refine ⟨strOf (vk (nm f)), rfl, ?_⟩
  refine zcd rfl hb3 (by simp [zbo]) fun w5 hw5 => ?_
  have hx5 : Ext [] W.heap w5.heap := by rw [hw5]; exact hx3.set_own (.inl (Nat.le_refl _))
  have hb5 : w5.heap[W.heap.size]? = some (.cells (zbo (clean f)).toArray zl (0, 0)) := by rw [hw5, ← qc0]; exact qm hb3
  refine jf rfl hb5 rfl ?_
  have hm5 : Mine w5.heap H.size zl 3 x' (((zhs (L.take i)).map clean).flatMap zbo) := hmW.ext hx5 (by simp)
  have hl5 : x'.2.1 = ((zhs (L.take i)).map clean).length := by have := hm5.len; rw [qd9] at this; omega
  refine zk (qf3 (f := clean f) rfl hm5.cells hl5 (zib hm5) (by simp; omega)) ?_
  rintro e w6 ⟨x6, rfl, hm6, hx6⟩
  refine ⟨x6, rfl, ?_⟩
  refine xw ((i + 1 : Nat) : Int) (by simp) (by omega) (by omega) ?_
  have hs : zhs (L.take (i + 1)) = z06 (zhs (L.take i)) f := by unfold zhs; rw [List.take_add_one, hget]; simp
  have s1 := (hx.trans hx5).1
  refine ⟨⟨i + 1, rfl, by omega, (hx.trans hx5).trans hx6, ?_, ?_⟩, by simp only; omega⟩
  ·rw [hs, ← z09]; exact hm6.mono s1
  ·rw [hs, (zsq _ _).length_eq]; simp [hsl]
 ·obtain rfl : i = L.length := by simp only at hge; omega
  rw [List.take_length] at hmW
  exact hR x' _ W hmW hx
theorem qlq {ys : List NR} {i : Nat} (hi : i ≤ ys.length) : (ys.flatMap encR).take (i * 1) = (ys.take i).flatMap encR := by
 simp [qbb, List.map_take]
theorem Seen.none {H : Heap} {a : Option Addr} {x : Option Addr × Nat × Nat} {ys : List NR} {L : List Fil} (h : Seen H a x ys L) {i : Nat} {p : Path} (hno : ∀ y ∈ ys.take i, y.2 ≠ p) : ∀ g ∈ L.take i, nm g ≠ p := by
 intro g hg e
 have h1 : (ys.take i).map (·.2) = (L.take i).map nm := by rw [List.map_take, h.eq, List.map_take]
 have : p ∈ (ys.take i).map (·.2) := by rw [h1]; exact List.mem_map.2 ⟨g, hg, e⟩
 obtain ⟨y, hy, e2⟩ := List.mem_map.1 this
 exact hno y hy e2
theorem Seen.at {H : Heap} {a : Option Addr} {x : Option Addr × Nat × Nat} {ys : List NR} {L : List Fil} (h : Seen H a x ys L) {j : Nat} {y : NR} (hy : ys[j]? = some y) : ∃ g, L[j]? = some g ∧ nm g = y.2 := by
 have h1 : (ys.map (·.2))[j]? = (L.map nm)[j]? := by rw [h.eq]
 rw [List.getElem?_map, List.getElem?_map, hy] at h1
 cases hg : L[j]? with
 | none => rw [hg] at h1; cases h1
 | some g =>
  rw [hg] at h1
  simp only [Option.map_some, Option.some.injEq] at h1
  exact ⟨g, rfl, h1.symm⟩
theorem Seen.small {H : Heap} {a : Option Addr} {x : Option Addr × Nat × Nat} {ys : List NR} {L : List Fil} (h : Seen H a x ys L) : ∀ y ∈ ys, y.2.length ≤ 8 := by
 intro y hy
 have : y.2 ∈ L.map nm := by rw [← h.eq]; exact List.mem_map.2 ⟨y, hy, rfl⟩
 obtain ⟨g, _, e⟩ := List.mem_map.1 this
 rw [← e]; exact (zk7 g).2
theorem Seen.count {H : Heap} {a : Option Addr} {x : Option Addr × Nat × Nat} {ys : List NR} {L : List Fil} (h : Seen H a x ys L) : ys.length = L.length := by
 have := congrArg List.length h.eq
 simpa using this
set_option maxHeartbeats 4000000 in
theorem qky {w : World} {H : Heap} {a : Option Addr} {n : Nat} {x : Option Addr × Nat × Nat} {ys : List NR} {L : List Fil} (hw : w.heap = H) (hN : Seen H a x ys L) (hn : n = L.length) (hm : L.length ≤ 65536) {Rb Rn : World → Prop}
  (hb : zze L → ∀ w', w'.heap = H → Rb w') (hno : ¬ zze L → ∀ w', w'.heap = H → Rn w') :
  zat Int (fun s_5 w_9 k_5 =>
  xk (decide (s_5 < (n : Int))) (
  Go.Fw.joinP Unit (fun k_6 =>
  Go.Fw.joinP Unit (fun k_7 =>
  zbj w_9 fun w_10 =>
  ixS x.1 x.2.1 1 s_5 fun t83 =>
  ld .slc t83 w_10 fun (t84 : (Option Addr × Nat × Nat)) =>
  xk ((t84.2.1 : Int) == 0) (
  Rb w_10) (
  ixS x.1 x.2.1 1 s_5 fun t93 =>
  za0 P (Instr.sliceAt zby (Value.slice x.1 x.2.1 x.2.2) none (some (Value.int .i64 s_5)) none) .slc w_10 fun (t90 : (Option Addr × Nat × Nat)) =>
  ld .slc t93 w_10 fun (t94 : (Option Addr × Nat × Nat)) =>
  qp P zhu #[(Value.slice t90.1 t90.2.1 t90.2.2), (Value.slice t94.1 t94.2.1 t94.2.2)] [.int .i64] false w_10 fun (t95 : Int) w_11 =>
  xk (decide (t95 ≥ 0)) (
  Rb w_11) (
  k_7 () w_11))) (fun _ w_12 =>
  k_6 () w_12)) (fun _ w_13 =>
  zbb .i64 s_5 1 fun t80 =>
  k_5 t80 w_13)) (
  Rn w_9)) 0 w := by
 have hyl := hN.count
 refine jd (fun (s : Int) W => ∃ i : Nat, s = (i : Int) ∧ i ≤ L.length ∧ W.heap = H ∧ ∀ j (h : j < L.length), j < i → nm L[j] ≠ [] ∧ ∀ g ∈ L.take j, nm g ≠ nm L[j]) (fun s _ => (L.length - s).toNat) ⟨0, rfl, Nat.zero_le _, hw, by omega⟩ ?_
 rintro _ W ⟨i, rfl, hi, hW, hok⟩
 refine zq (fun hlt => ?_) (fun hge => ?_)
 ·have hil : i < L.length := by omega
  have hget := List.getElem?_eq_getElem hil
  generalize hf : L[i] = f at hget
  refine zac (zac ?_)
  refine vg hW fun w10 hw10 => ?_
  refine zl4 (i := i) hN.cells hN.len hN.path hN.eq hget rfl fun b o c T fr z hbb hc hp => ?_
  refine jh (s := .slc) (t := z) hw10 hbb hc ?_
  have hzl := hp.len
  refine zbv (fun h0 => ?_) (fun h0 => ?_)
  ·exact hb ⟨i, hil, .inl (by rw [hf]; exact List.length_eq_zero_iff.1 (by omega))⟩ _ hw10
  refine zl4 (i := i) hN.cells hN.len hN.path hN.eq hget rfl fun b2 o2 c2 T2 fr2 z2 hbb2 hc2 hp2 => ?_
  have hz2l := hp2.len
  obtain ⟨a1, r1, c1⟩ := qew (T := zby) (l := x.2.1) (c := x.2.2) (i := i) qme qmt hN.cells hN.cap (by have := hN.len; omega) rfl
  refine xg (s := .slc) (a1, i, x.2.2) (r1 _) ?_
  rw [qlq (by omega)] at c1
  refine jh (s := .slc) (t := z2) hw10 hbb2 hc2 ?_
  refine zk (qbu (ys := ys.take i) (p := nm f) hw10 c1 (by simp; omega) (fun y hy => hN.path y (List.mem_of_mem_take hy)) (fun y hy => hN.small y (List.mem_of_mem_take hy)) (by simp; omega) (Mine.cells hp2) hz2l) ?_
  rintro e w11 ⟨hw11, ⟨rfl, hnone⟩ | ⟨j, y, rfl, hj, hyp⟩⟩
  ·refine ⟨-1, rfl, jl rfl ?_⟩
   refine xw ((i + 1 : Nat) : Int) (by simp) (by omega) (by omega) ?_
   refine ⟨⟨i + 1, rfl, by omega, hw11, fun j hj hji => ?_⟩, by omega⟩
   by_cases e : j = i
   ·subst e
    rw [hf]
    exact ⟨fun h => h0 (by rw [hzl, h]; rfl), hN.none hnone⟩
   ·exact hok j hj (by omega)
  ·refine ⟨(j : Int), rfl, zaa (by simp) ?_⟩
   obtain ⟨g, hg, hgn⟩ := hN.at (j := j) (y := y) (by
    rw [List.getElem?_take] at hj
    split at hj
    ·exact hj
    ·cases hj)
   have hji : j < i := by
    rw [List.getElem?_take] at hj
    split at hj
    ·assumption
    ·cases hj
   refine hb ⟨i, hil, .inr ⟨g, List.mem_take_iff_getElem.2 ⟨j, by omega, (List.getElem?_eq_some_iff.1 hg).2⟩, ?_⟩⟩ _ hw11
   rw [hf, hgn, hyp]
 ·obtain rfl : i = L.length := by omega
  refine hno ?_ _ hW
  rintro ⟨j, hj, h | ⟨g, hg, e⟩⟩
  ·exact (hok j hj hj).1 h
  ·exact (hok j hj hj).2 g hg e
set_option maxHeartbeats 4000000 in
theorem qlj {w : World} {H : Heap} {a : Option Addr} {n : Nat} {x : Option Addr × Nat × Nat} {ys : List NR} {L : List Fil} (hw : w.heap = H) (hN : Seen H a x ys L) (hn : n = L.length) (hm : L.length ≤ 65536) (h5 : ¬ zze L) {Rb : World → Prop} {Rn : Bool × Int → World → Prop}
  (hb : qeq L → ∀ w', w'.heap = H → Rb w') (hno : ¬ qeq L → ∀ (t : Bool) (i : Int) w', (t = true ↔ zz0 L) → w'.heap = H → Rn (t, i) w') :
  zat (Bool × Int) (fun s_8 w_14 k_8 =>
  xk (decide (s_8.2 < (n : Int))) (
  Go.Fw.joinP Bool (fun k_9 =>
  zbj w_14 fun w_15 =>
  ixS x.1 x.2.1 1 s_8.2 fun t106 =>
  ixS x.1 x.2.1 1 s_8.2 fun t110 =>
  ld .slc t106 w_15 fun (t107 : (Option Addr × Nat × Nat)) =>
  ld .slc t110 w_15 fun (t111 : (Option Addr × Nat × Nat)) =>
  zow .i64 (t111.2.1 : Int) 1 fun t113 =>
  za0 P (Instr.sliceAt ql (Value.slice t107.1 t107.2.1 t107.2.2) none (some (Value.int .i64 t113)) none) .slc w_15 fun (t114 : (Option Addr × Nat × Nat)) =>
  qp P zhu #[(Value.slice x.1 x.2.1 x.2.2), (Value.slice t114.1 t114.2.1 t114.2.2)] [.int .i64] false w_15 fun (t117 : Int) w_16 =>
  Go.Fw.joinP Unit (fun k_10 =>
  xk (decide ((t114.2.1 : Int) > 0)) (
  xk (decide (t117 < 0)) (
  Rb w_16) (
  k_10 () w_16)) (
  k_10 () w_16)) (fun _ w_17 =>
  xk s_8.1 (
  k_9 true w_17) (
  xk (decide ((t114.2.1 : Int) > 0)) (
  ixS a n 3 t117 fun t133 =>
  ld .bool (Addr.add t133 1) w_17 fun (t135 : Bool) =>
  k_9 (!t135) w_17) (
  k_9 false w_17)))) (fun s_10 w_18 =>
  zbb .i64 s_8.2 1 fun t103 =>
  k_8 (s_10, t103) w_18)) (
  Rn s_8 w_14)) (false, 0) w := by
 have hyl := hN.count
 refine jd (fun (s : Bool × Int) W => ∃ i : Nat, s.2 = (i : Int) ∧ i ≤ L.length ∧ W.heap = H ∧ (∀ f ∈ L.take i, (nm f).dropLast ≠ [] → ∃ g ∈ L, nm g = (nm f).dropLast) ∧ (s.1 = true ↔ ∃ f ∈ L.take i, ∃ g ∈ L, nm g = (nm f).dropLast ∧ g.dir = false)) (fun s _ => (L.length - s.2).toNat)
  ⟨0, rfl, Nat.zero_le _, hw, by simp, by simp⟩ ?_
 rintro ⟨t, _⟩ W ⟨i, rfl, hi, hW, hok, hfl⟩
 simp only at hfl
 refine zq (fun hlt => ?_) (fun hge => ?_)
 ·have hil : i < L.length := by simp only at hlt; omega
  have hget := List.getElem?_eq_getElem hil
  have hmem : L[i] ∈ L := List.getElem_mem hil
  have hne : nm L[i] ≠ [] := (zjv h5).2 _ hmem
  generalize hf : L[i] = f at hget hmem hne
  refine joinP_of (fun (t' : Bool) W' => W'.heap = H ∧ ((nm f).dropLast ≠ [] → ∃ g ∈ L, nm g = (nm f).dropLast) ∧ (t' = true ↔ t = true ∨ ∃ g ∈ L, nm g = (nm f).dropLast ∧ g.dir = false)) ?_ ?_
  rotate_left
  ·rintro t' W' ⟨g1, g2, g3⟩
   refine xw ((i + 1 : Nat) : Int) (by simp) (by omega) (by omega) ?_
   refine ⟨⟨i + 1, rfl, by omega, g1, zdr hget hok g2, ?_⟩, by simp only; omega⟩
   rw [g3, hfl, List.take_add_one, hget]
   constructor
   ·rintro (⟨u, hu, h⟩ | h)
    ·exact ⟨u, by simp [hu], h⟩
    ·exact ⟨f, by simp, h⟩
   ·rintro ⟨u, hu, h⟩
    rcases List.mem_append.1 hu with hu | hu
    ·exact .inl ⟨u, hu, h⟩
    ·simp at hu; subst hu; exact .inr h
  refine vg hW fun w10 hw10 => ?_
  refine zl4 (i := i) hN.cells hN.len hN.path hN.eq hget rfl fun b o c T fr z hbb hc hp => ?_
  refine zl4 (i := i) hN.cells hN.len hN.path hN.eq hget rfl fun b2 o2 c2 T2 fr2 z2 hbb2 hc2 hp2 => ?_
  have hz2l := hp2.len
  refine jh (s := .slc) (t := z) hw10 hbb hc ?_
  refine jh (s := .slc) (t := z2) hw10 hbb2 hc2 ?_
  have h8 := (zk7 f).2
  have hpos : 0 < (nm f).length := List.length_pos_iff.2 hne
  refine zbs (((nm f).length - 1 : Nat) : Int) (by omega) (by omega) (by omega) ?_
  obtain ⟨a1, r1, c1⟩ := qbt hp hne rfl
  refine xg (s := .slc) (a1, (nm f).length - 1, z.2.2) (r1 _) ?_
  refine zk (qbu (ys := ys) (p := (nm f).dropLast) hw10 hN.cells hN.len hN.path hN.small (by omega) c1 (by simp)) ?_
  have hdl : (nm f).dropLast.length = (nm f).length - 1 := by simp
  rintro e w11 ⟨hw11, ⟨rfl, hnone⟩ | ⟨j, y, rfl, hj, hyp⟩⟩
  ·refine ⟨-1, rfl, zac ?_⟩
   have hno' := hN.none (i := ys.length) (p := (nm f).dropLast) (by rw [List.take_length]; exact hnone)
   rw [hyl, List.take_length] at hno'
   refine zq (fun hp0 => zaa rfl (hb ⟨f, hmem, ?_, hno'⟩ _ hw11)) (fun hp0 => ?_)
   ·intro h; rw [h] at hdl; simp at hdl hp0; omega
   ·have hd0 : (nm f).dropLast = [] := List.length_eq_zero_iff.1 (by simp only at hp0; omega)
    have hn70 : ¬ ∃ g ∈ L, nm g = (nm f).dropLast ∧ g.dir = false := fun ⟨g, hg, e, _⟩ => hno' g hg e
    cases t with
    | true => exact zaa rfl ⟨hw11, fun h => absurd hd0 h, by simp⟩
    | false => exact jl rfl (jl (decide_eq_false hp0) ⟨hw11, fun h => absurd hd0 h, by simp [hn70]⟩)
  ·refine ⟨(j : Int), rfl, zac ?_⟩
   obtain ⟨g, hg, hgn⟩ := hN.at hj
   rw [hyp] at hgn
   have hgm : g ∈ L := List.mem_of_getElem? hg
   have hup : (nm f).dropLast ≠ [] := by rw [← hgn]; exact (zjv h5).2 _ hgm
   have hupl : 0 < (nm f).dropLast.length := List.length_pos_iff.2 hup
   have hpt : decide ((((a1, (nm f).length - 1, z.2.2) : Option Addr × Nat × Nat).2.1 : Int) > 0) = true := by simp only [decide_eq_true_eq]; omega
   refine zaa hpt (jl (decide_eq_false (by omega)) ?_)
   cases t with
   | true => exact zaa rfl ⟨hw11, fun _ => ⟨g, hgm, hgn⟩, by simp⟩
   | false =>
    refine jl rfl (zaa hpt ?_)
    refine Bl.zdf (i := j) zb8 (by omega) hN.row hn hg rfl fun b3 o3 c3 T3 fr3 _ hb3 hsz3 hcc3 _ => ?_
    simp only [jv]
    refine jh (s := .bool) (t := g.dir) hw11 hb3 (hcc3 1 (by omega)) ?_
    refine ⟨hw11, fun _ => ⟨g, hgm, hgn⟩, ?_⟩
    constructor
    ·intro h
     exact .inr ⟨g, hgm, hgn, by simpa using h⟩
    ·rintro (h | ⟨g', hg', e, hd⟩)
     ·cases h
     ·rw [← ql3 h5 hg' hgm (e.trans hgn.symm), hd]; rfl
 ·obtain rfl : i = L.length := by simp only at hge; omega
  rw [List.take_length] at hok hfl
  exact hno (fun ⟨f, hf, h1, h2⟩ => by obtain ⟨g, hg, e⟩ := hok f hf h1; exact h2 g hg e) t _ W hfl hW
set_option maxHeartbeats 4000000 in
theorem qk7 {w : World} {H : Heap} {a : Option Addr} {n : Nat} {x : Option Addr × Nat × Nat} {ys : List NR} {L : List Fil} (hw : w.heap = H) (hN : Seen H a x ys L) (hn : n = L.length) (hm : L.length ≤ 65536) (h5 : ¬ zze L) {Rb Rn : World → Prop}
  (hb : qfl L → ∀ w', w'.heap = H → Rb w') (hno : ¬ qfl L → ∀ w', w'.heap = H → Rn w') :
  zat Int (fun s_11 w_19 k_11 =>
  xk (decide (s_11 < (n : Int))) (
  zat (Int × Int) (fun s_12 w_20 k_12 =>
  xk (decide (s_12.2 < (n : Int))) (
  Go.Fw.joinP Int (fun k_13 =>
  zbj w_20 fun w_21 =>
  ixS x.1 x.2.1 1 s_12.2 fun t154 =>
  ixS x.1 x.2.1 1 s_11 fun t159 =>
  ld .slc t154 w_21 fun (t155 : (Option Addr × Nat × Nat)) =>
  ld .slc t159 w_21 fun (t160 : (Option Addr × Nat × Nat)) =>
  xk ((t155.2.1 : Int) == (t160.2.1 : Int)) (
  ixS x.1 x.2.1 1 s_12.2 fun t166 =>
  ixS x.1 x.2.1 1 s_11 fun t170 =>
  ixS x.1 x.2.1 1 s_11 fun t174 =>
  ld .slc t166 w_21 fun (t167 : (Option Addr × Nat × Nat)) =>
  ld .slc t170 w_21 fun (t171 : (Option Addr × Nat × Nat)) =>
  ld .slc t174 w_21 fun (t175 : (Option Addr × Nat × Nat)) =>
  zow .i64 (t175.2.1 : Int) 1 fun t177 =>
  za0 P (Instr.sliceAt ql (Value.slice t171.1 t171.2.1 t171.2.2) none (some (Value.int .i64 t177)) none) .slc w_21 fun (t178 : (Option Addr × Nat × Nat)) =>
  qp P zid #[(Value.slice t167.1 t167.2.1 t167.2.2), (Value.slice t178.1 t178.2.1 t178.2.2)] [.bool] false w_21 fun (t179 : Bool) w_22 =>
  xk t179 (
  zbb .i64 s_12.1 1 fun t182 =>
  k_13 t182 w_22) (
  k_13 s_12.1 w_22)) (
  k_13 s_12.1 w_21)) (fun s_13 w_23 =>
  zbb .i64 s_12.2 1 fun t151 =>
  k_12 (s_13, t151) w_23)) (
  xk (decide (s_12.1 > 64)) (
  Rb w_20) (
  zbb .i64 s_11 1 fun t145 =>
  k_11 t145 w_20))) (0, 0) w_19) (
  Rn w_19)) 0 w := by
 have hyl := hN.count
 refine jd (fun (s : Int) W => ∃ i : Nat, s = (i : Int) ∧ i ≤ L.length ∧ W.heap = H ∧ ∀ f ∈ L.take i, ¬ 64 < (kids L (nm f).dropLast).length) (fun s _ => (L.length - s).toNat) ⟨0, rfl, Nat.zero_le _, hw, by simp⟩ ?_
 rintro _ W ⟨i, rfl, hi, hW, hok⟩
 refine zq (fun hlt => ?_) (fun hge => ?_)
 ·have hil : i < L.length := by omega
  have hget := List.getElem?_eq_getElem hil
  have hmem : L[i] ∈ L := List.getElem_mem hil
  have hne : nm L[i] ≠ [] := (zjv h5).2 _ hmem
  generalize hf : L[i] = f at hget hmem hne
  have hdl : (nm f).dropLast.length = (nm f).length - 1 := by simp
  have hpos : 0 < (nm f).length := List.length_pos_iff.2 hne
  have h8 := (zk7 f).2
  refine jd (fun (s : Int × Int) W => ∃ j : Nat, s.2 = (j : Int) ∧ j ≤ L.length ∧ W.heap = H ∧ s.1 = ((kids (L.take j) (nm f).dropLast).length : Int)) (fun s _ => (L.length - s.2).toNat) ⟨0, rfl, Nat.zero_le _, hW, by simp [kids]⟩ ?_
  rintro ⟨t, _⟩ W2 ⟨j, rfl, hj, hW2, ht⟩
  simp only at ht
  subst ht
  have hkl : (kids (L.take j) (nm f).dropLast).length ≤ j := Nat.le_trans (List.length_filter_le _ _) (by simp; omega)
  refine zq (fun hlt2 => ?_) (fun hge2 => ?_)
  ·have hjl : j < L.length := by simp only at hlt2; omega
   have hget2 := List.getElem?_eq_getElem hjl
   generalize L[j] = g at hget2
   have hkt := z6k (p := (nm f).dropLast) hget2
   refine joinP_of (fun (t' : Int) W' => W'.heap = H ∧ t' = ((kids (L.take (j + 1)) (nm f).dropLast).length : Int)) ?_ ?_
   rotate_left
   ·rintro t' W' ⟨g1, g2⟩
    refine xw ((j + 1 : Nat) : Int) (by simp) (by omega) (by omega) ?_
    exact ⟨⟨j + 1, rfl, by omega, g1, g2⟩, by simp only; omega⟩
   refine vg hW2 fun w10 hw10 => ?_
   refine zl4 (i := j) hN.cells hN.len hN.path hN.eq hget2 rfl fun b o c T fr z hbb hc hp => ?_
   refine zl4 (i := i) hN.cells hN.len hN.path hN.eq hget rfl fun b2 o2 c2 T2 fr2 z2 hbb2 hc2 hp2 => ?_
   refine jh (s := .slc) (t := z) hw10 hbb hc ?_
   refine jh (s := .slc) (t := z2) hw10 hbb2 hc2 ?_
   have hzl := hp.len
   have hz2l := hp2.len
   refine zbv (fun hl => ?_) (fun hl => ?_)
   ·refine zl4 (i := j) hN.cells hN.len hN.path hN.eq hget2 rfl fun b3 o3 c3 T3 fr3 z3 hbb3 hc3 hp3 => ?_
    refine zl4 (i := i) hN.cells hN.len hN.path hN.eq hget rfl fun b4 o4 c4 T4 fr4 z4 hbb4 hc4 hp4 => ?_
    refine zl4 (i := i) hN.cells hN.len hN.path hN.eq hget rfl fun b5 o5 c5 T5 fr5 z5 hbb5 hc5 hp5 => ?_
    refine jh (s := .slc) (t := z3) hw10 hbb3 hc3 ?_
    refine jh (s := .slc) (t := z4) hw10 hbb4 hc4 ?_
    refine jh (s := .slc) (t := z5) hw10 hbb5 hc5 ?_
    have hz3l := hp3.len
    have hz5l := hp5.len
    have h8g := (zk7 g).2
    refine zbs (((nm f).length - 1 : Nat) : Int) (by omega) (by omega) (by omega) ?_
    obtain ⟨a1, r1, c1⟩ := qbt hp4 hne rfl
    refine xg (s := .slc) (a1, (nm f).length - 1, z4.2.2) (r1 _) ?_
    refine zk (z5x (p := nm g) (q := (nm f).dropLast) hw10 (Mine.cells hp3) hz3l c1 hdl.symm (by omega) (by omega)) ?_
    rintro e w11 ⟨rfl, hw11⟩
    refine ⟨zcv (nm g) (nm f).dropLast, rfl, ?_⟩
    cases hwi : zcv (nm g) (nm f).dropLast with
    | true =>
     have hk : qbm (nm f).dropLast g = true := zoa.2 ⟨by omega, hwi⟩
     rw [hk, if_pos rfl] at hkt
     refine zaa rfl (xw (((kids (L.take j) (nm f).dropLast).length + 1 : Nat) : Int) (by simp) (by omega) (by omega) ⟨hw11, by rw [hkt]; simp⟩)
    | false =>
     have hk : qbm (nm f).dropLast g = false := by rw [← Bool.not_eq_true, zoa, hwi]; simp
     rw [hk, if_neg (by decide)] at hkt
     exact jl rfl ⟨hw11, by rw [hkt]⟩
   ·have hk : qbm (nm f).dropLast g = false := by rw [← Bool.not_eq_true, zoa]; omega
    rw [hk, if_neg (by decide)] at hkt
    exact ⟨hw10, by rw [hkt]⟩
  ·obtain rfl : j = L.length := by simp only at hge2; omega
   rw [List.take_length] at *
   refine zq (fun h => ?_) (fun h => ?_)
   ·exact hb ⟨f, hmem, by simp only at h; omega⟩ _ hW2
   ·refine xw ((i + 1 : Nat) : Int) (by simp) (by omega) (by omega) ?_
    exact ⟨⟨i + 1, rfl, by omega, hW2, zdr hget hok (by simp only at h; omega)⟩, by omega⟩
 ·obtain rfl : i = L.length := by omega
  rw [List.take_length] at hok
  exact hno (fun ⟨f, hf, h⟩ => hok f hf h) W hW
theorem zw1 {L : List Fil} (h : zas L ≠ 0) : zch L = zas L := by unfold zch; rw [if_pos h]
theorem zyy {L : List Fil} (h : zas L = 0) : zch L = zcc L := by unfold zch; rw [if_neg (by simpa using h)]
theorem zxq {L : List Fil} (h : zhd L ≠ 0) : zas L = zhd L := by unfold zas; rw [if_pos h]
theorem qe5 {L : List Fil} (h : zhd L = 0) (ha : L.any z8v = true) : zas L = 1 := by unfold zas; rw [if_neg (by simpa using h), if_pos ha]
theorem qfj {L : List Fil} (h : zhd L = 0) (ha : L.any z8v = false) (hb : L.any qc7 = true) : zas L = 134 := by unfold zas; rw [if_neg (by simpa using h), if_neg (by simp [ha]), if_pos hb]
theorem qdq {L : List Fil} (h : zhd L = 0) (ha : L.any z8v = false) (hb : L.any qc7 = false) : zas L = 0 := by unfold zas; rw [if_neg (by simpa using h), if_neg (by simp [ha]), if_neg (by simp [hb])]
theorem qgg {L : List Fil} {g : Fil → Bool} (h : ∀ f ∈ L, g f = false) : L.any g = false := by
 rw [List.any_eq_false]
 intro f hf
 simp [h f hf]
set_option maxHeartbeats 8000000 in
theorem qcj {w : World} {H : Heap} {a : Option Addr} {n nc : Nat} {L : List Fil} (hw : w.heap = H) (hL : Cells H a (L.flatMap zbo)) (hn : n = L.length) (hm : L.length ≤ 65536) :
  qg P zm7 #[.slice a n nc] w fun e w' => ∃ x, e = .returned (.tuple #[zc9 x, .int .i64 (zch L)]) ∧ Ext [] H w'.heap ∧ (zch L = 0 → Mine w'.heap H.size zl 3 x (((zhs L).map clean).flatMap zbo)) := by
 refine zzy ?_
 unfold znl
 have bad : ∀ {W : World} {code : Int}, code ≠ 0 → zch L = code → Ext [] H W.heap → ∃ x, Ending.returned (.tuple #[.slice none 0 0, .int .i64 code]) = .returned (.tuple #[zc9 x, .int .i64 (zch L)]) ∧ Ext [] H W.heap ∧ (zch L = 0 → Mine W.heap H.size zl 3 x (((zhs L).map clean).flatMap zbo)) := by
  intro W code h0 hc hx
  exact ⟨(none, 0, 0), by rw [hc]; rfl, hx, fun h => absurd (hc.symm.trans h) h0⟩
 refine jd (fun (s : (Option Addr × Nat × Nat) × Int) W => ∃ i : Nat, s.2 = (i : Int) ∧ i ≤ L.length ∧ Ext [] H W.heap ∧ zld W.heap H.size s.1 ((L.take i).map nm) ∧ ∀ g ∈ L.take i, (zbd g.path).2 = 0) (fun s _ => (L.length - s.2).toNat)
  ⟨0, rfl, Nat.zero_le _, by rw [hw]; exact .refl _ _, .nil, by simp⟩ ?_
 rintro ⟨x, _⟩ W ⟨i, rfl, hi, hx, hP, hok⟩
 simp only at hP
 refine zq (fun hlt => ?_) (fun hge => ?_)
 ·have hil : i < L.length := by simp only at hlt; omega
  have hget := List.getElem?_eq_getElem hil
  generalize L[i] = f at hget
  refine Bl.zdf (i := i) zb8 (by omega) (hL.ext hx (by simp)) hn hget rfl fun b o c T fr _ hb hsz hc _ => ?_
  refine jh (s := .str) (t := strOf f.path) rfl hb (hc 0 (by omega)) ?_
  refine zk (qay f.path rfl) ?_
  rintro e w2 ⟨y, rfl, hm2, hx2⟩
  refine ⟨(y, (zbd f.path).2), rfl, ?_⟩
  refine zb5 (fun h => ?_) (fun h => ?_)
  ·have hfb := zxz hget h hok
   have h' : (zbd f.path).2 ≠ 0 := h
   exact bad h (by rw [zw1 (by rw [zxq (by rw [hfb]; exact h'), hfb]; exact h'), zxq (by rw [hfb]; exact h'), hfb]) (hx.trans hx2)
  ·refine qhr rfl (hP.ext hx2) (by have := hx.1; have := hx2.1; omega) hm2 (by simp; omega) fun x' w4 hP4 hx4 => ?_
   refine xw ((i + 1 : Nat) : Int) (by simp) (by omega) (by omega) ?_
   refine ⟨⟨i + 1, rfl, by omega, (hx.trans hx2).own hx4 (fun c hc hlt => by have := (hP.ge) c hc; omega), ?_, zdr hget hok h⟩, by simp only; omega⟩
   have e : (L.take (i + 1)).map nm = (L.take i).map nm ++ [(zbd f.path).1] := by rw [List.take_add_one, hget]; simp [nm]
   rw [e]; exact hP4
 obtain rfl : i = L.length := by simp only at hge; omega
 rw [List.take_length] at hP hok
 have hfb := zs5 hok
 obtain ⟨ys, y1, y2, y3⟩ := hP
 have hN : Seen W.heap a x ys L := ⟨hL.ext hx (by simp), y1.cells, by have := y1.len; rw [qni] at this; omega, zib y1, y3, y2⟩
 have keep : ∀ {W' : World}, W'.heap = W.heap → Ext [] H W'.heap := fun h => by rw [h]; exact hx
 refine jd (fun (s : Int) W' => ∃ i : Nat, s = (i : Int) ∧ i ≤ L.length ∧ W'.heap = W.heap ∧ ∀ g ∈ L.take i, z8v g = false) (fun s _ => (L.length - s).toNat) ⟨0, rfl, Nat.zero_le _, rfl, by simp⟩ ?_
 rintro _ W5 ⟨i, rfl, hi, hW5, hna⟩
 refine zq (fun hlt => ?_) (fun hge => ?_)
 ·have hil : i < L.length := by omega
  have hget := List.getElem?_eq_getElem hil
  have hmem : L[i] ∈ L := List.getElem_mem hil
  generalize L[i] = f at hget hmem
  have next : z8v f = false → ∀ {W' : World}, W'.heap = W.heap → zbb .i64 (i : Int) 1 fun t48 => (∃ i : Nat, t48 = (i : Int) ∧ i ≤ L.length ∧ W'.heap = W.heap ∧ ∀ g ∈ L.take i, z8v g = false) ∧ (L.length - t48).toNat < ((L.length : Int) - (i : Int)).toNat := by
   intro hf W' hW'
   refine xw ((i + 1 : Nat) : Int) (by simp) (by omega) (by omega) ?_
   exact ⟨⟨i + 1, rfl, by omega, hW', zdr hget hna hf⟩, by omega⟩
  refine zac (zac ?_)
  refine Bl.zdf (i := i) zb8 (by omega) hN.row hn hget rfl fun b o c T fr _ hb hsz hc _ => ?_
  simp only [jv]
  refine jh (s := .bool) (t := f.dir) hW5 hb (hc 1 (by omega)) ?_
  cases hd : f.dir with
  | false => exact jl rfl (next (by simp [z8v, hd]) hW5)
  | true =>
   refine zaa rfl ?_
   refine Bl.zdf (i := i) zb8 (by omega) hN.row hn hget rfl fun b o c T fr _ hb hsz hc _ => ?_
   simp only [jv]
   refine jh (s := .str) (t := strOf f.data) hW5 hb (hc 2 (by omega)) ?_
   have hbe : (!((strOf f.data).toList == (ByteArray.mk #[]).toList)) = !decide (f.data = []) := by
    rw [zbe]
    have : (ByteArray.mk #[]).toList = [] := zbe (L := [])
    rw [this]
    cases f.data <;> simp
   rw [hbe]
   by_cases h : f.data = []
   ·exact jl (by simp [h]) (next (by simp [z8v, h]) hW5)
   ·refine zaa (by simp [h]) (bad (by decide) ?_ (keep hW5))
    have h1 := qe5 hfb (List.any_eq_true.2 ⟨f, hmem, by simp [z8v, hd, h]⟩)
    rw [zw1 (by rw [h1]; decide), h1]
 obtain rfl : i = L.length := by omega
 rw [List.take_length] at hna
 have hna := qgg hna
 refine jd (fun (s : Int) W' => ∃ i : Nat, s = (i : Int) ∧ i ≤ L.length ∧ W'.heap = W.heap ∧ ∀ g ∈ L.take i, qc7 g = false) (fun s _ => (L.length - s).toNat) ⟨0, rfl, Nat.zero_le _, hW5, by simp⟩ ?_
 rintro _ W6 ⟨i, rfl, hi, hW6, hnb⟩
 refine zq (fun hlt => ?_) (fun hge => ?_)
 ·have hil : i < L.length := by omega
  have hget := List.getElem?_eq_getElem hil
  have hmem : L[i] ∈ L := List.getElem_mem hil
  generalize L[i] = f at hget hmem
  refine Bl.zdf (i := i) zb8 (by omega) hN.row hn hget rfl fun b o c T fr _ hb hsz hc _ => ?_
  simp only [jv]
  refine jh (s := .str) (t := strOf f.data) hW6 hb (hc 2 (by omega)) ?_
  refine zq (fun h => ?_) (fun h => ?_)
  ·have h1 := qfj hfb hna (List.any_eq_true.2 ⟨f, hmem, by simp only [jm] at h; simp [qc7]; omega⟩)
   exact bad (by decide) (by rw [zw1 (by rw [h1]; decide), h1]) (keep hW6)
  ·refine xw ((i + 1 : Nat) : Int) (by simp) (by omega) (by omega) ?_
   exact ⟨⟨i + 1, rfl, by omega, hW6, zdr hget hnb (by simp only [jm] at h; simp [qc7]; omega)⟩, by omega⟩
 obtain rfl : i = L.length := by omega
 rw [List.take_length] at hnb
 have hp0 := qdq hfb hna (qgg hnb)
 have hchk := zyy hp0
 refine qky hW6 hN hn hm (fun h5 w' hw' => bad (code := 5) (by decide) (by rw [hchk, z8z h5]) (keep hw')) fun h5 W7 hW7 => ?_
 refine qlj hW7 hN hn hm h5 (fun h4 w' hw' => bad (code := 4) (by decide) (by rw [hchk, z15 h5 h4]) (keep hw')) fun h4 t _ W8 ht hW8 => ?_
 cases t with
 | true => exact zaa rfl (bad (code := 70) (by decide) (by rw [hchk, z3w h5 h4 (ht.1 rfl)]) (keep hW8))
 | false =>
  have h70 : ¬ zz0 L := fun h => by have := ht.2 h; cases this
  refine jl rfl ?_
  refine qk7 hW8 hN hn hm h5 (fun h8 w' hw' => bad (code := 8) (by decide) (by rw [hchk, z92 h5 h4 h70 h8]) (keep hw')) fun h8 W9 hW9 => ?_
  have hc0 : zch L = 0 := by rw [hchk, z9w h5 h4 h70 h8]
  refine qg4 hW9 hN hn hm fun x' _ w' hm' hx' => ?_
  exact ⟨x', by rw [hc0]; rfl, hx.trans hx', fun _ => hm'.mono hx.1⟩
end Go.Proofs.YtbmegmbnlajbbaaGreatDoor
