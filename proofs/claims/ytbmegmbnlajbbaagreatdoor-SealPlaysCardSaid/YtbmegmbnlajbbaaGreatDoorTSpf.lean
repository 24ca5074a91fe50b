/- Part 6 of the texts below the card, joined. -/
import Derived.Test.YtbmegmbnlajbbaaGreatDoorTSpe
import Derived.Test.YtbmegmbnlajbbaaGreatDoorTSpc
namespace Go.Proofs.YtbmegmbnlajbbaaGreatDoor
open Go Go.Fw Go.Proofs
def zlk (p:List UInt8):Nod:=⟨1,p,0,[],[]⟩
def zcx (D:List UInt8) (j:Nat):List UInt8:=zjy (zlk (zkw D j))
def zlq (D:List UInt8) (k:Nat):List (List UInt8):=(List.range k).map fun j=>Sha.sum (zcx D j)
def zch (D:List UInt8) (k:Nat):Nod:=⟨2,[],D.length,zlq D k,[]⟩
def za1 (D:List UInt8) (k:Nat):List (List UInt8):=(List.range k).map (zcx D)
def zhi (D:List UInt8):List (List UInt8):=za1 D (npc D)++[zjy (zch D (npc D))]
def zeh (D:List UInt8):List UInt8:=Sha.sum (zjy (zch D (npc D)))
theorem zy5 {D:List UInt8} {k:Nat}:zlq D (k+1)=zlq D k++[Sha.sum (zcx D k)]:=by simp [zlq,List.range_succ]
theorem zpt {D:List UInt8} {k:Nat}:za1 D (k+1)=za1 D k++[zcx D k]:=by simp [za1,List.range_succ]
theorem zfj {D:List UInt8} {k:Nat}:(zlq D k).length=k:=by simp [zlq]
theorem zz5 {D:List UInt8} {k:Nat}:∀ p ∈ zlq D k,p.length=32:=by
 intro p hp
 obtain ⟨j,_,rfl⟩:=List.mem_map.1 hp
 exact zaf
theorem qav {D:List UInt8} {j:Nat} (h:j < npc D):zc4 (zlk (zkw D j))=true:=by
 have h1:=zwj.1 h
 have h2:=zqn (D:=D) (j:=j)
 unfold zc4 zlk
 simp only [if_true,decide_eq_true_eq,List.length_nil,and_true]
 omega
theorem qen {D:List UInt8} (h:D.length≤1024):zc4 (zch D (npc D))=true:=by
 unfold zc4 zch
 rw [if_neg (show ¬ ((2:Int)=1) by decide),if_pos rfl]
 simp only [zfj,List.length_nil,and_true,true_and,decide_eq_true_eq,z0b,npc]
 omega
theorem zo6 {D:List UInt8} {j:Nat}:(zcx D j).length≤100:=by
 have h2:=zqn (D:=D) (j:=j)
 have u:=@zd3 1
 have nl:=zd2 (n:=(zkw D j).length) (by omega)
 unfold zcx zjy zlk
 simp only [if_true,List.length_append,zrq]
 omega
theorem zsw {D:List UInt8} {k:Nat} (hk:k≤65536):(zjy (zch D k)).length≤3000000:=by
 have u:=@zd3 2
 have u2:=@zd3 (D.length:Int)
 have:=zqk (l:=zlq D k) zz5
 rw [zfj] at this
 unfold zjy zch
 rw [if_neg (show ¬ ((2:Int)=1) by decide),if_pos rfl]
 simp only [List.length_append]
 omega
theorem zge {H:Heap} {B B':Nat} {T T':TypeId} {sz sz':Nat} {x x':Option Addr × Nat × Nat} {vs vs':List Value} (h:Mine H B T sz x vs) (h':Mine H B' T' sz' x' vs') (hne:T ≠ T'):∀ b ∈ xw x,b ∉ xw x':=by
 intro b hb hb'
 rcases h with ⟨rfl,_⟩ | ⟨b1,c1,hx1,_,hg1,_⟩
 ·simp [xw] at hb
 rcases h' with ⟨rfl,_⟩ | ⟨b2,c2,hx2,_,hg2,_⟩
 ·simp [xw] at hb'
 simp [xw,hx1] at hb
 simp [xw,hx2] at hb'
 subst hb hb'
 rw [hg1] at hg2
 simp only [Option.some.injEq,Obj.cells.injEq] at hg2
 exact hne hg2.2.1
theorem ED:Elem P zf 32 32:=Bl.E27
theorem qls {w:World} {H:Heap} {B:Nat} {x:Option Addr × Nat × Nat} {ds:List (List UInt8)} {k:List UInt8} (hw:w.heap=H) (hm:Mine H B zf 32 x (ds.flatMap Bl.zgg)) (hBs:B≤H.size) (hk:k.length=32) (hlen:ds.length≤1073741824) {K:(Option Addr × Nat × Nat)→World→Prop}
  (hK:∀ x' w',Mine w'.heap B zf 32 x' ((ds++[k]).flatMap Bl.zgg)→Ext (xw x) H w'.heap→(∀ c ∈ xw x',c ∈ xw x ∨ H.size≤c)→K x' w') :
  zal P (Instr.buildSlice ku 1 #[(0,arr k)]) .slc w fun (t27:(Option Addr × Nat × Nat)) w_13 =>
  zal P (Builtin.append_ #[ku,ku] ku #[(Value.slice x.1 x.2.1 x.2.2),(Value.slice t27.1 t27.2.1 t27.2.2)]) .slc w_13 K:=by
 have hlx:x.2.1=ds.length:=by
  have:=hm.len
  rw [qg Bl.zgg Bl.zd7] at this
  omega
 have hc1:(arr k).cells=(Bl.zgg k).toArray:=by rw [Bl.zgx hk];rfl
 refine zad (s:=.slc) (some ⟨w.heap.size,0,none⟩,1,1) _ (zd0 ED Bl.ql4 (v:=arr k) (by rw [Bl.za6,hk]) (by omega) (by omega)) ?_
 subst hw
 have hxp:Ext [] w.heap (w.heap.push (.cells (arr k).cells zf)):=.push _
 refine zcq (bts:=32) (n:=1) (us:=Bl.zgg k) (H:=w.heap.push (.cells (arr k).cells zf)) ED (by omega) Bl.ql4 (za5 Bl.ql4) rfl (hm.ext hxp (by simp)) (by simp;omega)
  (Src.slc rfl (.inr ⟨w.heap.size,0,_,_,_,rfl,zn,by rw [hc1];simp,by rw [hc1,Nat.zero_add];simp⟩) (by rw [Bl.zd7])) Bl.zx9 (by omega) ?_
 intro x' w4 hm4 hl4 hx4 hs4
 refine hK x' w4 (by rw [List.flatMap_append,List.flatMap_singleton];exact hm4) ((hxp.mono (by simp)).trans hx4) (fun c hc=>?_)
 rcases hs4 c hc with h | h
 ·exact .inl h
 ·right;have:=hxp.1;omega
theorem bN2 (n:Int) (w:World):(Instr.build zi #[(0,.int .i64 2),(2,.int .i64 n)]).run P w=.ok (.agg #[.int .i64 2,.string .empty,.int .i64 n,.slice none 0 0,.slice none 0 0]) w:=by kernel_rfl
theorem bN1 (s:ByteArray) (w:World):(Instr.build zi #[(0,.int .i64 1),(1,.string s)]).run P w=.ok (.agg #[.int .i64 1,.string s,.int .i64 0,.slice none 0 0,.slice none 0 0]) w:=by kernel_rfl
theorem NodW.bare {H:Heap} {n:Nod} (hp:n.parts=[]) (hi:n.items=[]):NodW H n (none,0,0) (none,0,0) :=
 ⟨by rw [hp];exact .inl rfl,by rw [hp];rfl,by rw [hi];exact .inl rfl,by rw [hi];rfl,by rw [hp];simp,by rw [hi];simp⟩
set_option maxHeartbeats 16000000 in
theorem ql7 {w:World} {H:Heap} {B:Nat} {x:Option Addr × Nat × Nat} {Ls:List (List UInt8)} {D:List UInt8} (hw:w.heap=H) (hB:za3 H B x Ls) (hB0:0 < B) (hBs:B≤H.size) (hS:Bl.Rounds H) (hlen:Ls.length≤536870912) (hD:D.length≤1024) :
  qj P zsc #[.slice x.1 x.2.1 x.2.2,.string (strOf D)] w fun e w'=>∃ x',e=.returned (.tuple #[zcr x',arr (zeh D)])∧za3 w'.heap B x' (Ls++zhi D)∧Ext (xw x) H w'.heap∧∀ c ∈ xw x',c ∈ xw x ∨ H.size≤c:=by
 have hnp:npc D≤16:=by unfold npc;omega
 have hxlt:=hB.lt
 have h0x:0 ∉ xw x:=fun h=>by have:=hB.ge 0 h;omega
 have h0H:0 < H.size:=by omega
 refine qae ?_
 unfold zru
 refine jv hw fun w1 hw1=>?_
 have hx1:Ext [] H w1.heap:=by rw [hw1];exact .push _
 have hl1:w1.heap[H.size]?=some (.cells #[zcr x] jg (0,0)):=by rw [hw1];exact zn
 refine jv rfl fun w2 hw2=>?_
 have hx2:Ext [] w1.heap w2.heap:=by rw [hw2];exact .push _
 have hd2:w2.heap[w1.heap.size]?=some (.cells (zc P zf) zf (0,0)):=by rw [hw2];exact zn
 refine qm (s:=.any) (.agg (zdu (zch D 0) (none,0,0) (none,0,0)).toArray) (by rw [jy];exact bN2 _ _) ?_
 refine qid (zch D 0) _ _ rfl fun w4 hw4=>?_
 have hx4:Ext [] w2.heap w4.heap:=by rw [hw4];exact .push _
 have hn4:w4.heap[w2.heap.size]?=some (.cells (zdu (zch D 0) (none,0,0) (none,0,0)).toArray zi (0,0)):=by rw [hw4];exact zn
 refine qof rfl fun y w5 hcy hyl hyc hyo hx5 hs5=>?_
 refine zl (qly rfl hyl hyc (by omega)) ?_
 rintro e w6 ⟨gv,b,c,rfl,hbge,hcge,hblt,hclt,hx6,hseq⟩
 refine ⟨gv,rfl,?_⟩
 have hx46:=hx5.trans hx6
 have hx26:=hx4.trans hx46
 have hx16:=hx2.trans hx26
 have hx06:=hx1.trans hx16
 have s1:H.size < w1.heap.size:=lt_of_get hl1
 have s2:w1.heap.size < w2.heap.size:=lt_of_get hd2
 have s4:w2.heap.size < w4.heap.size:=lt_of_get hn4
 have s6:=hx6.1
 have hl6:=hx16.get hl1 (by simp)
 have hd6:=hx26.get hd2 (by simp)
 have hn6:=hx46.get hn4 (by simp)
 have hcy6:=hcy.ext hx6 (by simp)
 have hB6:=hB.ext hx06 (by simp)
 refine qdn (α:=Nat) (shs:=[.slc]) (tv:=zzy y D) (fp:=[b,c]) hseq (H.size :: w2.heap.size :: xw x)
  (fun m hm=>?_) (fun m hm=>by simp at hm;omega)
  (fun pre W=>∃ x' xp',Ext (xw x) H W.heap∧w6.heap.size≤W.heap.size∧W.heap[H.size]?=some (.cells #[zcr x'] jg (0,0))∧W.heap[w2.heap.size]?=some (.cells (zdu (zch D pre.length) xp' (none,0,0)).toArray zi (0,0)) ∧
   W.heap[w1.heap.size]?=some (.cells (zc P zf) zf (0,0))∧za3 W.heap B x' (Ls++za1 D pre.length)∧(∀ c ∈ xw x',c ∈ xw x ∨ w6.heap.size≤c)∧Mine W.heap w6.heap.size zf 32 xp' ((zlq D pre.length).flatMap Bl.zgg)∧Cells W.heap y.1 (byteCells D)∧pre.length≤npc D)
  (fun _=>False) (fun _ _=>False) ?_ (fun _ _ h _=>h.elim) (fun _ _ _ h _=>h.elim) ?_ ?_ ?_ (fun _ h=>h.elim) (fun _ _ h=>h.elim)
 ·simp only [List.mem_cons] at hm
  rcases hm with rfl | rfl | hm
  ·exact ⟨by omega,by simp;omega⟩
  ·exact ⟨by omega,by simp;omega⟩
  ·have:=(hxlt m hm).1
   exact ⟨by omega,by simp;omega⟩
 ·rintro pre W W' ⟨x',xp',h1,h1s,h2,h3,h3d,h4,h5,h6,h7,h8⟩ hBe
  exact ⟨x',xp',hBe.ext (by omega) h1,Nat.le_trans h1s hBe.size,hBe.cells h2,hBe.cells h3,hBe.cells h3d,h4.beside hBe,h5,hBe.mine h6,hBe.own h7,h8⟩
 ·exact ⟨x,(none,0,0),hx06.mono (by simp),Nat.le_refl _,hl6,hn6,hd6,by simpa [za1] using hB6,fun c hc=>.inl hc,.inl ⟨rfl,by simp [zlq]⟩,hcy6,Nat.zero_le _⟩
 ·rintro pre k W ⟨rfl,hk⟩ ⟨x',xp',h1,h1s,h2,h3,h3d,h4,h5,h6,h7,h8⟩ hsz beg kc kr kx hbeg
  refine hbeg W _ (.refl _ _) fun W2 hB2 hs2 hkc _ _=>?_
  have h1:=hB2.ext (show H.size≤w6.heap.size by omega) h1
  have h2:=hB2.cells h2
  have h3:=hB2.cells h3
  have h3d:=hB2.cells h3d
  have h4:=h4.beside hB2
  have h6:=hB2.mine h6
  have h7:=hB2.own h7
  have hH2:=h1.1
  generalize hk2:pre.length=k at *
  have x'lt:=h4.lt
  have lenk:(Ls++za1 D k).length≤1073741824:=by simp [za1];omega
  refine jv rfl fun w9 hw9=>?_
  have hx9:Ext [] W2.heap w9.heap:=by rw [hw9];exact .push _
  have hd9:w9.heap[W2.heap.size]?=some (.cells (zc P zf) zf (0,0)):=by rw [hw9];exact zn
  refine jh (s:=.slc) (t:=x') rfl (hx9.get h2 (by simp)) rfl ?_
  refine qm (s:=.str) _ (zvw uS8 u8 z0e rfl (qca (h7.ext hx9 (by simp)) hk) (by rw [zqn];unfold zzy;simp only;omega)) ?_
  refine qm (s:=.any) (.agg (zdu (zlk (zkw D k)) (none,0,0) (none,0,0)).toArray) (bN1 _ _) ?_
  refine zl (qh3 (n:=zlk (zkw D k)) rfl (h4.ext hx9 (by simp)) hB0 (by have:=hx9.1;omega) (.bare rfl rfl) (qav hk) ((hS.ext h1 h0x).ext hx9 (by simp)) lenk (by have:=zo6 (D:=D) (j:=k);unfold zcx at this;omega)) ?_
  rintro e w10 ⟨x2,rfl,hB10,hx10,hs10⟩
  refine ⟨(x2,arr (Sha.sum (zcx D k))),rfl,?_⟩
  have hHx':∀ {m:Nat},H.size≤m→m < w6.heap.size→m ∉ xw x':=fun h h' hm=>by
   rcases h5 _ hm with h2 | h2
   ·have:=(hxlt _ h2).1;omega
   ·omega
  have hd2x':W2.heap.size ∉ xw x':=fun h=>by have:=(x'lt _ h).1;omega
  have hl10:=hx10.get (hx9.get h2 (by simp)) (hHx' (Nat.le_refl _) (by omega))
  refine zcd rfl hl10 (by simp) fun w11 hw11=>?_
  have hx11:Ext [H.size] w10.heap w11.heap:=by rw [hw11];exact Ext.set _ (by simp)
  have hl11:w11.heap[H.size]?=some (.cells #[zcr x2] jg (0,0)):=by rw [hw11];exact qw hl10
  have hd11:=hx11.get (hx10.get hd9 hd2x') (by simp;omega)
  refine z9j zaf rfl hd11 zcD fun w12 hw12=>?_
  have hx12:Ext [W2.heap.size] w11.heap w12.heap:=by rw [hw12];exact Ext.set _ (by simp)
  have hd12:w12.heap[W2.heap.size]?=some (.cells (byteCells (Sha.sum (zcx D k))).toArray zf (0,0)):=by rw [hw12];exact qw hd11
  have s9:=hx9.1
  have s10:=hx10.1
  have s11:=hx11.1
  have s12:=hx12.1
  have s09:W2.heap.size < w9.heap.size:=lt_of_get hd9
  have keep12:∀ {m:Nat} {o:Obj},m ≠ H.size→m ≠ W2.heap.size→m ∉ xw x'→W2.heap[m]?=some o→w12.heap[m]?=some o:=fun h1 h2 h3 h=>hx12.get (hx11.get (hx10.get (hx9.get h (by simp)) h3) (by simp [h1])) (by simp [h2])
  have hn12:=keep12 (by omega) (by omega) (hHx' (by omega) (by omega)) h3
  refine jh (s:=.slc) (t:=xp') rfl hn12 rfl ?_
  refine je rfl hd12 (by simp [zaf]) ?_
  have hxp':=za9 h6
  have hB9:za3 w9.heap B x' (Ls++za1 D k):=h4.ext hx9 (by simp)
  have ne1:∀ m ∈ xw xp',m ∉ xw x':=by
   obtain ⟨ys,g1,_⟩:=h4
   exact zge h6 g1 (by decide)
  have hm10:Mine w10.heap w6.heap.size zf 32 xp' ((zlq D k).flatMap Bl.zgg):=(h6.ext hx9 (by simp)).ext hx10 ne1
  have hm12:Mine w12.heap w6.heap.size zf 32 xp' ((zlq D k).flatMap Bl.zgg):=(hm10.ext hx11 (fun m hm h=>by have:=jc h6 m hm;simp at h;omega)).ext hx12 (fun m hm h=>by have:=(hxp' m hm).1;simp at h;omega)
  refine qls rfl hm12 (by omega) zaf (by rw [zfj];omega) fun xp2 w14 hm14 hx14 hs14=>?_
  have hn14:=hx14.get hn12 (fun h=>by have:=jc h6 _ h;omega)
  refine zcd rfl hn14 (by simp [zdu]) fun w15 hw15=>?_
  have hx15:Ext [w2.heap.size] w14.heap w15.heap:=by rw [hw15];exact Ext.set _ (by simp)
  have s14:=hx14.1
  have s15:=hx15.1
  have hxAll:Ext (H.size :: w2.heap.size :: W2.heap.size :: (xw x'++xw xp')) W2.heap w15.heap:=by
   refine (hx9.mono (by simp)).trans ((hx10.mono fun m hm=>?_).trans ((hx11.mono fun m hm=>?_).trans ((hx12.mono fun m hm=>?_).trans ((hx14.mono fun m hm=>?_).trans (hx15.mono fun m hm=>?_)))))
   ·simp [hm]
   ·simp at hm;simp [hm]
   ·simp at hm;simp [hm]
   ·simp [hm]
   ·simp at hm;simp [hm]
  have hxA:Ext (H.size :: w2.heap.size :: (xw x'++xw xp')) W2.heap w15.heap:=⟨hxAll.1,fun m hm hn=>hxAll.2 m hm fun h=>hn (by simp at h ⊢;rcases h with h | h | h | h <;> first | (exact .inl h) | (exact .inr (.inl h)) | omega | (exact .inr (.inr h)))⟩
  have hK:Keep (H.size :: w2.heap.size :: xw x) w6.heap.size W2.heap w15.heap:=by
   refine .of hxA (fun m hm=>?_) (fun m hm=>?_)
   ·simp only [List.mem_cons,List.mem_append] at hm
    rcases hm with rfl | rfl | hm | hm
    ·left;simp
    ·left;simp
    ·rcases h5 m hm with h | h
     ·left;simp [h]
     ·right;exact ⟨h,(x'lt m hm).2⟩
    ·right;exact ⟨jc h6 m hm,(hxp' m hm).2⟩
   ·simp only [List.mem_cons] at hm
    rcases hm with rfl | rfl | hm
    ·omega
    ·omega
    ·have:=(hxlt m hm).1;omega
  have hB15:za3 w15.heap B x2 ((Ls++za1 D k)++[zcx D k]):=by
   obtain ⟨ys,g1,g2,g3⟩:=hB10
   have stay:∀ {T:TypeId} {x:Option Addr × Nat × Nat} {vs:List Value},Mine w10.heap B T 1 x vs→T ≠ jg→T ≠ zf→T ≠ zi→Mine w15.heap B T 1 x vs:=by
    intro T x vs hm n1 n2 n3
    have a1:=hm.ext hx11 (fun m hm1 h=>by
     simp at h;subst h
     rcases hm with ⟨rfl,_⟩ | ⟨b1,c1,hx1,_,hg1,_⟩
     ·simp [xw] at hm1
     ·simp [xw,hx1] at hm1;subst hm1
      rw [hl10] at hg1
      simp only [Option.some.injEq,Obj.cells.injEq] at hg1
      exact n1 hg1.2.1.symm)
    have a2:=a1.ext hx12 (fun m hm1 h=>by
     simp at h;subst h
     rcases a1 with ⟨rfl,_⟩ | ⟨b1,c1,hx1,_,hg1,_⟩
     ·simp [xw] at hm1
     ·simp [xw,hx1] at hm1;subst hm1
      rw [hd11] at hg1
      simp only [Option.some.injEq,Obj.cells.injEq] at hg1
      exact n2 hg1.2.1.symm)
    have a3:=a2.ext hx14 (zge a2 hm12 n2)
    exact a3.ext hx15 (fun m hm1 h=>by
     simp at h;subst h
     rcases a3 with ⟨rfl,_⟩ | ⟨b1,c1,hx1,_,hg1,_⟩
     ·simp [xw] at hm1
     ·simp [xw,hx1] at hm1;subst hm1
      rw [hn14] at hg1
      simp only [Option.some.injEq,Obj.cells.injEq] at hg1
      exact n3 hg1.2.1.symm)
   exact ⟨ys,stay g1 (by decide) (by decide) (by decide),g2,fun z hz=>⟨stay (g3 z hz).1 (by decide) (by decide) (by decide),(g3 z hz).2⟩⟩
  refine hkc w15 hK ⟨x2,xp2,?_,by omega,?_,?_,?_,?_,fun m hm=>?_,?_,?_,by simp;omega⟩
  ·exact hK.ext h1 (by omega) (fun m hm h=>by
    simp only [List.mem_cons] at h
    rcases h with rfl | rfl | h
    ·omega
    ·omega
    ·exact h)
  ·exact hx15.get (hx14.get (hx12.get hl11 (by simp;omega)) (fun h=>by have:=jc h6 _ h;omega)) (by simp;omega)
  ·rw [hw15,List.length_append,List.length_singleton,hk2]
   exact qw hn14
  ·exact hx15.get (hx14.get (keep12 (by omega) (by omega) (hHx' (by omega) (by omega)) h3d) (fun h=>by have:=jc h6 _ h;omega)) (by simp;omega)
  ·rw [List.length_append,List.length_singleton,hk2,zpt,← List.append_assoc]
   exact hB15
  ·rcases hs10 m hm with h | h
   ·exact h5 m h
   ·right;omega
  ·rw [List.length_append,List.length_singleton,hk2,zy5]
   exact hm14.ext hx15 (fun m hm h=>by
    simp at h;subst h
    have:=jc hm14 _ hm;omega)
  ·refine h7.ext hxA fun a ha _ h=>?_
   have hab:a.block=w4.heap.size:=by simpa [xw,ha] using hyo
   simp only [List.mem_cons,List.mem_append,hab] at h
   rcases h with h | h | h | h
   ·omega
   ·omega
   ·exact hHx' (by omega) (by omega) h
   ·have:=jc h6 _ h;omega
 ·rintro xs W rfl ⟨x',xp',h1,h1s,h2,h3,h3d,h4,h5,h6,h7,h8⟩ hDf
  simp only [List.length_range] at h3 h4 h6
  refine jh (s:=.slc) (t:=x') rfl h2 rfl ?_
  refine je rfl h3 rfl ?_
  have hlp:xp'.2.1=npc D:=by
   have:=h6.len
   rw [qg Bl.zgg Bl.zd7,zfj] at this
   omega
  have hNW:NodW W.heap (zch D (npc D)) xp' (none,0,0):=⟨h6.cells,by rw [hlp];exact zfj.symm,.inl rfl,rfl,zz5,by simp [zch]⟩
  have lenk:(Ls++za1 D (npc D)).length≤1073741824:=by simp [za1];omega
  have hH2:=h1.1
  refine zl (qh3 (n:=zch D (npc D)) rfl h4 hB0 (by omega) hNW (qen hD) (hS.ext h1 h0x) lenk (by have:=zsw (D:=D) (k:=npc D) (by omega);omega)) ?_
  rintro e w17 ⟨x2,rfl,hB17,hx17,hs17⟩
  refine ⟨(x2,arr (zeh D)),rfl,?_⟩
  have x'lt:=h4.lt
  have hHx':∀ {m:Nat},H.size≤m→m < w6.heap.size→m ∉ xw x':=fun h h' hm=>by
   rcases h5 _ hm with h2 | h2
   ·have:=(hxlt _ h2).1;omega
   ·omega
  have hd17:=hx17.get h3d (hHx' (by omega) (by omega))
  refine z9j zaf rfl hd17 zcD fun w18 hw18=>?_
  have hx18:Ext [w1.heap.size] w17.heap w18.heap:=by rw [hw18];exact Ext.set _ (by simp)
  have hd18:w18.heap[w1.heap.size]?=some (.cells (byteCells (zeh D)).toArray zf (0,0)):=by rw [hw18];exact qw hd17
  have hDx:w6.heap.size ∉ xw x':=fun h=>by
   obtain ⟨_,c',T',fr',hc'⟩:=x'lt _ h
   rw [hDf] at hc';cases hc'
  have hD18:w18.heap[w6.heap.size]?=some (.deferred (some [])):=hx18.get (hx17.get hDf hDx) (by simp;omega)
  refine ⟨hD18,fun w19 hw19=>?_⟩
  have hBs19:Beside w6.heap.size w18 w19:=by rw [hw19];exact .put (Nat.le_refl _) hD18 (by intro _ _ _ h;cases h)
  refine je rfl (hBs19.cells hd18) (by simp [zeh,zaf]) ?_
  have hB18:za3 w18.heap B x2 ((Ls++za1 D (npc D))++[zjy (zch D (npc D))]):=by
   obtain ⟨ys,g1,g2,g3⟩:=hB17
   have stay:∀ {T:TypeId} {x:Option Addr × Nat × Nat} {vs:List Value},Mine w17.heap B T 1 x vs→T ≠ zf→Mine w18.heap B T 1 x vs:=by
    intro T x vs hm n2
    exact hm.ext hx18 (fun m hm1 h=>by
     simp at h;subst h
     rcases hm with ⟨rfl,_⟩ | ⟨b1,c1,hx1,_,hg1,_⟩
     ·simp [xw] at hm1
     ·simp [xw,hx1] at hm1;subst hm1
      rw [hd17] at hg1
      simp only [Option.some.injEq,Obj.cells.injEq] at hg1
      exact n2 hg1.2.1.symm)
   exact ⟨ys,stay g1 (by decide),g2,fun z hz=>⟨stay (g3 z hz).1 (by decide),(g3 z hz).2⟩⟩
  refine ⟨x2,rfl,?_,?_,fun m hm=>?_⟩
  ·have:=hB18.beside hBs19
   rw [List.append_assoc] at this
   exact this
  ·have hx0:Ext (xw x) H w17.heap:=h1.own hx17 (fun m hm hlt=>by
    rcases h5 m hm with h | h
    ·exact h
    ·omega)
   have hx0':Ext (xw x) H w18.heap:=hx0.own hx18 (fun m hm hlt=>by simp at hm;omega)
   exact hBs19.ext (by omega) hx0'
  ·rcases hs17 m hm with h | h
   ·rcases h5 m h with h | h
    ·exact .inl h
    ·right;omega
   ·right;omega
theorem za3.keep {H H':Heap} {B:Nat} {x:Option Addr × Nat × Nat} {Ls:List (List UInt8)} {M:List Nat} (h:za3 H B x Ls) (hx:Ext M H H') (hM:∀ m ∈ M,∀ c T fr,H[m]?=some (.cells c T fr)→T ≠ zh∧T ≠ qy):za3 H' B x Ls:=by
 obtain ⟨ys,g1,g2,g3⟩:=h
 have stay:∀ {T:TypeId} {x:Option Addr × Nat × Nat} {vs:List Value},Mine H B T 1 x vs→(T=zh ∨ T=qy)→Mine H' B T 1 x vs:=by
  intro T x vs hm hT
  exact hm.ext hx (fun m hm1 h=>by
   rcases hm with ⟨rfl,_⟩ | ⟨b1,c1,hx1,_,hg1,_⟩
   ·simp [xw] at hm1
   ·simp [xw,hx1] at hm1;subst hm1
    have:=hM _ h _ _ _ hg1
    rcases hT with rfl | rfl
    ·exact this.1 rfl
    ·exact this.2 rfl)
 exact ⟨ys,stay g1 (.inl rfl),g2,fun z hz=>⟨stay (g3 z hz).1 (.inr rfl),(g3 z hz).2⟩⟩
theorem qfb {D:List UInt8} {k:Nat} (hk:k≤65536):SmallN (zch D k):=⟨by simp [zch],by simp [zch,zfj,hk],by simp [zch],by simp [zch]⟩
theorem qbz {D:List UInt8} {j:Nat}:SmallN (zlk (zkw D j)):=by
 have:=zqn (D:=D) (j:=j)
 exact ⟨by simp only [zlk];omega,by simp [zlk],by simp [zlk],by simp [zlk]⟩
theorem z9z {w:World} {H:Heap} {B:Nat} {x:Option Addr × Nat × Nat} {ds:List (List UInt8)} {k:List UInt8} {Q:World→Prop} (hw:w.heap=H) (hm:Mine H B zf 32 x (ds.flatMap Bl.zgg)) (hBs:B≤H.size) (hk:k.length=32) (hlen:ds.length≤1073741824) (hQ:∀ w',Ext [] H w'.heap→Q w') {K:(Option Addr × Nat × Nat)→World→Prop}
  (hK:∀ x' w',Mine w'.heap B zf 32 x' ((ds++[k]).flatMap Bl.zgg)→Ext (xw x) H w'.heap→(∀ c ∈ xw x',c ∈ xw x ∨ H.size≤c)→K x' w') :
  zal P (Instr.buildSlice ku 1 #[(0,arr k)]) .slc w fun (t27:(Option Addr × Nat × Nat)) w_13=>Q w_13 ∧
  zal P (Builtin.append_ #[ku,ku] ku #[(Value.slice x.1 x.2.1 x.2.2),(Value.slice t27.1 t27.2.1 t27.2.2)]) .slc w_13 K:=by
 have hlx:x.2.1=ds.length:=by
  have:=hm.len
  rw [qg Bl.zgg Bl.zd7] at this
  omega
 have hc1:(arr k).cells=(Bl.zgg k).toArray:=by rw [Bl.zgx hk];rfl
 refine zad (s:=.slc) (some ⟨w.heap.size,0,none⟩,1,1) _ (zd0 ED Bl.ql4 (v:=arr k) (by rw [Bl.za6,hk]) (by omega) (by omega)) ?_
 subst hw
 have hxp:Ext [] w.heap (w.heap.push (.cells (arr k).cells zf)):=.push _
 refine ⟨hQ _ hxp,?_⟩
 refine zcq (bts:=32) (n:=1) (us:=Bl.zgg k) (H:=w.heap.push (.cells (arr k).cells zf)) ED (by omega) Bl.ql4 (za5 Bl.ql4) rfl (hm.ext hxp (by simp)) (by simp;omega)
  (Src.slc rfl (.inr ⟨w.heap.size,0,_,_,_,rfl,zn,by rw [hc1];simp,by rw [hc1,Nat.zero_add];simp⟩) (by rw [Bl.zd7])) Bl.zx9 (by omega) ?_
 intro x' w4 hm4 hl4 hx4 hs4
 refine hK x' w4 (by rw [List.flatMap_append,List.flatMap_singleton];exact hm4) ((hxp.mono (by simp)).trans hx4) (fun c hc=>?_)
 rcases hs4 c hc with h | h
 ·exact .inl h
 ·right;have:=hxp.1;omega
set_option maxHeartbeats 16000000 in
theorem qln {w:World} {H:Heap} {B:Nat} {x:Option Addr × Nat × Nat} {Ls:List (List UInt8)} {D:List UInt8} (hw:w.heap=H) (hB:za3 H B x Ls) (hBs:B≤H.size) (hlen:Ls.length≤536870912) (hD:D.length≤100000) :
  qj P zvz #[.slice x.1 x.2.1 x.2.2,.string (strOf D)] w fun e w'=>∃ x',e=.returned (.tuple #[zcr x',arr (zeh D)])∧za3 w'.heap B x' (Ls++zhi D)∧Ext (xw x) H w'.heap∧∀ c ∈ xw x',c ∈ xw x ∨ H.size≤c:=by
 have hnp:npc D≤2000:=by unfold npc;omega
 have hxlt:=hB.lt
 refine qbw ?_
 unfold zuy
 refine jv hw fun w1 hw1=>?_
 have hx1:Ext [] H w1.heap:=by rw [hw1];exact .push _
 have hd1:w1.heap[H.size]?=some (.cells (zc P zf) zf (0,0)):=by rw [hw1];exact zn
 refine qm (s:=.any) (.agg (zdu (zch D 0) (none,0,0) (none,0,0)).toArray) (by rw [jy];exact bN2 _ _) ?_
 refine qid (zch D 0) _ _ rfl fun w3 hw3=>?_
 have hx3:Ext [] w1.heap w3.heap:=by rw [hw3];exact .push _
 have hn3:w3.heap[w1.heap.size]?=some (.cells (zdu (zch D 0) (none,0,0) (none,0,0)).toArray zi (0,0)):=by rw [hw3];exact zn
 have hx03:=hx1.trans hx3
 have s1:H.size < w1.heap.size:=lt_of_get hd1
 have s3:w1.heap.size < w3.heap.size:=lt_of_get hn3
 have hd3:=hx3.get hd1 (by simp)
 refine jd (fun (s:(Option Addr × Nat × Nat) × Int) W=>∃ (k:Nat) (xp':Option Addr × Nat × Nat),s.2=((64 * k:Nat):Int)∧k≤npc D∧Ext (xw x) H W.heap∧w3.heap.size≤W.heap.size∧W.heap[w1.heap.size]?=some (.cells (zdu (zch D k) xp' (none,0,0)).toArray zi (0,0)) ∧
   W.heap[H.size]?=some (.cells (zc P zf) zf (0,0))∧za3 W.heap B s.1 (Ls++za1 D k)∧(∀ c ∈ xw s.1,c ∈ xw x ∨ w3.heap.size≤c)∧Mine W.heap w3.heap.size zf 32 xp' ((zlq D k).flatMap Bl.zgg)) (fun s _=>(64 * npc D+64 - s.2).toNat)
  ⟨0,(none,0,0),rfl,Nat.zero_le _,hx03.mono (by simp),Nat.le_refl _,hn3,hd3,by simpa [za1] using hB.ext hx03 (by simp),fun c hc=>.inl hc,.inl ⟨rfl,by simp [zlq]⟩⟩ ?_
 rintro ⟨x',_⟩ W ⟨k,xp',rfl,hk,h1,h1s,h3,h3d,h4,h5,h6⟩
 have x'lt:=h4.lt
 have hHx':∀ {m:Nat},H.size≤m→m < w3.heap.size→m ∉ xw x':=fun h h' hm=>by
  rcases h5 _ hm with h2 | h2
  ·have:=(hxlt _ h2).1;omega
  ·omega
 have lenk:(Ls++za1 D k).length≤1073741824:=by simp [za1];omega
 have hH2:=h1.1
 refine zq (fun hlt=>?_) (fun hge=>?_)
 ·have hk':k < npc D:=zwj.2 (by simp only [jy] at hlt;omega)
  have hk64:=zwj.1 hk'
  refine xu ((64 * k+64:Nat):Int) (by simp) (by omega) (by omega) ?_
  refine qm (s:=.int .i64) ((64 * k+min 64 (D.length - 64 * k):Nat):Int) (by
   rw [run_min_int2];congr 2
   have hsz:(strOf D).size=D.length:=jy
   by_cases h:((64 * k+64:Nat):Int) < ((strOf D).size:Int)
   ·rw [if_pos h];omega
   ·rw [if_neg h];omega) ?_
  refine qm (s:=.str) _ (zz1 (h:=64 * k+min 64 (D.length - 64 * k)) z0e (.yes rfl) (.yes rfl) (by omega) (by omega)) ?_
  have hpc:(D.take (64 * k+min 64 (D.length - 64 * k))).drop (64 * k)=zkw D k:=by
   unfold zkw
   rw [List.drop_take,Nat.add_sub_cancel_left]
   by_cases h64:64≤D.length - 64 * k
   ·rw [Nat.min_eq_left h64]
   ·rw [Nat.min_eq_right (by omega),List.take_of_length_le (by simp),List.take_of_length_le (by simp;omega)]
  rw [hpc]
  refine qm (s:=.any) (.agg (zdu (zlk (zkw D k)) (none,0,0) (none,0,0)).toArray) (bN1 _ _) ?_
  refine zl (zv4 (n:=zlk (zkw D k)) rfl (.bare rfl rfl) qbz) ?_
  rintro e w5 ⟨y,rfl,hm5,hx5⟩
  refine ⟨y,rfl,?_⟩
  have hB5:=h4.ext hx5 (by simp)
  have s5:=hx5.1
  refine zw8 rfl hB5 (by omega) (hm5.mono (by omega)) (fun b hb h=>by have:=jc hm5 b hb;have:=(x'lt b h).1;omega) lenk fun x7 w7 hB7 hx7 hs7=>?_
  refine jw rfl fun w8 hw8=>?_
  have hx78:Ext [] w7.heap w8.heap:=by rw [hw8];exact .refl _ _
  have hx8:Ext (xw x') W.heap w8.heap:=((hx5.mono (by simp)).trans hx7).trans (hx78.mono (by simp))
  have hn8:=hx8.get h3 (hHx' (by omega) (by omega))
  refine jh (s:=.slc) (t:=xp') rfl hn8 rfl ?_
  have hm8:=(hm5.ext hx7 (fun b hb h=>by have:=jc hm5 b hb;have:=(x'lt b h).1;omega)).ext hx78 (by simp)
  have hyl:y.2.1=(zcx D k).length:=by have:=hm5.len;simp at this;unfold zcx;omega
  have hcl:=zo6 (D:=D) (j:=k)
  refine zl (Bl.zus rfl hm8.cells hyl (by unfold zcx at hcl;omega)) ?_
  rintro e w9 ⟨rfl,hx9⟩
  refine ⟨arr (Sha.sum (zcx D k)),rfl,?_⟩
  have hn9:=hx9.get hn8 (by simp)
  refine ⟨jh (s:=.slc) (t:=xp') rfl hn9 rfl rfl,?_⟩
  have hx9':Ext (xw x') W.heap w9.heap:=hx8.trans (hx9.mono (by simp))
  have ne1:∀ m ∈ xw xp',m ∉ xw x':=by
   obtain ⟨ys,g1,_⟩:=h4
   exact zge h6 g1 (by decide)
  have hm9:=h6.ext hx9' ne1
  have s9:=hx9'.1
  refine z9z rfl hm9 (by omega) zaf (by rw [zfj];omega) (fun w10 hx10=>jh (s:=.slc) (o:=3) (t:=xp') (K:=fun z=>Value.slice z.1 z.2.1 z.2.2=Value.slice xp'.1 xp'.2.1 xp'.2.2) rfl (hx10.get hn9 (by simp)) rfl rfl) fun xp2 w11 hm11 hx11 hs11=>?_
  have hn11:=hx11.get hn9 (fun h=>by have:=jc h6 _ h;omega)
  refine zcd rfl hn11 (by simp [zdu]) fun w12 hw12=>?_
  have hx12:Ext [w1.heap.size] w11.heap w12.heap:=by rw [hw12];exact Ext.set _ (by simp)
  have hB9:za3 w9.heap B x7 ((Ls++za1 D k)++[zcx D k]):=(hB7.ext hx78 (by simp)).ext hx9 (by simp)
  have hm9':=za9 hm9
  have hB11:za3 w11.heap B x7 ((Ls++za1 D k)++[zcx D k]):=hB9.keep hx11 (fun m hm c T fr hc=>by
   rcases hm9 with ⟨h,_⟩ | ⟨b',c2,hx1',_,hg,_⟩
   ·rw [h] at hm;simp [xw] at hm
   ·simp [xw,hx1'] at hm;subst hm
    rw [hc] at hg
    simp only [Option.some.injEq,Obj.cells.injEq] at hg
    rw [hg.2.1];exact ⟨by decide,by decide⟩)
  have hB12:za3 w12.heap B x7 ((Ls++za1 D k)++[zcx D k]):=hB11.keep hx12 (fun m hm c T fr hc=>by
   simp at hm;subst hm
   rw [hc] at hn11
   simp only [Option.some.injEq,Obj.cells.injEq] at hn11
   rw [hn11.2.1];exact ⟨by decide,by decide⟩)
  have s11:=hx11.1
  have s12:=hx12.1
  refine xu ((64 * (k+1):Nat):Int) (by simp only;omega) (by omega) (by omega) ?_
  refine ⟨⟨k+1,xp2,rfl,by omega,?_,by omega,?_,?_,?_,fun c hc=>?_,?_⟩,by simp only;omega⟩
  ·have a1:Ext (xw x) H w9.heap:=h1.own hx9' (fun m hm hlt=>by
    rcases h5 m hm with h | h
    ·exact h
    ·omega)
   have a2:Ext (xw x) H w11.heap:=a1.own hx11 (fun m hm hlt=>by have:=jc h6 m hm;omega)
   exact a2.own hx12 (fun m hm hlt=>by simp at hm;omega)
  ·rw [hw12];exact qw hn11
  ·exact hx12.get (hx11.get (hx9'.get h3d (hHx' (by omega) (by omega))) (fun h=>by have:=jc h6 _ h;omega)) (by simp;omega)
  ·rw [zpt,← List.append_assoc];exact hB12
  ·rcases hs7 c hc with h | h
   ·exact h5 c h
   ·right;omega
  ·rw [zy5]
   exact hm11.ext hx12 (fun m hm h=>by simp at h;subst h;have:=jc hm11 _ hm;omega)
 ·obtain rfl:k=npc D:=by
   have:¬ k < npc D:=fun h=>by have:=zwj.1 h;simp only [jy] at hge;omega
   omega
  refine je rfl h3 rfl ?_
  have hlp:xp'.2.1=npc D:=by
   have:=h6.len
   rw [qg Bl.zgg Bl.zd7,zfj] at this
   omega
  have hNW:NodW W.heap (zch D (npc D)) xp' (none,0,0):=⟨h6.cells,by rw [hlp];exact zfj.symm,.inl rfl,rfl,zz5,by simp [zch]⟩
  refine zl (zv4 (n:=zch D (npc D)) rfl hNW (qfb (by omega))) ?_
  rintro e w5 ⟨y,rfl,hm5,hx5⟩
  refine ⟨y,rfl,?_⟩
  have hB5:=h4.ext hx5 (by simp)
  have s5:=hx5.1
  refine zw8 rfl hB5 (by omega) (hm5.mono (by omega)) (fun b hb h=>by have:=jc hm5 b hb;have:=(x'lt b h).1;omega) lenk fun x7 w7 hB7 hx7 hs7=>?_
  have hx07:Ext (xw x') W.heap w7.heap:=(hx5.mono (by simp)).trans hx7
  have hm7:=hm5.ext hx7 (fun b hb h=>by have:=jc hm5 b hb;have:=(x'lt b h).1;omega)
  have hyl:y.2.1=(zjy (zch D (npc D))).length:=by have:=hm5.len;simp at this;omega
  have hfl:=zsw (D:=D) (k:=npc D) (by omega)
  refine zl (Bl.zus rfl hm7.cells hyl (by omega)) ?_
  rintro e w9 ⟨rfl,hx9⟩
  refine ⟨arr (zeh D),rfl,?_⟩
  have hd9:=hx9.get (hx07.get h3d (hHx' (by omega) (by omega))) (by simp)
  refine z9j zaf rfl hd9 zcD fun w10 hw10=>?_
  have hx10:Ext [H.size] w9.heap w10.heap:=by rw [hw10];exact Ext.set _ (by simp)
  have hd10:w10.heap[H.size]?=some (.cells (byteCells (zeh D)).toArray zf (0,0)):=by rw [hw10];exact qw hd9
  refine je rfl hd10 (by simp [zeh,zaf]) ?_
  have hB10:za3 w10.heap B x7 ((Ls++za1 D (npc D))++[zjy (zch D (npc D))]):=(hB7.ext hx9 (by simp)).keep hx10 (fun m hm c T fr hc=>by
   simp at hm;subst hm
   rw [hc] at hd9
   simp only [Option.some.injEq,Obj.cells.injEq] at hd9
   rw [hd9.2.1];exact ⟨by decide,by decide⟩)
  refine ⟨x7,rfl,?_,?_,fun m hm=>?_⟩
  ·rw [List.append_assoc] at hB10;exact hB10
  ·have a1:Ext (xw x) H w7.heap:=h1.own hx07 (fun m hm hlt=>by
    rcases h5 m hm with h | h
    ·exact h
    ·omega)
   exact (a1.trans (hx9.mono (by simp))).own hx10 (fun m hm hlt=>by simp at hm;omega)
  ·rcases hs7 m hm with h | h
   ·rcases h5 m h with h | h
    ·exact .inl h
    ·right;omega
   ·right;omega
open Go.Sort
structure Fil where
 path:List UInt8
 dir:Bool
 data:List UInt8
deriving DecidableEq,Inhabited
def zbc (f:Fil):List Value:=[.string (strOf f.path),.bool f.dir,.string (strOf f.data)]
theorem zbg (f:Fil):(zbc f).length=3:=rfl
theorem ztj {f:Fil}:zcz (zbc f):=by
 intro v hv
 simp only [zbc,List.mem_cons,List.not_mem_nil,or_false] at hv
 rcases hv with rfl | rfl | rfl <;> rfl
def nm (f:Fil):Path:=(zbo f.path).1
theorem zli (f:Fil):okP (nm f):=qip f.path
def clean (f:Fil):Fil:=⟨vw (nm f),f.dir,f.data⟩
theorem z5g {f:Fil}:nm (clean f)=nm f:=by unfold nm clean;rw [zuz (zli f)];rfl
def z2s:List Fil→Fil→List Fil
 | [],f=>[f]
 | g :: L,f=>if zfz (nm g) (nm f) < 0 then g :: z2s L f else f :: g :: L
def zh2 (L:List Fil):List Fil:=L.foldl z2s []
def zul (L:List Fil):Prop:=L.Pairwise fun a b=>zfz (nm a) (nm b) < 0
theorem zt9:∀ (L:List Fil) (f:Fil),(z2s L f).Perm (f :: L)
 | [],f=>.refl _
 | g :: L,f=>by
  unfold z2s
  split
  ·exact ((zt9 L f).cons g).trans (.swap f g L)
  ·exact .refl _
theorem z9p:∀ {L:List Fil} {f:Fil},zul L→(∀ g ∈ L,nm g ≠ nm f)→zul (z2s L f)
 | [],f,_,_=>by simp [z2s,zul]
 | g :: L,f,h,hn=>by
  obtain ⟨h1,h2⟩:=List.pairwise_cons.1 h
  unfold z2s
  split
  ·rename_i hlt
   refine List.pairwise_cons.2 ⟨fun x hx=>?_,z9p h2 fun y hy=>hn y (by simp [hy])⟩
   rcases List.mem_cons.1 ((zt9 L f).mem_iff.1 hx) with rfl | hx
   ·exact hlt
   ·exact h1 x hx
  ·rename_i hge
   have hgt:zfz (nm f) (nm g) < 0:=by
    have h3:=znh (p:=nm f) (q:=nm g)
    have h4:zfz (nm g) (nm f) ≠ 0:=fun e=>hn g (by simp) (znd.1 e)
    omega
   refine List.pairwise_cons.2 ⟨fun x hx=>?_,h⟩
   rcases List.mem_cons.1 hx with rfl | hx
   ·exact hgt
   ·exact zqs hgt (h1 x hx)
theorem z9h:∀ (L A:List Fil),zul A→((A++L).map nm).Nodup→(L.foldl z2s A).Perm (A++L)∧zul (L.foldl z2s A)
 | [],A,hA,_=>by simp [hA]
 | f :: L,A,hA,hn=>by
  have hfA:∀ g ∈ A,nm g ≠ nm f:=by
   intro g hg e
   rw [List.map_append,List.nodup_append] at hn
   exact hn.2.2 _ (List.mem_map.2 ⟨g,hg,rfl⟩) _ (List.mem_map.2 ⟨f,by simp,rfl⟩) e
  have hp:=zt9 A f
  have h1:(z2s A f++L).Perm (A++f :: L):=(hp.append_right L).trans (List.perm_middle (a:=f) (l₁:=A) (l₂:=L)).symm
  obtain ⟨g1,g2⟩:=z9h L (z2s A f) (z9p hA hfA) ((h1.map nm).nodup_iff.2 hn)
  exact ⟨g1.trans h1,g2⟩
theorem zh5 {L:List Fil} (hn:(L.map nm).Nodup):(zh2 L).Perm L∧zul (zh2 L):=by
 have:=z9h L [] List.Pairwise.nil (by simpa using hn)
 simpa [zh2] using this
theorem z7r:∀ {A B:List Fil},zul A→zul B→A.Perm B→A=B
 | [],B,_,_,hp=>by rw [hp.nil_eq]
 | a :: A,[],_,_,hp=>by have:=hp.length_eq;simp at this
 | a :: A,b :: B,hA,hB,hp=>by
  obtain ⟨a1,a2⟩:=List.pairwise_cons.1 hA
  obtain ⟨b1,b2⟩:=List.pairwise_cons.1 hB
  have hab:a=b:=by
   rcases List.mem_cons.1 (hp.mem_iff.1 (List.mem_cons_self (a:=a) (l:=A))) with h | h
   ·exact h
   ·rcases List.mem_cons.1 (hp.mem_iff.2 (List.mem_cons_self (a:=b) (l:=B))) with h' | h'
    ·exact h'.symm
    ·have h3:=b1 a h
     have h4:=a1 b h'
     have h5:=znh (p:=nm a) (q:=nm b)
     omega
  subst hab
  rw [z7r a2 b2 ((List.perm_cons a).1 hp)]
def qci (p:Path) (f:Fil):Bool:=decide (nm f ≠ []∧(nm f).dropLast=p)
def kids (S:List Fil) (p:Path):List Fil:=S.filter (qci p)
def zgj (p:Path):List UInt8:=p.getLast?.getD []
def zdr (T:List Itm):Nod:=⟨3,[],0,[],T⟩
def zh8 (rec:Path→List (List UInt8) × List UInt8) (acc:List (List UInt8) × List Itm) (f:Fil):List (List UInt8) × List Itm :=
 if f.dir then (acc.1++(rec (nm f)).1,acc.2++[⟨zgj (nm f),3,(rec (nm f)).2⟩]) else (acc.1++zhi f.data,acc.2++[⟨zgj (nm f),2,zeh f.data⟩])
def jk (rec:Path→List (List UInt8) × List UInt8) (K:List Fil):List (List UInt8) × List Itm:=K.foldl (zh8 rec) ([],[])
def zcn (S:List Fil):Nat→Path→List (List UInt8) × List UInt8
 | 0,_=>([],[])
 | n+1,p=>((jk (zcn S n) (kids S p)).1++[zjy (zdr (jk (zcn S n) (kids S p)).2)],Sha.sum (zjy (zdr (jk (zcn S n) (kids S p)).2)))
theorem zv9 {rec:Path→List (List UInt8) × List UInt8} {K:List Fil} {f:Fil}:jk rec (K++[f])=zh8 rec (jk rec K) f:=by simp [jk]
theorem qeh {S:List Fil} {p:Path}:kids (S.map clean) p=(kids S p).map clean:=by
 unfold kids
 rw [List.filter_map]
 congr 1
 apply List.filter_congr
 intro f _
 simp [qci,z5g]
theorem z4z {rec:Path→List (List UInt8) × List UInt8} {K:List Fil}:jk rec (K.map clean)=jk rec K:=by
 unfold jk
 rw [List.foldl_map]
 congr 1
 funext acc f
 simp only [zh8,z5g]
 rfl
theorem z2m {S:List Fil}:∀ (n:Nat) (p:Path),zcn (S.map clean) n p=zcn S n p
 | 0,_=>rfl
 | n+1,p=>by
  have:zcn (S.map clean) n=zcn S n:=funext (z2m n)
  simp only [zcn,qeh,z4z,this]
def zif (rec:Path→List (List UInt8) × List UInt8) (f:Fil):Itm:=if f.dir then ⟨zgj (nm f),3,(rec (nm f)).2⟩ else ⟨zgj (nm f),2,zeh f.data⟩
def zpl (rec:Path→List (List UInt8) × List UInt8) (f:Fil):List (List UInt8):=if f.dir then (rec (nm f)).1 else zhi f.data
theorem z4m {rec:Path→List (List UInt8) × List UInt8}:∀ (K:List Fil) (acc:List (List UInt8) × List Itm),K.foldl (zh8 rec) acc=(acc.1++(K.map (zpl rec)).flatten,acc.2++K.map (zif rec))
 | [],acc=>by simp
 | f :: K,acc=>by
  rw [List.foldl_cons,z4m K]
  unfold zh8 zif zpl
  split <;> simp_all
theorem zhk {rec:Path→List (List UInt8) × List UInt8} {K:List Fil}:(jk rec K).2=K.map (zif rec):=by
 unfold jk;rw [z4m];simp
theorem zkq {rec:Path→List (List UInt8) × List UInt8} {K:List Fil}:(jk rec K).1=(K.map (zpl rec)).flatten:=by
 unfold jk;rw [z4m];simp
theorem zr3 {f:Fil} (h:nm f ≠ []):nm f=(nm f).dropLast++[zgj (nm f)]:=by
 unfold zgj
 rw [List.getLast?_eq_some_getLast h]
 exact (List.dropLast_concat_getLast h).symm
theorem qg3 {p:Path} {a b:List UInt8}:zfz (p++[a]) (p++[b])=Lib.compareBytes a b:=by
 rw [zph (i:=p.length) (by simp) (by simp) (by simp)]
 simp only [List.drop_left]
 unfold zfz
 have hr:=zka (a:=a) (b:=b)
 split
 ·rfl
 ·rename_i h
  have h:Lib.compareBytes a b=0:=by simpa using h
  rw [h];rfl
theorem zf2 {S:List Fil} {p:Path} {f:Fil} (h:f ∈ kids S p):f ∈ S∧nm f ≠ []∧(nm f).dropLast=p:=by
 obtain ⟨h1,h2⟩:=List.mem_filter.1 h
 exact ⟨h1,by simpa [qci] using h2⟩
theorem qgt {S:List Fil} (h:zul S) {p:Path}:(kids S p).Pairwise fun a b=>Lib.compareBytes (zgj (nm a)) (zgj (nm b)) < 0:=by
 have h1:(kids S p).Pairwise fun a b=>zfz (nm a) (nm b) < 0:=h.sublist List.filter_sublist
 refine h1.imp_of_mem fun {a b} ha hb hab=>?_
 obtain ⟨_,a1,a2⟩:=zf2 ha
 obtain ⟨_,b1,b2⟩:=zf2 hb
 rw [zr3 a1,zr3 b1,a2,b2,qg3] at hab
 exact hab
theorem qb7 {f:Fil} (h:nm f ≠ []):zd6 (zgj (nm f))=true:=by
 have:=(zli f).1
 refine this _ ?_
 unfold zgj
 rw [List.getLast?_eq_some_getLast h]
 exact List.getLast_mem h
theorem z2h {rec:Path→List (List UInt8) × List UInt8}:∀ {K:List Fil} {last:List UInt8},(K.Pairwise fun a b=>Lib.compareBytes (zgj (nm a)) (zgj (nm b)) < 0)→(∀ f ∈ K,nm f ≠ [])→(∀ f,K.head?=some f→Lib.compareBytes last (zgj (nm f)) < 0)→zt4 last (K.map (zif rec))=true
 | [],_,_,_,_=>rfl
 | f :: K,last,h,hn,hl=>by
  obtain ⟨h1,h2⟩:=List.pairwise_cons.1 h
  have hi:(zif rec f).name=zgj (nm f)∧((zif rec f).kind=2 ∨ (zif rec f).kind=3):=by
   unfold zif
   split
   ·exact ⟨rfl,.inr rfl⟩
   ·exact ⟨rfl,.inl rfl⟩
  rw [List.map_cons,zt4,hi.1]
  have ih:=z2h (rec:=rec) (K:=K) (last:=zgj (nm f)) h2 (fun g hg=>hn g (by simp [hg])) (fun g hg=>h1 g (List.mem_of_mem_head? hg))
  simp only [Bool.and_eq_true,decide_eq_true_eq,Bool.or_eq_true]
  exact ⟨⟨⟨hl f rfl,qb7 (hn f (by simp))⟩,hi.2⟩,ih⟩
theorem qf0 {S:List Fil} (h:zul S) {p:Path} {rec:Path→List (List UInt8) × List UInt8} (hm:(kids S p).length≤64):zc4 (zdr ((kids S p).map (zif rec)))=true:=by
 unfold zc4 zdr
 rw [if_neg (show ¬ ((3:Int)=1) by decide),if_neg (show ¬ ((3:Int)=2) by decide),if_pos rfl]
 simp only [List.length_nil,and_self,decide_true,Bool.true_and,zqb,Bool.and_eq_true,decide_eq_true_eq,List.length_map]
 refine ⟨z2h (qgt h) (fun f hf=>(zf2 hf).2.1) fun f hf=>?_,hm⟩
 have:=zet.1 (qb7 (zf2 (List.mem_of_mem_head? hf)).2.1)
 cases hl:zgj (nm f) with
 | nil=>exact absurd hl this.1.1
 | cons a b=>simp [Lib.compareBytes]
theorem zf7 {S:List Fil} {n:Nat} {p:Path}:(zcn S (n+1) p).2.length=32:=zaf
def wt (S:List Fil) (p:Path):Nat:=(S.filter fun f=>zc1 (nm f) p).length
theorem zzi {p:Path}:zc1 p p=true:=within_iff.2 ⟨Nat.le_refl _,by simp⟩
theorem zlv {S:List Fil} {p:Fil→Bool}:((S.map fun f=>if p f then 1 else 0).sum)=(S.filter p).length:=by
 induction S with
 | nil=>rfl
 | cons f S ih =>
  rw [List.map_cons,List.sum_cons,ih,List.filter_cons]
  split <;> simp_all <;> omega
theorem qik {α β:Type} (A:List α) (B:List β) (g:α→β→Nat):(A.map fun a=>(B.map fun b=>g a b).sum).sum=(B.map fun b=>(A.map fun a=>g a b).sum).sum:=by
 induction A with
 | nil=>induction B with
  | nil=>rfl
  | cons b B ih=>simpa using ih
 | cons a A ih =>
  rw [List.map_cons,List.sum_cons,ih]
  clear ih
  induction B with
  | nil=>simp
  | cons b B ih2 =>
   simp only [List.map_cons,List.sum_cons] at *
   omega
theorem qkj {α:Type} {g g':α→Nat}:∀ {S:List α},(∀ f ∈ S,g f≤g' f)→(S.map g).sum≤(S.map g').sum
 | [],_=>by simp
 | f :: S,h=>by
  have h1:=h f (by simp)
  have h2:=qkj (S:=S) fun x hx=>h x (by simp [hx])
  simp only [List.map_cons,List.sum_cons]
  omega
theorem qlx {S:List Fil} (h:zul S) {p:Path}:((kids S p).map fun e=>wt S (nm e)).sum≤(S.filter fun f=>zc1 (nm f) p && decide (p.length < (nm f).length)).length:=by
 have e1:((kids S p).map fun e=>wt S (nm e))=(kids S p).map fun e=>(S.map fun f=>if zc1 (nm f) (nm e) then 1 else 0).sum:=by
  apply List.map_congr_left
  intro e _
  rw [zlv];rfl
 rw [e1,qik,← zlv]
 have key:∀ f ∈ S,((kids S p).map fun e=>if zc1 (nm f) (nm e) then 1 else 0).sum≤(if zc1 (nm f) p && decide (p.length < (nm f).length) then 1 else 0):=by
  intro f _
  rw [zlv]
  have huniq:∀ {e},e ∈ kids S p→zc1 (nm f) (nm e)=true→nm e=(nm f).take (p.length+1)∧p.length+1≤(nm f).length∧(nm f).take p.length=p:=by
   intro e he hw
   obtain ⟨_,e1,e2⟩:=zf2 he
   obtain ⟨w1,w2⟩:=within_iff.1 hw
   have hl:(nm e).length=p.length+1:=by
    have:=congrArg List.length (zr3 e1)
    rw [e2] at this;simpa using this
   refine ⟨by rw [← hl,w2],by omega,?_⟩
   have:=congrArg (List.take p.length) w2
   rw [List.take_take,Nat.min_eq_left (by omega)] at this
   rw [this,zr3 e1,e2]
   simp
  have hle:((kids S p).filter fun e=>zc1 (nm f) (nm e)).length≤1:=by
   have hr:((kids S p).filter fun e=>zc1 (nm f) (nm e)).Pairwise fun a b=>zfz (nm a) (nm b) < 0:=(h.sublist List.filter_sublist).sublist List.filter_sublist
   match hm:(kids S p).filter fun e=>zc1 (nm f) (nm e) with
   | []=>simp
   | [_]=>simp
   | a :: b :: r =>
    exfalso
    rw [hm] at hr
    have hab:=(List.pairwise_cons.1 hr).1 b (by simp)
    have ha:a ∈ (kids S p).filter fun e=>zc1 (nm f) (nm e):=by rw [hm];simp
    have hb:b ∈ (kids S p).filter fun e=>zc1 (nm f) (nm e):=by rw [hm];simp
    obtain ⟨a1,a2⟩:=List.mem_filter.1 ha
    obtain ⟨b1,b2⟩:=List.mem_filter.1 hb
    rw [(huniq a1 a2).1,(huniq b1 b2).1,znd.2 rfl] at hab
    omega
  split
  ·exact hle
  ·rename_i hno
   rw [Nat.le_zero,List.length_eq_zero_iff,List.filter_eq_nil_iff]
   intro e he hw
   obtain ⟨u1,u2,u3⟩:=huniq he hw
   apply hno
   simp only [Bool.and_eq_true,decide_eq_true_eq]
   exact ⟨within_iff.2 ⟨by omega,u3⟩,by omega⟩
 exact qkj key
theorem z5s {D:List UInt8} (h:D.length≤1024):(zhi D).length≤17:=by
 simp [zhi,za1,npc];omega
theorem qdg {S:List Fil} (h:zul S) (hd:∀ f ∈ S,f.data.length≤1024):∀ (n:Nat) (p:Path),(zcn S n p).1.length≤1+18 * (S.filter fun f=>zc1 (nm f) p && decide (p.length < (nm f).length)).length
 | 0,p=>by simp [zcn]
 | n+1,p=>by
  have h1:=qlx h (p:=p)
  have ih:=qdg h hd n
  have key:∀ K:List Fil,(∀ e ∈ K,e ∈ S)→((K.map (zpl (zcn S n))).flatten).length≤18 * (K.map fun e=>wt S (nm e)).sum:=by
   intro K
   induction K with
   | nil=>intro _;simp
   | cons e K ihK =>
    intro hK
    have h2:=ihK fun x hx=>hK x (by simp [hx])
    have heS:=hK e (by simp)
    have h3:(zpl (zcn S n) e).length≤18 * wt S (nm e):=by
     have hpos:1≤wt S (nm e):=List.length_pos_iff.2 (List.ne_nil_of_mem (List.mem_filter.2 ⟨heS,zzi⟩))
     unfold zpl
     split
     ·have h4:=ih (nm e)
      have h5:(S.filter fun f=>zc1 (nm f) (nm e) && decide ((nm e).length < (nm f).length)).length+1≤wt S (nm e):=by
       unfold wt
       have:(S.filter fun f=>zc1 (nm f) (nm e) && decide ((nm e).length < (nm f).length))=(S.filter fun f=>zc1 (nm f) (nm e)).filter fun f=>decide ((nm e).length < (nm f).length):=by
        rw [List.filter_filter]
        congr 1
        funext f
        rw [Bool.and_comm]
       rw [this]
       refine List.length_filter_lt_length_iff_exists.2 ⟨e,List.mem_filter.2 ⟨heS,zzi⟩,by simp⟩
      omega
     ·have:=z5s (hd e heS)
      omega
    simp only [List.map_cons,List.flatten_cons,List.length_append,List.sum_cons]
    omega
  have h6:=key (kids S p) fun e he=>(zf2 he).1
  rw [zcn,zkq]
  simp only [List.length_append,List.length_singleton]
  omega
theorem uST:P.underlying zai=some (.slice ql):=by kernel_rfl
theorem bT2 (s:ByteArray) (w:World):(Instr.build ql #[(0,.string s),(1,.int .i64 2)]).run P w=.ok (.agg ([Value.string s,Value.int .i64 2]++byteCells (List.replicate 32 0)).toArray) w:=by kernel_rfl
theorem ET:Elem P ql 34 56:=zn0 (z:=.agg ([Value.string .empty,Value.int .i64 0]++byteCells (List.replicate 32 0)).toArray) (by kernel_rfl) rfl
theorem qgr {w:World} {H:Heap} {B:Nat} {x:Option Addr × Nat × Nat} {T:List Itm} {i:Itm} (hw:w.heap=H) (hm:Mine H B ql 34 x (T.flatMap zfk)) (hBs:B≤H.size) (hlen:T.length≤1073741824) {K:(Option Addr × Nat × Nat)→World→Prop}
  (hK:∀ x' w',Mine w'.heap B ql 34 x' ((T++[i]).flatMap zfk)→Ext (xw x) H w'.heap→(∀ c ∈ xw x',c ∈ xw x ∨ H.size≤c)→K x' w') :
  zal P (Instr.buildSlice zai 1 #[(0,.agg (zfk i).toArray)]) .slc w fun (t27:(Option Addr × Nat × Nat)) w_13 =>
  zal P (Builtin.append_ #[zai,zai] zai #[(Value.slice x.1 x.2.1 x.2.2),(Value.slice t27.1 t27.2.1 t27.2.2)]) .slc w_13 K:=by
 have hlx:x.2.1=T.length:=by
  have:=hm.len
  rw [qg zfk zax] at this
  omega
 refine zad (s:=.slc) (some ⟨w.heap.size,0,none⟩,1,1) _ (zd0 ET uST (v:=.agg (zfk i).toArray) (by simp [Value.cells,zax]) (by omega) (by omega)) ?_
 subst hw
 have hxp:Ext [] w.heap (w.heap.push (.cells (Value.agg (zfk i).toArray).cells ql)):=.push _
 refine zcq (bts:=56) (n:=1) (us:=zfk i) (H:=w.heap.push (.cells (Value.agg (zfk i).toArray).cells ql)) ET (by omega) uST (za5 uST) rfl (hm.ext hxp (by simp)) (by simp;omega)
  (Src.slc rfl (.inr ⟨w.heap.size,0,_,_,_,rfl,zn,by simp [zfv],by simp [zfv,List.take_of_length_le]⟩) (by rw [zax])) z3r (by omega) ?_
 intro x' w4 hm4 hl4 hx4 hs4
 refine hK x' w4 (by rw [List.flatMap_append,List.flatMap_singleton];exact hm4) ((hxp.mono (by simp)).trans hx4) (fun c hc=>?_)
 rcases hs4 c hc with h | h
 ·exact .inl h
 ·right;have:=hxp.1;omega
theorem qck {n s:List UInt8} {k k':Int}:(zfk ⟨n,k,s⟩).toArray.setIfInBounds 1 (.int .i64 k')=(zfk ⟨n,k',s⟩).toArray:=by
 simp [zfk]
theorem z4l {n s s':List UInt8} {k:Int} (hs':s'.length=32):setCells (zfk ⟨n,k,s⟩).toArray 2 (byteCells s')=(zfk ⟨n,k,s'⟩).toArray:=by
 apply Array.ext_getElem?
 intro i
 rw [zgt (by simp [zax,hs'])]
 simp only [jf,hs']
 by_cases h:2≤i∧i < 2+32
 ·rw [if_pos h]
  obtain ⟨j,rfl⟩:∃ j,i=j+2:=⟨i - 2,by omega⟩
  simp only [List.getElem?_toArray,zfk,Bl.zgx hs',List.getElem?_cons_succ,Nat.add_sub_cancel]
 ·rw [if_neg h]
  simp only [List.getElem?_toArray]
  by_cases h2:i < 2
  ·match i,h2 with
   | 0,_=>rfl
   | 1,_=>rfl
  ·rw [List.getElem?_eq_none (by rw [zax];omega),List.getElem?_eq_none (by rw [zax];omega)]
theorem znp {p:Path} {f:Fil}:qci p f=true ↔ (nm f).length=p.length+1∧zc1 (nm f) p=true:=by
 unfold qci
 rw [decide_eq_true_eq,within_iff]
 constructor
 ·rintro ⟨h1,h2⟩
  have hl:(nm f).length=p.length+1:=by
   have:=congrArg List.length (zr3 h1)
   rw [h2] at this;simpa using this
  exact ⟨hl,by omega,by rw [← h2,List.dropLast_eq_take];congr 1;simp⟩
 ·rintro ⟨h1,h2,h3⟩
  refine ⟨by intro h;rw [h] at h1;simp at h1,?_⟩
  rw [List.dropLast_eq_take,h1,Nat.add_sub_cancel,h3]
theorem z8a {S:List Fil} {p:Path} {i:Nat} {f:Fil} (h:S[i]?=some f):kids (S.take (i+1)) p=if qci p f then kids (S.take i) p++[f] else kids (S.take i) p:=by
 unfold kids
 rw [List.take_add_one,h,List.filter_append]
 cases hk:qci p f <;> simp [hk]
theorem z2d {rec:Path→List (List UInt8) × List UInt8} {S:List Fil} {p:Path} {i:Nat}:(jk rec (kids (S.take i) p)).1.length≤(jk rec (kids S p)).1.length:=by
 have h:kids S p=kids (S.take i) p++kids (S.drop i) p:=by
  unfold kids;rw [← List.filter_append,List.take_append_drop]
 rw [h,zkq,zkq,List.map_append,List.flatten_append,List.length_append]
 omega
theorem zt7 {S:List Fil} {p:Path} {i:Nat}:(kids (S.take i) p).length≤S.length:=by
 have h1:(kids (S.take i) p).length≤(S.take i).length:=List.length_filter_le _ _
 have h2:(S.take i).length≤S.length:=by simp;omega
 omega
theorem qaq {rec:Path→List (List UInt8) × List UInt8} {K:List Fil}:(jk rec K).2.length=K.length:=by rw [zhk];simp
theorem qhx {S:List Fil} {p:Path} {n:Nat} (hn:p.length+(n+1)=9) {K:List Fil} (hK:∀ f ∈ K,nm f ≠ []∧(nm f).dropLast=p):∀ i ∈ (jk (zcn S n) K).2,i.sum.length=32:=by
 rw [zhk]
 intro i hi
 obtain ⟨f,hf,rfl⟩:=List.mem_map.1 hi
 obtain ⟨h1,h2⟩:=hK f hf
 unfold zif
 split
 ·have h8:=(zli f).2
  have hl:(nm f).length=p.length+1:=by
   have:=congrArg List.length (zr3 h1)
   rw [h2] at this;simpa using this
  obtain ⟨m,rfl⟩:∃ m,n=m+1:=⟨n - 1,by omega⟩
  exact zf7
 ·exact zaf
theorem zx4 {rec:Path→List (List UInt8) × List UInt8} {K:List Fil} (hK:∀ f ∈ K,nm f ≠ []) (hl:K.length≤65536):SmallN (zdr (jk rec K).2):=by
 refine ⟨by simp [zdr],by simp [zdr],by simp only [zdr];rw [qaq];exact hl,?_⟩
 simp only [zdr]
 rw [zhk]
 intro i hi
 obtain ⟨f,hf,rfl⟩:=List.mem_map.1 hi
 have:=(zet.1 (qb7 (hK f hf))).1.2.1
 unfold zif
 split <;> (simp only;omega)
theorem z4k {T:List Itm} (h:SmallN (zdr T)) (h32:∀ i ∈ T,i.sum.length=32):(zjy (zdr T)).length≤10000000000:=by
 have u:=@zd3 3
 have u2:=@zd3 (T.length:Int)
 have h1:=zs7 (l:=T) h.names h32
 have h2:T.length≤65536:=h.items
 unfold zjy zdr
 rw [if_neg (show ¬ ((3:Int)=1) by decide),if_neg (show ¬ ((3:Int)=2) by decide)]
 simp only [List.length_append]
 omega
theorem last_at {f:Fil} (h:nm f ≠ []):(nm f)[(nm f).length - 1]'(by have:=List.length_pos_iff.2 h;omega)=zgj (nm f):=by
 unfold zgj
 rw [List.getLast?_eq_some_getLast h,List.getLast_eq_getElem]
 rfl
theorem bN3 (w:World):(Instr.build zi #[(0,.int .i64 3)]).run P w=.ok (.agg #[.int .i64 3,.string .empty,.int .i64 0,.slice none 0 0,.slice none 0 0]) w:=by kernel_rfl
theorem za3.row {H:Heap} {B:Nat} {x:Option Addr × Nat × Nat} {Ls:List (List UInt8)} (h:za3 H B x Ls) {B':Nat} {T:TypeId} {sz:Nat} {y:Option Addr × Nat × Nat} {vs:List Value} (hm:Mine H B' T sz y vs) (hT:T ≠ zh):∀ b ∈ xw y,b ∉ xw x:=by
 obtain ⟨ys,g1,_⟩:=h
 exact zge hm g1 hT
set_option maxHeartbeats 32000000 in
theorem qj5 (S:List Fil) (hd:∀ f ∈ S,f.data.length≤1024) (hSl:S.length≤65536):∀ (n:Nat) {w:World} {H:Heap} {B BL BD:Nat} {x l d:Option Addr × Nat × Nat} {Ls:List (List UInt8)} {p:Path},w.heap=H→za3 H B x Ls→B≤H.size→Mine H BL zk 3 l (S.flatMap zbc)→Mine H BD qc 1 d (strRow p) →
  p.length+n=9→p.length≤8→Ls.length+(zcn S n p).1.length≤500000000 →
  qj P zn2 #[.slice x.1 x.2.1 x.2.2,.slice l.1 l.2.1 l.2.2,.slice d.1 d.2.1 d.2.2] w fun e w'=>∃ x',e=.returned (.tuple #[zcr x',arr (zcn S n p).2])∧za3 w'.heap B x' (Ls++(zcn S n p).1)∧Ext (xw x) H w'.heap∧∀ c ∈ xw x',c ∈ xw x ∨ H.size≤c:=by
 intro n
 induction n with
 | zero =>
  intro w H B BL BD x l d Ls p _ _ _ _ _ hn hp8 _
  omega
 | succ n ih =>
 intro w H B BL BD x l d Ls p hw hB hBs hL hDr hn hp8 hlen
 have hll:l.2.1=S.length:=by have:=hL.len;rw [qg zbc zbg] at this;omega
 have hdl:d.2.1=p.length:=by have:=hDr.len;simp at this;omega
 have hxlt:=hB.lt
 have hLlt:=za9 hL
 have hDlt:=za9 hDr
 refine z6s ?_
 unfold zsa
 refine jv hw fun w1 hw1=>?_
 have hx1:Ext [] H w1.heap:=by rw [hw1];exact .push _
 have hd1:w1.heap[H.size]?=some (.cells (zc P zf) zf (0,0)):=by rw [hw1];exact zn
 refine qm (s:=.any) (.agg (zdu (zdr []) (none,0,0) (none,0,0)).toArray) (bN3 _) ?_
 refine qid (zdr []) _ _ rfl fun w3 hw3=>?_
 have hx3:Ext [] w1.heap w3.heap:=by rw [hw3];exact .push _
 have hn3:w3.heap[w1.heap.size]?=some (.cells (zdu (zdr []) (none,0,0) (none,0,0)).toArray zi (0,0)):=by rw [hw3];exact zn
 have hx03:=hx1.trans hx3
 have s1:H.size < w1.heap.size:=lt_of_get hd1
 have s3:w1.heap.size < w3.heap.size:=lt_of_get hn3
 have hd3:=hx3.get hd1 (by simp)
 refine jd (fun (s:(Option Addr × Nat × Nat) × Int) W=>∃ (i:Nat) (xi:Option Addr × Nat × Nat),s.2=(i:Int)∧i≤S.length∧Ext (xw x) H W.heap∧w3.heap.size≤W.heap.size∧W.heap[w1.heap.size]?=some (.cells (zdu (zdr (jk (zcn S n) (kids (S.take i) p)).2) (none,0,0) xi).toArray zi (0,0)) ∧
   W.heap[H.size]?=some (.cells (zc P zf) zf (0,0))∧za3 W.heap B s.1 (Ls++(jk (zcn S n) (kids (S.take i) p)).1)∧(∀ c ∈ xw s.1,c ∈ xw x ∨ w3.heap.size≤c)∧Mine W.heap w3.heap.size ql 34 xi ((jk (zcn S n) (kids (S.take i) p)).2.flatMap zfk)) (fun s _=>(S.length - s.2).toNat)
  ⟨0,(none,0,0),rfl,Nat.zero_le _,hx03.mono (by simp),Nat.le_refl _,by simpa [kids,jk] using hn3,hd3,by simpa [kids,jk] using hB.ext hx03 (by simp),fun c hc=>.inl hc,.inl ⟨rfl,by simp [kids,jk]⟩⟩ ?_
 rintro ⟨x',_⟩ W ⟨i,xi,rfl,hi,h1,h1s,h3,h3d,h4,h5,h6⟩
 have x'lt:=h4.lt
 have hHx':∀ {m:Nat},H.size≤m→m < w3.heap.size→m ∉ xw x':=fun h h' hm=>by
  rcases h5 _ hm with h2 | h2
  ·have:=(hxlt _ h2).1;omega
  ·omega
 have hH2:=h1.1
 have hpre:=z2d (rec:=zcn S n) (S:=S) (p:=p) (i:=i)
 have htot:Ls.length+(jk (zcn S n) (kids S p)).1.length+1≤500000000:=by
  have:=hlen
  simp only [zcn,List.length_append,List.length_singleton] at this
  omega
 have hLW:=hL.ext h1 (hB.row hL (by decide))
 have hDW:=hDr.ext h1 (hB.row hDr (by decide))
 refine zq (fun hlt=>?_) (fun hge=>?_)
 ·have hil:i < S.length:=by simp only at hlt;omega
  have hget:=List.getElem?_eq_getElem hil
  have hmem:S[i] ∈ S:=List.getElem_mem hil
  generalize S[i]=f at hget hmem
  have hkt:=z8a (p:=p) hget
  have hdf:=hd f hmem
  refine joinP_of (fun s' W'=>∃ xi':Option Addr × Nat × Nat,Ext (xw x) H W'.heap∧w3.heap.size≤W'.heap.size∧W'.heap[w1.heap.size]?=some (.cells (zdu (zdr (jk (zcn S n) (kids (S.take (i+1)) p)).2) (none,0,0) xi').toArray zi (0,0)) ∧
   W'.heap[H.size]?=some (.cells (zc P zf) zf (0,0))∧za3 W'.heap B s' (Ls++(jk (zcn S n) (kids (S.take (i+1)) p)).1)∧(∀ c ∈ xw s',c ∈ xw x ∨ w3.heap.size≤c)∧Mine W'.heap w3.heap.size ql 34 xi' ((jk (zcn S n) (kids (S.take (i+1)) p)).2.flatMap zfk)) ?_ ?_
  rotate_left
  ·rintro s' W' ⟨xi',g⟩
   refine xu ((i+1:Nat):Int) (by simp) (by omega) (by omega) ?_
   exact ⟨⟨i+1,xi',rfl,by omega,g⟩,by simp only;omega⟩
  refine Bl.zdh (i:=i) zbg (by omega) hLW.cells hll hget rfl fun b o c T fr _ hb hsz hc _=>?_
  refine jh (s:=.str) (t:=strOf f.path) rfl hb (hc 0 (by omega)) ?_
  refine zl (z4s f.path rfl) ?_
  rintro e w5 ⟨y,rfl,hm5,hx5⟩
  refine ⟨y,rfl,?_⟩
  have hm5:Mine w5.heap W.heap.size qc 1 y (strRow (nm f)):=hm5
  have hyl:y.2.1=(nm f).length:=by have:=hm5.len;simp at this;omega
  have h8:=(zli f).2
  have skip:qci p f=false→∀ {W':World},Ext [] W.heap W'.heap→∃ xi':Option Addr × Nat × Nat,Ext (xw x) H W'.heap∧w3.heap.size≤W'.heap.size∧W'.heap[w1.heap.size]?=some (.cells (zdu (zdr (jk (zcn S n) (kids (S.take (i+1)) p)).2) (none,0,0) xi').toArray zi (0,0)) ∧
   W'.heap[H.size]?=some (.cells (zc P zf) zf (0,0))∧za3 W'.heap B x' (Ls++(jk (zcn S n) (kids (S.take (i+1)) p)).1)∧(∀ c ∈ xw x',c ∈ xw x ∨ w3.heap.size≤c)∧Mine W'.heap w3.heap.size ql 34 xi' ((jk (zcn S n) (kids (S.take (i+1)) p)).2.flatMap zfk):=by
   intro hk W' hx
   rw [hkt,hk]
   exact ⟨xi,h1.trans (hx.mono (by simp)),Nat.le_trans h1s hx.1,hx.get h3 (by simp),hx.get h3d (by simp),h4.ext hx (by simp),h5,h6.ext hx (by simp)⟩
  refine joinP_of (fun _ W'=>W'.heap=w5.heap∧qci p f=true) ?_ ?_
  ·refine xu ((p.length+1:Nat):Int) (by omega) (by omega) (by omega) ?_
   refine zb1 (fun h=>skip (by rw [← Bool.not_eq_true,znp];omega) hx5) (fun h=>?_)
   refine zl (z7q rfl hm5.cells hyl (hDW.ext hx5 (by simp)).cells hdl (by omega) (by omega)) ?_
   rintro e w6 ⟨rfl,hw6⟩
   refine ⟨zc1 (nm f) p,rfl,?_⟩
   cases hwi:zc1 (nm f) p with
   | false=>exact zab rfl (skip (by rw [← Bool.not_eq_true,znp,hwi];simp) (by rw [hw6];exact hx5))
   | true=>exact jl rfl ⟨hw6,znp.2 ⟨by omega,hwi⟩⟩
  rintro _ W7 ⟨hW7,hkid⟩
  rw [← hW7] at hx5 hm5
  rw [hkid,if_pos rfl] at hkt
  obtain ⟨hk1,hk2⟩:nm f ≠ []∧(nm f).dropLast=p:=by simpa [qci] using hkid
  have hkl:=(znp.1 hkid).1
  obtain ⟨m,rfl⟩:∃ m,n=m+1:=⟨n - 1,by omega⟩
  refine zbu ((y.2.1 - 1:Nat):Int) (by omega) (by omega) (by omega) ?_
  refine z1o (xs:=nm f) (i:=(nm f).length - 1) rfl hm5.cells hyl (by omega) (by omega) ?_
  rw [last_at hk1]
  refine qm (s:=.any) (.agg (zfk ⟨zgj (nm f),2,List.replicate 32 0⟩).toArray) (by rw [zfk,Bl.zgx (by simp)];exact bT2 _ _) ?_
  refine qna ⟨zgj (nm f),2,List.replicate 32 0⟩ rfl fun w9 hw9=>?_
  have hx79:Ext [] W7.heap w9.heap:=by rw [hw9];exact .push _
  have hb9:w9.heap[W7.heap.size]?=some (.cells (zfk ⟨zgj (nm f),2,List.replicate 32 0⟩).toArray ql (0,0)):=by rw [hw9];exact zn
  have hx9:=hx5.trans hx79
  have s7:=hx5.1
  have s79:W7.heap.size < w9.heap.size:=lt_of_get hb9
  have hstep:(jk (zcn S (m+1)) (kids (S.take (i+1)) p))=zh8 (zcn S (m+1)) (jk (zcn S (m+1)) (kids (S.take i) p)) f:=by rw [hkt,zv9]
  have hpre':=z2d (rec:=zcn S (m+1)) (S:=S) (p:=p) (i:=i+1)
  have hBx9:=h4.ext hx9 (by simp)
  have hL9:=hLW.ext hx9 (by simp)
  refine joinP_of (fun s' W'=>∃ s32:List UInt8,zif (zcn S (m+1)) f=⟨zgj (nm f),if f.dir then 3 else 2,s32⟩∧W'.heap[W7.heap.size]?=some (.cells (zfk (zif (zcn S (m+1)) f)).toArray ql (0,0))∧za3 W'.heap B s' (Ls++(jk (zcn S (m+1)) (kids (S.take (i+1)) p)).1) ∧
   Ext (W7.heap.size :: xw x') w9.heap W'.heap∧(∀ c ∈ xw s',c ∈ xw x' ∨ w9.heap.size≤c)) ?_ ?_
  ·refine Bl.zdh (i:=i) zbg (by omega) hL9.cells hll hget rfl fun b2 o2 c2 T2 fr2 _ hb2 hsz2 hc2 _=>?_
   simp only [jr]
   refine jh (s:=.bool) (t:=f.dir) rfl hb2 (hc2 1 (by omega)) ?_
   cases hfd:f.dir with
   | true =>
    refine zab rfl ?_
    refine zcd rfl hb9 (by simp [zax]) fun w10 hw10=>?_
    have hx10:Ext [W7.heap.size] w9.heap w10.heap:=by rw [hw10];exact Ext.set _ (by simp)
    have hb10:w10.heap[W7.heap.size]?=some (.cells (zfk ⟨zgj (nm f),3,List.replicate 32 0⟩).toArray ql (0,0)):=by rw [hw10,← qck];exact qw hb9
    have tag10:∀ m ∈ [W7.heap.size],∀ c T fr,w9.heap[m]?=some (.cells c T fr)→T=ql:=by
     intro m hm c T fr hc
     simp at hm;subst hm
     rw [hb9] at hc
     simp only [Option.some.injEq,Obj.cells.injEq] at hc
     exact hc.2.1.symm
    have hB10:=hBx9.keep hx10 (fun m hm c T fr hc=>by rw [tag10 m hm c T fr hc];exact ⟨by decide,by decide⟩)
    have s10:=hx10.1
    have hL10:=hL9.ext hx10 (fun b hb h=>by simp at h;subst h;have:=(hLlt _ hb).1;omega)
    have hm10:=(hm5.ext hx79 (by simp)).ext hx10 (fun b hb h=>by simp at h;subst h;have:=(za9 hm5 _ hb).1;omega)
    have hlen2:(Ls++(jk (zcn S (m+1)) (kids (S.take i) p)).1).length+(zcn S (m+1) (nm f)).1.length≤500000000:=by
     have h:=hpre'
     rw [hstep] at h
     simp only [zh8,hfd,if_true,List.length_append] at h
     simp only [List.length_append]
     omega
    refine zl (ih rfl hB10 (by omega) hL10 hm10 (by omega) h8 hlen2) ?_
    rintro e w11 ⟨x2,rfl,hB11,hx11,hs11⟩
    refine ⟨(x2,arr (zcn S (m+1) (nm f)).2),rfl,?_⟩
    refine qie zf7 rfl fun w12 hw12=>?_
    have hx12:Ext [] w11.heap w12.heap:=by rw [hw12];exact .push _
    have hd12:w12.heap[w11.heap.size]?=some (.cells (byteCells (zcn S (m+1) (nm f)).2).toArray zf (0,0)):=by rw [hw12];exact zn
    refine je rfl hd12 (by simp [zf7]) ?_
    have hbx':W7.heap.size ∉ xw x':=fun h=>by have:=(x'lt _ h).1;omega
    have hb12:=hx12.get (hx11.get hb10 hbx') (by simp)
    refine stD zf7 rfl hb12 (by simp [zax]) fun w13 hw13=>?_
    rw [z4l zf7] at hw13
    have hx13:Ext [W7.heap.size] w12.heap w13.heap:=by rw [hw13];exact Ext.set _ (by simp)
    have hit:zif (zcn S (m+1)) f=⟨zgj (nm f),3,(zcn S (m+1) (nm f)).2⟩:=by unfold zif;rw [hfd];rfl
    refine ⟨(zcn S (m+1) (nm f)).2,by rw [hit];simp,by rw [hw13,hit];exact qw hb12,?_,?_,fun c hc=>?_⟩
    ·have hB13:=(hB11.ext hx12 (by simp)).keep hx13 (fun m' hm c T fr hc=>by
      simp at hm;subst hm
      rw [hb12] at hc
      simp only [Option.some.injEq,Obj.cells.injEq] at hc
      rw [← hc.2.1];exact ⟨by decide,by decide⟩)
     rw [hstep]
     simp only [zh8,hfd,if_true]
     rw [← List.append_assoc];exact hB13
    ·exact ((hx10.mono (by simp)).trans (hx11.mono fun c hc=>by simp [hc])).trans ((hx12.mono (by simp)).trans (hx13.mono (by simp)))
    ·rcases hs11 c hc with h | h
     ·exact .inl h
     ·right;omega
   | false =>
    refine jl rfl ?_
    refine Bl.zdh (i:=i) zbg (by omega) hL9.cells hll hget rfl fun b3 o3 c3 T3 fr3 _ hb3 hsz3 hc3 _=>?_
    simp only [jr]
    refine jh (s:=.str) (t:=strOf f.data) rfl hb3 (hc3 2 (by omega)) ?_
    have hlen2:(Ls++(jk (zcn S (m+1)) (kids (S.take i) p)).1).length≤536870912:=by simp only [List.length_append];omega
    refine zl (qln rfl hBx9 (by omega) hlen2 (by omega)) ?_
    rintro e w11 ⟨x2,rfl,hB11,hx11,hs11⟩
    refine ⟨(x2,arr (zeh f.data)),rfl,?_⟩
    have hfs:(zeh f.data).length=32:=zaf
    refine qie hfs rfl fun w12 hw12=>?_
    have hx12:Ext [] w11.heap w12.heap:=by rw [hw12];exact .push _
    have hd12:w12.heap[w11.heap.size]?=some (.cells (byteCells (zeh f.data)).toArray zf (0,0)):=by rw [hw12];exact zn
    refine je rfl hd12 (by simp [hfs]) ?_
    have hbx':W7.heap.size ∉ xw x':=fun h=>by have:=(x'lt _ h).1;omega
    have hb12:=hx12.get (hx11.get hb9 hbx') (by simp)
    refine stD hfs rfl hb12 (by simp [zax]) fun w13 hw13=>?_
    rw [z4l hfs] at hw13
    have hx13:Ext [W7.heap.size] w12.heap w13.heap:=by rw [hw13];exact Ext.set _ (by simp)
    have hit:zif (zcn S (m+1)) f=⟨zgj (nm f),2,zeh f.data⟩:=by unfold zif;rw [hfd];rfl
    refine ⟨zeh f.data,by rw [hit];simp,by rw [hw13,hit];exact qw hb12,?_,?_,fun c hc=>?_⟩
    ·have hB13:=(hB11.ext hx12 (by simp)).keep hx13 (fun m' hm c T fr hc=>by
      simp at hm;subst hm
      rw [hb12] at hc
      simp only [Option.some.injEq,Obj.cells.injEq] at hc
      rw [← hc.2.1];exact ⟨by decide,by decide⟩)
     rw [hstep]
     simp only [zh8,hfd,Bool.false_eq_true,if_false]
     rw [← List.append_assoc];exact hB13
    ·exact (hx11.mono fun c hc=>by simp [hc]).trans ((hx12.mono (by simp)).trans (hx13.mono (by simp)))
    ·rcases hs11 c hc with h | h
     ·exact .inl h
     ·right;omega
  rintro x2 W19 ⟨s32,hit,hb19,hB19,hx19,hs19⟩
  have hni:w1.heap.size ∉ W7.heap.size :: xw x':=fun h=>by
   rcases List.mem_cons.1 h with h | h
   ·omega
   ·exact hHx' (by omega) (by omega) h
  have hn19:=hx19.get (hx9.get h3 (by simp)) hni
  refine jh (s:=.slc) (t:=xi) rfl hn19 rfl ?_
  refine je rfl hb19 (by simp [zax]) ?_
  have hm19:Mine W19.heap w3.heap.size ql 34 xi ((jk (zcn S (m+1)) (kids (S.take i) p)).2.flatMap zfk):=(h6.ext hx9 (by simp)).ext hx19 (fun b hb h=>by
   rcases List.mem_cons.1 h with h | h
   ·have:=(za9 h6 b hb).1;omega
   ·exact h4.row h6 (by decide) b hb h)
  have s19:=hx19.1
  have hkl2:=zt7 (S:=S) (p:=p) (i:=i)
  refine qgr (i:=zif (zcn S (m+1)) f) rfl hm19 (by omega) (by rw [qaq];omega) fun xi2 w21 hm21 hx21 hs21=>?_
  have hn21:=hx21.get hn19 (fun h=>by have:=jc h6 _ h;omega)
  refine zcd rfl hn21 (by simp [zdu]) fun w22 hw22=>?_
  have hx22:Ext [w1.heap.size] w21.heap w22.heap:=by rw [hw22];exact Ext.set _ (by simp)
  have s21:=hx21.1
  have s22:=hx22.1
  have hacc2:(jk (zcn S (m+1)) (kids (S.take (i+1)) p)).2=(jk (zcn S (m+1)) (kids (S.take i) p)).2++[zif (zcn S (m+1)) f]:=by
   rw [hkt,zhk,zhk,List.map_append];rfl
  refine ⟨xi2,?_,by omega,?_,?_,?_,fun c hc=>?_,?_⟩
  ·have a1:Ext (xw x) H w9.heap:=h1.trans (hx9.mono (by simp))
   have a2:Ext (xw x) H W19.heap:=a1.own hx19 (fun c hc hlt=>by
    rcases List.mem_cons.1 hc with h | h
    ·omega
    ·rcases h5 c h with h | h
     ·exact h
     ·omega)
   have a3:Ext (xw x) H w21.heap:=a2.own hx21 (fun c hc hlt=>by have:=jc h6 c hc;omega)
   exact a3.own hx22 (fun c hc hlt=>by simp at hc;omega)
  ·rw [hw22,hacc2];exact qw hn21
  ·have hni2:H.size ∉ W7.heap.size :: xw x':=fun h=>by
    rcases List.mem_cons.1 h with h | h
    ·omega
    ·exact hHx' (by omega) (by omega) h
   exact hx22.get (hx21.get (hx19.get (hx9.get h3d (by simp)) hni2) (fun h=>by have:=jc h6 _ h;omega)) (by simp;omega)
  ·have hB21:=hB19.keep hx21 (fun m' hm c T fr hc=>by
    rcases hm19 with ⟨h,_⟩ | ⟨b',c2,hx1',_,hg,_⟩
    ·rw [h] at hm;simp [xw] at hm
    ·simp [xw,hx1'] at hm;subst hm
     rw [hc] at hg
     simp only [Option.some.injEq,Obj.cells.injEq] at hg
     rw [hg.2.1];exact ⟨by decide,by decide⟩)
   exact hB21.keep hx22 (fun m' hm c T fr hc=>by
    simp at hm;subst hm
    rw [hn21] at hc
    simp only [Option.some.injEq,Obj.cells.injEq] at hc
    rw [← hc.2.1];exact ⟨by decide,by decide⟩)
  ·rcases hs19 c hc with h | h
   ·exact h5 c h
   ·right;omega
  ·rw [hacc2]
   exact hm21.ext hx22 (fun b hb h=>by simp at h;subst h;have:=jc hm21 _ hb;omega)
 ·obtain rfl:i=S.length:=by simp only at hge;omega
  rw [List.take_length] at h3 h4 h6 hpre
  have hkm:∀ f ∈ kids S p,nm f ≠ []∧(nm f).dropLast=p:=fun f hf=>(zf2 hf).2
  have hsm:=zx4 (rec:=zcn S n) (fun f hf=>(hkm f hf).1) (show (kids S p).length≤65536 by have h:=zt7 (S:=S) (p:=p) (i:=S.length);rw [List.take_length] at h;omega)
  have h32:=qhx (S:=S) hn hkm
  refine je rfl h3 rfl ?_
  have hli:xi.2.1=(jk (zcn S n) (kids S p)).2.length:=by
   have:=h6.len
   rw [qg zfk zax] at this
   omega
  have hNW:NodW W.heap (zdr (jk (zcn S n) (kids S p)).2) (none,0,0) xi:=⟨.inl rfl,rfl,h6.cells,hli,by simp [zdr],h32⟩
  refine zl (zv4 rfl hNW hsm) ?_
  rintro e w5 ⟨y,rfl,hm5,hx5⟩
  refine ⟨y,rfl,?_⟩
  have hB5:=h4.ext hx5 (by simp)
  have s5:=hx5.1
  have hel:=z4k hsm h32
  refine zw8 rfl hB5 (by omega) (hm5.mono (by omega)) (fun b hb h=>by have:=jc hm5 b hb;have:=(x'lt b h).1;omega) (by simp only [List.length_append];omega) fun x7 w7 hB7 hx7 hs7=>?_
  have hx07:Ext (xw x') W.heap w7.heap:=(hx5.mono (by simp)).trans hx7
  have hm7:=hm5.ext hx7 (fun b hb h=>by have:=jc hm5 b hb;have:=(x'lt b h).1;omega)
  have hyl:y.2.1=(zjy (zdr (jk (zcn S n) (kids S p)).2)).length:=by have:=hm5.len;simp at this;omega
  refine zl (Bl.zus rfl hm7.cells hyl (by omega)) ?_
  rintro e w9 ⟨rfl,hx9⟩
  refine ⟨arr (zcn S (n+1) p).2,rfl,?_⟩
  have hd9:=hx9.get (hx07.get h3d (hHx' (by omega) (by omega))) (by simp)
  refine z9j zf7 rfl hd9 zcD fun w10 hw10=>?_
  have hx10:Ext [H.size] w9.heap w10.heap:=by rw [hw10];exact Ext.set _ (by simp)
  have hd10:w10.heap[H.size]?=some (.cells (byteCells (zcn S (n+1) p).2).toArray zf (0,0)):=by rw [hw10];exact qw hd9
  refine je rfl hd10 (by simp [zf7]) ?_
  have hB10:=(hB7.ext hx9 (by simp)).keep hx10 (fun m hm c T fr hc=>by
   simp at hm;subst hm
   rw [hc] at hd9
   simp only [Option.some.injEq,Obj.cells.injEq] at hd9
   rw [hd9.2.1];exact ⟨by decide,by decide⟩)
  refine ⟨x7,rfl,?_,?_,fun c hc=>?_⟩
  ·rw [List.append_assoc] at hB10;exact hB10
  ·have a1:Ext (xw x) H w7.heap:=h1.own hx07 (fun c hc hlt=>by
    rcases h5 c hc with h | h
    ·exact h
    ·omega)
   exact (a1.trans (hx9.mono (by simp))).own hx10 (fun c hc hlt=>by simp at hc;omega)
  ·rcases hs7 c hc with h | h
   ·rcases h5 c h with h | h
    ·exact .inl h
    ·right;omega
   ·right;omega
structure ME where
 hdr:Option Addr × Nat × Nat
 f:Fil
def zjx (m:ME):List Value:=[zcr m.hdr,.string (strOf m.f.path),.bool m.f.dir,.string (strOf m.f.data)]
theorem zil (m:ME):(zjx m).length=4:=rfl
theorem z5p {m:ME}:zcz (zjx m):=by
 intro v hv
 simp only [zjx,List.mem_cons,List.not_mem_nil,or_false] at hv
 rcases hv with rfl | rfl | rfl | rfl <;> rfl
def zq9 (H:Heap) (m:ME):Prop:=Mine H 0 qc 1 m.hdr (strRow (nm m.f))
theorem qpb:(zc P zy).size=4:=by kernel_rfl
theorem qpn:P.cellsOf zy=4:=by kernel_rfl
theorem qme {w:World} {H:Heap} (m:ME) (hw:w.heap=H) {K:Nat→World→Prop} (hK:∀ w',w'.heap=H.push (.cells (zjx m).toArray zy (0,0))→K H.size w') :
  zbn (zc P zy) zy w fun b w1=>zby P (storeVar zy (⟨b,0,none⟩:Addr) (.agg (zjx m).toArray)) w1 fun w2=>K b w2 :=
 qgq (v:=.agg (zjx m).toArray) qpn qpb (by simp [Value.cells,zjx]) (by simpa [Value.cells] using z5p) hw hK
theorem Mine.keep {H H':Heap} {B:Nat} {T:TypeId} {sz:Nat} {x:Option Addr × Nat × Nat} {vs:List Value} {M:List Nat} (h:Mine H B T sz x vs) (hx:Ext M H H') (hM:∀ m ∈ M,∀ c fr,H[m]?=some (.cells c T fr)→False):Go.Fw.Mine H' B T sz x vs :=
 Go.Fw.Mine.ext h hx fun b hb hm=>by
  rcases h with ⟨rfl,_⟩ | ⟨b1,c1,hx1,_,hg1,_⟩
  ·simp [xw] at hb
  ·simp [xw,hx1] at hb;subst hb
   exact hM _ hm _ _ hg1
def keyS (L:List UInt8):Value:=.string (strOf L)
theorem qk3:KeyOk P qc (List UInt8) (fun _=>True) keyS:=KeyOk.str z0e
theorem uME:P.underlying jq=some (.map qc zar):=by kernel_rfl
theorem zME (w:World):(zeroValue zar).run P w=.ok (.slice none 0 0) w:=by kernel_rfl
abbrev KM:=ML (List UInt8) ((Option Addr × Nat × Nat) × List ME)
def evK (v:(Option Addr × Nat × Nat) × List ME):Value:=zcr v.1
def qhs (H:Heap) (mk:Nat) (S:List Fil):Prop:=∃ (M:KM) (clk:Nat),H[mk]?=some (.map (ents keyS (vl evK M)) clk)∧MOk (fun _=>True) M clk ∧
 ∀ p,okP p→match zcj M (vw p) with
  | none=>kids S p=[]
  | some v=>v.2.map (·.f)=kids S p∧Mine H 0 zy 4 v.1 (v.2.flatMap zjx)∧∀ m ∈ v.2,zq9 H m
theorem qhs.keep {H H':Heap} {mk:Nat} {S:List Fil} {M:List Nat} (h:qhs H mk S) (hx:Ext M H H') (hM:∀ m ∈ M,m < H.size→∃ c T fr,H[m]?=some (.cells c T fr)∧T ≠ zy∧T ≠ qc):qhs H' mk S:=by
 obtain ⟨K,clk,h1,h2,h3⟩:=h
 refine ⟨K,clk,hx.get h1 fun hm=>?_,h2,fun p hp=>?_⟩
 ·obtain ⟨c,T,fr,hc,_⟩:=hM _ hm (lt_of_get h1)
  rw [h1] at hc;cases hc
 ·have:=h3 p hp
  cases hg:zcj K (vw p) with
  | none=>rw [hg] at this;exact this
  | some v =>
   rw [hg] at this
   obtain ⟨g1,g2,g3⟩:=this
   refine ⟨g1,Mine.keep g2 hx fun m hm c fr hc=>?_,fun m hm=>Mine.keep (g3 m hm) hx fun m hm c fr hc=>?_⟩
   ·obtain ⟨c',T,fr',hc',n1,n2⟩:=hM m hm (lt_of_get hc)
    rw [hc] at hc'
    simp only [Option.some.injEq,Obj.cells.injEq] at hc'
    exact n1 hc'.2.1.symm
   ·obtain ⟨c',T,fr',hc',n1,n2⟩:=hM m hm (lt_of_get hc)
    rw [hc] at hc'
    simp only [Option.some.injEq,Obj.cells.injEq] at hc'
    exact n2 hc'.2.1.symm
theorem z9v {κ ν:Type} [DecidableEq κ] {kt et mt:TypeId} {ok:κ→Prop} {enc:κ→Value} {ev:ν→Value} {w:World} {H:Heap} {m c:Nat} {l:ML κ ν} (K:KeyOk P kt κ ok enc) (hu:P.underlying mt=some (.map kt et)) {z:Value} (hz:∀ w,(zeroValue et).run P w=.ok z w) (hw:w.heap=H) (hm:H[m]?=some (.map (ents enc (vl ev l)) c)) (hl:MOk ok l c) {k:κ} (hk:ok k) :
  (Instr.lookup mt (.map (some m)) (enc k) false).run P w=.ok (((zcj l k).map ev).getD z) w:=by
 have hf:=K.find w k (ents enc (vl ev l)).toList (vl ev l) hk hl.vl.fine (by simp [ents])
 have hg:=zzw (l:=vl ev l) (k:=k)
 generalize (((vl ev l).findIdx? (fun x=>x.1 == k)).bind fun i=>((vl ev l)[i]?).map fun x=>(i,x.2.1))=r at hf hg
 simp only [Instr.lookup,Sem.run_bind,qx hu,Result.andThen_ok,qh4 hw hm (by intros;simp),Sem.run_pure,K.chk w k _ hk,hf]
 rw [← zv3,← hg]
 cases r with
 | none=>simp [hz]
 | some x=>simp
def zwr (bk bd bb:Nat):Value:=.func (.func zim) #[] #[.pointer (some ⟨bk,0,none⟩),.pointer (some ⟨bd,0,none⟩),.pointer (some ⟨bb,0,none⟩)]
structure DirSt (H:Heap) (bk bd bb mk B:Nat) (S:List Fil) (x:Option Addr × Nat × Nat) (Ls:List (List UInt8)):Prop where
 k:H[bk]?=some (.cells #[.map (some mk)] jq (0,0))
 d:H[bd]?=some (.cells #[zwr bk bd bb] zcs (0,0))
 b:H[bb]?=some (.cells #[zcr x] jg (0,0))
 kids:qhs H mk S
 blobs:za3 H B x Ls
 rounds:Bl.Rounds H
 r0:0 ≠ bb
theorem DirSt.keep {H H':Heap} {bk bd bb mk B:Nat} {S:List Fil} {x x':Option Addr × Nat × Nat} {Ls Ls':List (List UInt8)} {M:List Nat} (h:DirSt H bk bd bb mk B S x Ls) (hx:Ext M H H') (hB0:0 < B) (hM:∀ m ∈ M,m < H.size→m ≠ 0∧∃ c T fr,H[m]?=some (.cells c T fr)∧(T=jg ∨ T=zh ∨ T=ql ∨ T=zi ∨ T=zf))
  (hb:H'[bb]?=some (.cells #[zcr x'] jg (0,0))) (hB:za3 H' B x' Ls'):DirSt H' bk bd bb mk B S x' Ls':=by
 have no:∀ {b:Nat} {c:Array Value} {T:TypeId} {fr:Nat × Nat},H[b]?=some (.cells c T fr)→T ≠ jg→T ≠ zh→T ≠ ql→T ≠ zi→T ≠ zf→b ∉ M:=by
  intro b c T fr hc n1 n2 n3 n4 n5 hm
  obtain ⟨_,c',T',fr',hc',ht⟩:=hM b hm (lt_of_get hc)
  rw [hc] at hc'
  simp only [Option.some.injEq,Obj.cells.injEq] at hc'
  rcases ht with h | h | h | h | h <;> rw [← hc'.2.1] at h
  ·exact n1 h
  ·exact n2 h
  ·exact n3 h
  ·exact n4 h
  ·exact n5 h
 refine ⟨hx.get h.k (no h.k (by decide) (by decide) (by decide) (by decide) (by decide)),hx.get h.d (no h.d (by decide) (by decide) (by decide) (by decide) (by decide)),hb,h.kids.keep hx fun m hm hlt=>?_,hB,h.rounds.ext hx fun h0=>?_,h.r0⟩
 ·obtain ⟨_,c,T,fr,hc,ht⟩:=hM m hm hlt
  refine ⟨c,T,fr,hc,?_,?_⟩ <;> rcases ht with rfl | rfl | rfl | rfl | rfl <;> decide
 ·have hlt:0 < H.size:=by have:=lt_of_get h.k;omega
  exact (hM 0 h0 hlt).1 rfl
theorem qdi {rec:Path→List (List UInt8) × List UInt8} {K:List Fil} {i:Nat}:(jk rec (K.take i)).1.length≤(jk rec K).1.length:=by
 have h:=List.take_append_drop i K
 rw [zkq,zkq]
 conv=>rhs;rw [← h]
 rw [List.map_append,List.flatten_append,List.length_append]
 omega
set_option maxHeartbeats 64000000 in
theorem zxh (S:List Fil) (hd:∀ f ∈ S,f.data.length≤1024) (hSR:zul S) (h64:∀ p,(kids S p).length≤64):∀ (n:Nat) {w:World} {H:Heap} {bk bd bb mk B:Nat} {x:Option Addr × Nat × Nat} {Ls:List (List UInt8)} {p:Path},w.heap=H→DirSt H bk bd bb mk B S x Ls→0 < B→B≤H.size →
  okP p→p.length+n=9→Ls.length+(zcn S n p).1.length≤500000000 →
  qj P zim #[.string (strOf (vw p)),.pointer (some ⟨bk,0,none⟩),.pointer (some ⟨bd,0,none⟩),.pointer (some ⟨bb,0,none⟩)] w fun e w'=>∃ x',e=.returned (arr (zcn S n p).2)∧DirSt w'.heap bk bd bb mk B S x' (Ls++(zcn S n p).1)∧Ext (bb :: xw x) H w'.heap∧∀ c ∈ xw x',c ∈ xw x ∨ H.size≤c:=by
 intro n
 induction n with
 | zero =>
  intro w H bk bd bb mk B x Ls p _ _ _ _ hp hn _
  have:=hp.2
  omega
 | succ n ih =>
 intro w H bk bd bb mk B x Ls p hw hS hB0 hBs hp hn hlen
 obtain ⟨K,clk,g1,g2,g3⟩:=hS.kids
 have g3:=g3 p hp
 have hxlt:=hS.blobs.lt
 have hbl:=lt_of_get hS.b
 refine zxx ?_
 unfold zmt
 refine jv hw fun w1 hw1=>?_
 have hx1:Ext [] H w1.heap:=by rw [hw1];exact .push _
 have hd1:w1.heap[H.size]?=some (.cells (zc P zf) zf (0,0)):=by rw [hw1];exact zn
 refine qm (s:=.any) (.agg (zdu (zdr []) (none,0,0) (none,0,0)).toArray) (bN3 _) ?_
 refine qid (zdr []) _ _ rfl fun w3 hw3=>?_
 have hx3:Ext [] w1.heap w3.heap:=by rw [hw3];exact .push _
 have hn3:w3.heap[w1.heap.size]?=some (.cells (zdu (zdr []) (none,0,0) (none,0,0)).toArray zi (0,0)):=by rw [hw3];exact zn
 have hx03:=hx1.trans hx3
 have s1:H.size < w1.heap.size:=lt_of_get hd1
 have s3:w1.heap.size < w3.heap.size:=lt_of_get hn3
 have hd3:=hx3.get hd1 (by simp)
 simp only [xq]
 refine jh (s:=.map) (t:=some mk) rfl (hx03.get hS.k (by simp)) rfl ?_
 obtain ⟨r,hr1,hr2,hr3,hr4⟩:∃ r:(Option Addr × Nat × Nat) × List ME,((zcj K (vw p)).map evK).getD (.slice none 0 0)=zcr r.1∧r.2.map (·.f)=kids S p∧Mine H 0 zy 4 r.1 (r.2.flatMap zjx)∧∀ m ∈ r.2,zq9 H m:=by
  cases hg:zcj K (vw p) with
  | none=>rw [hg] at g3;exact ⟨((none,0,0),[]),rfl,g3.symm,.inl ⟨rfl,rfl⟩,by simp⟩
  | some v=>rw [hg] at g3;exact ⟨v,rfl,g3⟩
 have hlk:=z9v (w:=w3) (l:=K) qk3 uME zME rfl (hx03.get g1 (by simp)) g2 (k:=vw p) trivial
 rw [hr1] at hlk
 refine qm (s:=.slc) r.1 hlk ?_
 have hrl:r.1.2.1=r.2.length:=by have:=hr3.len;rw [qg zjx zil] at this;omega
 have hkl:r.2.length=(kids S p).length:=by rw [← hr2];simp
 have hk64:=h64 p
 have hkm:∀ f ∈ kids S p,nm f ≠ []∧(nm f).dropLast=p:=fun f hf=>(zf2 hf).2
 have htot:Ls.length+(jk (zcn S n) (kids S p)).1.length+1≤500000000:=by
  have:=hlen
  simp only [zcn,List.length_append,List.length_singleton] at this
  omega
 have hS3:DirSt w3.heap bk bd bb mk B S x Ls:=hS.keep hx03 hB0 (by simp) (hx03.get hS.b (by simp)) (hS.blobs.ext hx03 (by simp))
 refine jd (fun (s:Int) W=>∃ (i:Nat) (x' xi:Option Addr × Nat × Nat),s=(i:Int)∧i≤r.2.length∧Ext (bb :: xw x) H W.heap∧w3.heap.size≤W.heap.size∧W.heap[w1.heap.size]?=some (.cells (zdu (zdr (jk (zcn S n) ((kids S p).take i)).2) (none,0,0) xi).toArray zi (0,0)) ∧
   W.heap[H.size]?=some (.cells (zc P zf) zf (0,0))∧DirSt W.heap bk bd bb mk B S x' (Ls++(jk (zcn S n) ((kids S p).take i)).1)∧(∀ c ∈ xw x',c ∈ xw x ∨ w3.heap.size≤c)∧Mine W.heap w3.heap.size ql 34 xi ((jk (zcn S n) ((kids S p).take i)).2.flatMap zfk)) (fun s _=>(r.2.length - s).toNat)
  ⟨0,x,(none,0,0),rfl,Nat.zero_le _,hx03.mono (by simp),Nat.le_refl _,by simpa [jk] using hn3,hd3,by simpa [jk] using hS3,fun c hc=>.inl hc,.inl ⟨rfl,by simp [jk]⟩⟩ ?_
 rintro _ W ⟨i,x',xi,rfl,hi,h1,h1s,h3,h3d,h4,h5,h6⟩
 have hH2:=h1.1
 have x'lt:=h4.blobs.lt
 have hbbW:=lt_of_get h4.b
 have hHx':∀ {m:Nat},H.size≤m→m < w3.heap.size→m ∉ xw x':=fun h h' hm=>by
  rcases h5 _ hm with h2 | h2
  ·have:=(hxlt _ h2).1;omega
  ·omega
 have hold:∀ {T:TypeId} {sz:Nat} {y:Option Addr × Nat × Nat} {vs:List Value},Mine H 0 T sz y vs→T ≠ jg→T ≠ zh→Mine W.heap 0 T sz y vs:=by
  intro T sz y vs hm n1 n2
  refine Mine.keep hm h1 fun m hmm c fr hc=>?_
  rcases List.mem_cons.1 hmm with rfl | hmm
  ·rw [hS.b] at hc
   simp only [Option.some.injEq,Obj.cells.injEq] at hc
   exact n1 hc.2.1.symm
  ·obtain ⟨ys,q1,_⟩:=hS.blobs
   rcases q1 with ⟨h,_⟩ | ⟨b',c2,hx1',_,hg,_⟩
   ·rw [h] at hmm;simp [xw] at hmm
   ·simp [xw,hx1'] at hmm;subst hmm
    rw [hc] at hg
    simp only [Option.some.injEq,Obj.cells.injEq] at hg
    exact n2 hg.2.1
 refine zq (fun hlt=>?_) (fun hge=>?_)
 ·have hil:i < r.2.length:=by omega
  have hget:=List.getElem?_eq_getElem hil
  have hmem:r.2[i] ∈ r.2:=List.getElem_mem hil
  have hfK:(kids S p)[i]?=some (r.2[i]).f:=by rw [← hr2,List.getElem?_map,hget];rfl
  generalize r.2[i]=me at hget hmem hfK
  have hfS:me.f ∈ kids S p:=by rw [← hr2];exact List.mem_map.2 ⟨me,hmem,rfl⟩
  have hdf:=hd me.f (zf2 hfS).1
  obtain ⟨hk1,hk2⟩:=hkm me.f hfS
  have hkl2:(nm me.f).length=p.length+1:=by
   have:=congrArg List.length (zr3 hk1)
   rw [hk2] at this;simpa using this
  have h8:=(zli me.f).2
  have hsmall:=(zli me.f).small
  obtain ⟨m,rfl⟩:∃ m,n=m+1:=⟨n - 1,by omega⟩
  have htk:(kids S p).take (i+1)=(kids S p).take i++[me.f]:=by rw [List.take_add_one,hfK];rfl
  have hstep:(jk (zcn S (m+1)) ((kids S p).take (i+1)))=zh8 (zcn S (m+1)) (jk (zcn S (m+1)) ((kids S p).take i)) me.f:=by rw [htk,zv9]
  have hpre:=qdi (rec:=zcn S (m+1)) (K:=kids S p) (i:=i)
  have hpre':=qdi (rec:=zcn S (m+1)) (K:=kids S p) (i:=i+1)
  refine joinP_of (fun _ W'=>∃ (x2 xi2:Option Addr × Nat × Nat),Ext (bb :: xw x) H W'.heap∧w3.heap.size≤W'.heap.size∧W'.heap[w1.heap.size]?=some (.cells (zdu (zdr (jk (zcn S (m+1)) ((kids S p).take (i+1))).2) (none,0,0) xi2).toArray zi (0,0)) ∧
   W'.heap[H.size]?=some (.cells (zc P zf) zf (0,0))∧DirSt W'.heap bk bd bb mk B S x2 (Ls++(jk (zcn S (m+1)) ((kids S p).take (i+1))).1)∧(∀ c ∈ xw x2,c ∈ xw x ∨ w3.heap.size≤c)∧Mine W'.heap w3.heap.size ql 34 xi2 ((jk (zcn S (m+1)) ((kids S p).take (i+1))).2.flatMap zfk)) ?_ ?_
  rotate_left
  ·rintro _ W' ⟨x2,xi2,g⟩
   refine xu ((i+1:Nat):Int) (by omega) (by omega) (by omega) ?_
   exact ⟨⟨i+1,x2,xi2,rfl,by omega,g⟩,by omega⟩
  refine zac ?_
  refine zjm (i:=i) zil (by omega) rfl (hold hr3 (by decide) (by decide)).cells hrl hget rfl ?_
  refine qme me rfl fun w6 hw6=>?_
  have hx6:Ext [] W.heap w6.heap:=by rw [hw6];exact .push _
  have he6:w6.heap[W.heap.size]?=some (.cells (zjx me).toArray zy (0,0)):=by rw [hw6];exact zn
  have hnm:=(hold (hr4 me hmem) (by decide) (by decide)).ext hx6 (by simp)
  have hnl:me.hdr.2.1=(nm me.f).length:=by have:=hnm.len;simp at this;omega
  refine jh (s:=.slc) (t:=me.hdr) rfl he6 rfl ?_
  refine jh (s:=.slc) (t:=me.hdr) rfl he6 rfl ?_
  refine zbu ((me.hdr.2.1 - 1:Nat):Int) (by omega) (by omega) (by omega) ?_
  refine z1o (xs:=nm me.f) (i:=(nm me.f).length - 1) rfl hnm.cells hnl (by omega) (by omega) ?_
  rw [last_at hk1]
  refine qm (s:=.any) (.agg (zfk ⟨zgj (nm me.f),2,List.replicate 32 0⟩).toArray) (by rw [zfk,Bl.zgx (by simp)];exact bT2 _ _) ?_
  refine qna ⟨zgj (nm me.f),2,List.replicate 32 0⟩ rfl fun w8 hw8=>?_
  have hx8:Ext [] w6.heap w8.heap:=by rw [hw8];exact .push _
  have hb8:w8.heap[w6.heap.size]?=some (.cells (zfk ⟨zgj (nm me.f),2,List.replicate 32 0⟩).toArray ql (0,0)):=by rw [hw8];exact zn
  have s6:W.heap.size < w6.heap.size:=lt_of_get he6
  have s8:w6.heap.size < w8.heap.size:=lt_of_get hb8
  have hx08:=hx6.trans hx8
  have he8:=hx8.get he6 (by simp)
  have hS8:DirSt w8.heap bk bd bb mk B S x' (Ls++(jk (zcn S (m+1)) ((kids S p).take i)).1):=h4.keep hx08 hB0 (by simp) (hx08.get h4.b (by simp)) (h4.blobs.ext hx08 (by simp))
  have hnm8:=hnm.ext hx8 (by simp)
  refine joinP_of (fun _ W'=>∃ x2:Option Addr × Nat × Nat,W'.heap[w6.heap.size]?=some (.cells (zfk (zif (zcn S (m+1)) me.f)).toArray ql (0,0))∧DirSt W'.heap bk bd bb mk B S x2 (Ls++(jk (zcn S (m+1)) ((kids S p).take (i+1))).1) ∧
   Ext (w6.heap.size :: bb :: xw x') w8.heap W'.heap∧(∀ c ∈ xw x2,c ∈ xw x' ∨ w8.heap.size≤c)) ?_ ?_
  ·refine jh (s:=.bool) (t:=me.f.dir) rfl he8 rfl ?_
   cases hfd:me.f.dir with
   | true =>
    refine zab rfl ?_
    refine jw rfl fun w9 hw9=>?_
    have hx9:Ext [] w8.heap w9.heap:=by rw [hw9];exact .refl _ _
    have hS9:DirSt w9.heap bk bd bb mk B S x' (Ls++(jk (zcn S (m+1)) ((kids S p).take i)).1):=by rw [hw9];exact hS8
    refine jh (s:=.any) (t:=zwr bk bd bb) rfl hS9.d rfl ?_
    refine jh (s:=.slc) (t:=me.hdr) rfl (hx9.get he8 (by simp)) rfl ?_
    refine zl (z16 rfl (hnm8.ext hx9 (by simp)).cells hnl (zgz hnm) (by omega)) ?_
    rintro e w10 ⟨rfl,hx10⟩
    refine ⟨strOf (vw (nm me.f)),rfl,?_⟩
    have hx8_10:=hx9.trans hx10
    have hS10:DirSt w10.heap bk bd bb mk B S x' (Ls++(jk (zcn S (m+1)) ((kids S p).take i)).1):=hS8.keep hx8_10 hB0 (by simp) (hx8_10.get hS8.b (by simp)) (hS8.blobs.ext hx8_10 (by simp))
    refine ⟨jh (s:=.any) (t:=zwr bk bd bb) rfl hS10.d rfl rfl,?_⟩
    have s10:=hx8_10.1
    have hlen2:(Ls++(jk (zcn S (m+1)) ((kids S p).take i)).1).length+(zcn S (m+1) (nm me.f)).1.length≤500000000:=by
     have h:=hpre'
     rw [hstep] at h
     simp only [zh8,hfd,if_true,List.length_append] at h
     simp only [List.length_append]
     omega
    refine zqp (args:=#[.string (strOf (vw (nm me.f)))]) ?_
    refine (ih (w:=w10) (p:=nm me.f) rfl hS10 hB0 (by omega) (zli me.f) (by omega) hlen2).mono ?_
    rintro e w11 ⟨x2,rfl,hS11,hx11,hs11⟩
    refine ⟨arr (zcn S (m+1) (nm me.f)).2,rfl,?_⟩
    have hbN:w6.heap.size ∉ bb :: xw x':=fun h=>by
     rcases List.mem_cons.1 h with h | h
     ·omega
     ·have:=(x'lt _ h).1;omega
    have hb11:=hx11.get (hx8_10.get hb8 (by simp)) hbN
    refine zcd rfl hb11 (by simp [zax]) fun w12 hw12=>?_
    have hx12:Ext [w6.heap.size] w11.heap w12.heap:=by rw [hw12];exact Ext.set _ (by simp)
    have hb12:w12.heap[w6.heap.size]?=some (.cells (zfk ⟨zgj (nm me.f),3,List.replicate 32 0⟩).toArray ql (0,0)):=by rw [hw12,← qck];exact qw hb11
    refine stD zf7 rfl hb12 (by simp [zax]) fun w13 hw13=>?_
    rw [z4l zf7] at hw13
    have hx13:Ext [w6.heap.size] w12.heap w13.heap:=by rw [hw13];exact Ext.set _ (by simp)
    have hit:zif (zcn S (m+1)) me.f=⟨zgj (nm me.f),3,(zcn S (m+1) (nm me.f)).2⟩:=by unfold zif;rw [hfd];rfl
    have hx1113:=hx12.trans hx13
    have hwne:w6.heap.size ≠ bb:=by omega
    refine ⟨x2,by rw [hw13,hit];exact qw hb12,?_,?_,fun c hc=>?_⟩
    ·have hacc:Ls++(jk (zcn S (m+1)) ((kids S p).take (i+1))).1=Ls++(jk (zcn S (m+1)) ((kids S p).take i)).1++(zcn S (m+1) (nm me.f)).1:=by
      rw [hstep]
      simp only [zh8,hfd,if_true,List.append_assoc]
     rw [hacc]
     have tag:∀ m' ∈ [w6.heap.size],m' < w11.heap.size→m' ≠ 0∧∃ c T fr,w11.heap[m']?=some (.cells c T fr)∧(T=jg ∨ T=zh ∨ T=ql ∨ T=zi ∨ T=zf):=by
      intro m' hm _
      simp at hm;subst hm
      exact ⟨by omega,_,_,_,hb11,.inr (.inr (.inl rfl))⟩
     refine hS11.keep hx1113 hB0 tag (hx1113.get hS11.b (by simp;omega)) (hS11.blobs.keep hx1113 fun m' hm c T fr hc=>?_)
     simp at hm;subst hm
     rw [hb11] at hc
     simp only [Option.some.injEq,Obj.cells.injEq] at hc
     rw [← hc.2.1];exact ⟨by decide,by decide⟩
    ·exact (hx8_10.mono (by simp)).trans ((hx11.mono fun c hc=>by simp at hc ⊢;right;exact hc).trans (hx1113.mono (by simp)))
    ·rcases hs11 c hc with h | h
     ·exact .inl h
     ·right;omega
   | false =>
    refine jl rfl ?_
    refine jh (s:=.slc) (t:=x') rfl hS8.b rfl ?_
    refine jh (s:=.str) (t:=strOf me.f.data) rfl he8 rfl ?_
    refine zl (ql7 rfl hS8.blobs hB0 (by omega) hS8.rounds (by simp only [List.length_append];omega) hdf) ?_
    rintro e w14 ⟨x2,rfl,hB14,hx14,hs14⟩
    refine ⟨(x2,arr (zeh me.f.data)),rfl,?_⟩
    have hbx':bb ∉ xw x':=by
     obtain ⟨ys,q1,_⟩:=hS8.blobs
     intro h
     rcases q1 with ⟨h',_⟩ | ⟨b',c2,hx1',_,hg,_⟩
     ·rw [h'] at h;simp [xw] at h
     ·simp [xw,hx1'] at h;subst h
      rw [hS8.b] at hg
      simp only [Option.some.injEq,Obj.cells.injEq] at hg
      exact absurd hg.2.1 (by decide)
    have hbb14:=hx14.get hS8.b hbx'
    refine zcd rfl hbb14 (by simp) fun w15 hw15=>?_
    have hx15:Ext [bb] w14.heap w15.heap:=by rw [hw15];exact Ext.set _ (by simp)
    have hbb15:w15.heap[bb]?=some (.cells #[zcr x2] jg (0,0)):=by rw [hw15];exact qw hbb14
    have hwne:w6.heap.size ≠ bb:=by omega
    have hb15:=hx15.get (hx14.get hb8 (fun h=>by have:=(x'lt _ h).1;omega)) (by simp;omega)
    have hfs:(zeh me.f.data).length=32:=zaf
    refine stD hfs rfl hb15 (by simp [zax]) fun w16 hw16=>?_
    rw [z4l hfs] at hw16
    have hx16:Ext [w6.heap.size] w15.heap w16.heap:=by rw [hw16];exact Ext.set _ (by simp)
    have hit:zif (zcn S (m+1)) me.f=⟨zgj (nm me.f),2,zeh me.f.data⟩:=by unfold zif;rw [hfd];rfl
    have hxAll:Ext (w6.heap.size :: bb :: xw x') w8.heap w16.heap:=(hx14.mono fun c hc=>by simp [hc]).trans ((hx15.mono (by simp)).trans (hx16.mono (by simp)))
    refine ⟨x2,by rw [hw16,hit];exact qw hb15,?_,hxAll,fun c hc=>?_⟩
    ·have hacc:Ls++(jk (zcn S (m+1)) ((kids S p).take (i+1))).1=Ls++(jk (zcn S (m+1)) ((kids S p).take i)).1++zhi me.f.data:=by
      rw [hstep]
      simp only [zh8,hfd,Bool.false_eq_true,if_false,List.append_assoc]
     rw [hacc]
     refine hS8.keep hxAll hB0 (fun m' hm hlt=>?_) (hx16.get hbb15 (by simp;omega)) ?_
     ·rcases List.mem_cons.1 hm with rfl | hm
      ·exact ⟨by omega,_,_,_,hb8,.inr (.inr (.inl rfl))⟩
      ·rcases List.mem_cons.1 hm with rfl | hm
       ·exact ⟨fun h=>hS8.r0 h.symm,_,_,_,hS8.b,.inl rfl⟩
       ·refine ⟨fun h=>by have:=hS8.blobs.ge _ hm;omega,?_⟩
        obtain ⟨ys,q1,_⟩:=hS8.blobs
        rcases q1 with ⟨h',_⟩ | ⟨b',c2,hx1',_,hg,_⟩
        ·rw [h'] at hm;simp [xw] at hm
        ·simp [xw,hx1'] at hm;subst hm
         exact ⟨_,_,_,hg,.inr (.inl rfl)⟩
     ·refine (hB14.keep hx15 fun m' hm c T fr hc=>?_).keep hx16 fun m' hm c T fr hc=>?_
      ·simp at hm;subst hm
       rw [hbb14] at hc
       simp only [Option.some.injEq,Obj.cells.injEq] at hc
       rw [← hc.2.1];exact ⟨by decide,by decide⟩
      ·simp at hm;subst hm
       rw [hb15] at hc
       simp only [Option.some.injEq,Obj.cells.injEq] at hc
       rw [← hc.2.1];exact ⟨by decide,by decide⟩
    ·rcases hs14 c hc with h | h
     ·exact .inl h
     ·right;omega
  rintro _ W17 ⟨x2,hb17,hS17,hx17,hs17⟩
  have hni:∀ {k:Nat},H.size≤k→k < w3.heap.size→k ∉ w6.heap.size :: bb :: xw x':=fun hk hk' h=>by
   rcases List.mem_cons.1 h with h | h
   ·omega
   ·rcases List.mem_cons.1 h with h | h
    ·omega
    ·exact hHx' hk hk' h
  have hn17:=hx17.get (hx08.get h3 (by simp)) (hni (by omega) (by omega))
  refine jh (s:=.slc) (t:=xi) rfl hn17 rfl ?_
  refine je rfl hb17 (by simp [zax]) ?_
  have hm17:Mine W17.heap w3.heap.size ql 34 xi ((jk (zcn S (m+1)) ((kids S p).take i)).2.flatMap zfk):=(h6.ext hx08 (by simp)).ext hx17 (fun b hb h=>by
   rcases List.mem_cons.1 h with h | h
   ·have:=(za9 h6 b hb).1;omega
   ·rcases List.mem_cons.1 h with h | h
    ·have:=jc h6 b hb;omega
    ·exact h4.blobs.row h6 (by decide) b hb h)
  have s17:=hx17.1
  refine qgr (i:=zif (zcn S (m+1)) me.f) rfl hm17 (by omega) (by rw [qaq];simp;omega) fun xi2 w19 hm19 hx19 hs19=>?_
  have hn19:=hx19.get hn17 (fun h=>by have:=jc h6 _ h;omega)
  refine zcd rfl hn19 (by simp [zdu]) fun w20 hw20=>?_
  have hx20:Ext [w1.heap.size] w19.heap w20.heap:=by rw [hw20];exact Ext.set _ (by simp)
  have s19:=hx19.1
  have s20:=hx20.1
  have hacc2:(jk (zcn S (m+1)) ((kids S p).take (i+1))).2=(jk (zcn S (m+1)) ((kids S p).take i)).2++[zif (zcn S (m+1)) me.f]:=by
   rw [htk,zhk,zhk,List.map_append];rfl
  have hx1720:Ext (w1.heap.size :: xw xi) W17.heap w20.heap:=(hx19.mono fun c hc=>by simp [hc]).trans (hx20.mono (by simp))
  have tag:∀ m' ∈ w1.heap.size :: xw xi,m' < W17.heap.size→m' ≠ 0∧∃ c T fr,W17.heap[m']?=some (.cells c T fr)∧(T=jg ∨ T=zh ∨ T=ql ∨ T=zi ∨ T=zf):=by
   intro m' hm _
   rcases List.mem_cons.1 hm with rfl | hm
   ·exact ⟨by omega,_,_,_,hn17,.inr (.inr (.inr (.inl rfl)))⟩
   ·refine ⟨fun h=>by have:=jc h6 _ hm;omega,?_⟩
    rcases hm17 with ⟨h',_⟩ | ⟨b',c2,hx1',_,hg,_⟩
    ·rw [h'] at hm;simp [xw] at hm
    ·simp [xw,hx1'] at hm;subst hm
     exact ⟨_,_,_,hg,.inr (.inr (.inl rfl))⟩
  have hbb20:=hx1720.get hS17.b (fun h=>by
   rcases List.mem_cons.1 h with h | h
   ·omega
   ·have:=jc h6 _ h;omega)
  refine ⟨x2,xi2,?_,by omega,?_,?_,?_,fun c hc=>?_,?_⟩
  ·have a1:Ext (bb :: xw x) H w8.heap:=h1.trans (hx08.mono (by simp))
   have a2:Ext (bb :: xw x) H W17.heap:=a1.own hx17 (fun c hc hlt=>by
    rcases List.mem_cons.1 hc with h | h
    ·omega
    ·rcases List.mem_cons.1 h with h | h
     ·simp [h]
     ·rcases h5 c h with h | h
      ·simp [h]
      ·omega)
   exact a2.own hx1720 (fun c hc hlt=>by
    rcases List.mem_cons.1 hc with h | h
    ·omega
    ·have:=jc h6 c h;omega)
  ·rw [hw20,hacc2];exact qw hn19
  ·exact hx1720.get (hx17.get (hx08.get h3d (by simp)) (hni (Nat.le_refl _) (by omega))) (fun h=>by
    rcases List.mem_cons.1 h with h | h
    ·omega
    ·have:=jc h6 _ h;omega)
  ·refine hS17.keep hx1720 hB0 tag hbb20 (hS17.blobs.keep hx1720 fun m' hm c T fr hc=>?_)
   obtain ⟨_,c',T',fr',hc',ht⟩:=tag m' hm (lt_of_get hc)
   rcases List.mem_cons.1 hm with rfl | hm
   ·rw [hn17] at hc
    simp only [Option.some.injEq,Obj.cells.injEq] at hc
    rw [← hc.2.1];exact ⟨by decide,by decide⟩
   ·rcases hm17 with ⟨h',_⟩ | ⟨b',c2,hx1',_,hg,_⟩
    ·rw [h'] at hm;simp [xw] at hm
    ·simp [xw,hx1'] at hm;subst hm
     rw [hc] at hg
     simp only [Option.some.injEq,Obj.cells.injEq] at hg
     rw [hg.2.1];exact ⟨by decide,by decide⟩
  ·rcases hs17 c hc with h | h
   ·exact h5 c h
   ·right;omega
  ·rw [hacc2]
   exact hm19.ext hx20 (fun b hb h=>by simp at h;subst h;have:=jc hm19 _ hb;omega)
 ·obtain rfl:i=r.2.length:=by omega
  have htk:(kids S p).take r.2.length=kids S p:=by rw [hkl,List.take_length]
  rw [htk] at h3 h4 h6
  have h32:=qhx (S:=S) hn hkm
  have hsm:=zx4 (rec:=zcn S n) (fun f hf=>(hkm f hf).1) (show (kids S p).length≤65536 by omega)
  have hel:=z4k hsm h32
  have hright:zc4 (zdr (jk (zcn S n) (kids S p)).2)=true:=by rw [zhk];exact qf0 hSR hk64
  refine jv rfl fun w23 hw23=>?_
  have hx23:Ext [] W.heap w23.heap:=by rw [hw23];exact .push _
  have hd23:w23.heap[W.heap.size]?=some (.cells (zc P zf) zf (0,0)):=by rw [hw23];exact zn
  have s23:W.heap.size < w23.heap.size:=lt_of_get hd23
  have hS23:DirSt w23.heap bk bd bb mk B S x' (Ls++(jk (zcn S n) (kids S p)).1):=h4.keep hx23 hB0 (by simp) (hx23.get h4.b (by simp)) (h4.blobs.ext hx23 (by simp))
  refine jh (s:=.slc) (t:=x') rfl hS23.b rfl ?_
  refine je rfl (hx23.get h3 (by simp)) rfl ?_
  have hli:xi.2.1=(jk (zcn S n) (kids S p)).2.length:=by
   have:=h6.len
   rw [qg zfk zax] at this
   omega
  have hNW:NodW w23.heap (zdr (jk (zcn S n) (kids S p)).2) (none,0,0) xi:=⟨.inl rfl,rfl,(h6.ext hx23 (by simp)).cells,hli,by simp [zdr],h32⟩
  refine zl (qh3 rfl hS23.blobs hB0 (by omega) hNW hright hS23.rounds (by simp only [List.length_append];omega) (by omega)) ?_
  rintro e w24 ⟨x2,rfl,hB24,hx24,hs24⟩
  refine ⟨(x2,arr (zcn S (n+1) p).2),rfl,?_⟩
  have hbx':bb ∉ xw x':=by
   obtain ⟨ys,q1,_⟩:=h4.blobs
   intro h
   rcases q1 with ⟨h',_⟩ | ⟨b',c2,hx1',_,hg,_⟩
   ·rw [h'] at h;simp [xw] at h
   ·simp [xw,hx1'] at h;subst h
    rw [h4.b] at hg
    simp only [Option.some.injEq,Obj.cells.injEq] at hg
    exact absurd hg.2.1 (by decide)
  have hbb24:=hx24.get hS23.b hbx'
  refine zcd rfl hbb24 (by simp) fun w25 hw25=>?_
  have hx25:Ext [bb] w24.heap w25.heap:=by rw [hw25];exact Ext.set _ (by simp)
  have hbb25:w25.heap[bb]?=some (.cells #[zcr x2] jg (0,0)):=by rw [hw25];exact qw hbb24
  have hd25:=hx25.get (hx24.get hd23 (fun h=>by have:=(x'lt _ h).1;omega)) (by simp;omega)
  refine z9j zf7 rfl hd25 zcD fun w26 hw26=>?_
  have hx26:Ext [W.heap.size] w25.heap w26.heap:=by rw [hw26];exact Ext.set _ (by simp)
  have hd26:w26.heap[W.heap.size]?=some (.cells (byteCells (zcn S (n+1) p).2).toArray zf (0,0)):=by rw [hw26];exact qw hd25
  refine je rfl hd26 (by simp [zf7]) ?_
  have hr26:=hx26.get (hx25.get (hx24.get (hx23.get h3d (by simp)) (hHx' (Nat.le_refl _) (by omega))) (by simp;omega)) (by simp;omega)
  refine z9j (k:=(zcn S (n+1) p).2) zf7 rfl hr26 zcD fun w27 hw27=>?_
  have hx27:Ext [H.size] w26.heap w27.heap:=by rw [hw27];exact Ext.set _ (by simp)
  have hr27:w27.heap[H.size]?=some (.cells (byteCells (zcn S (n+1) p).2).toArray zf (0,0)):=by rw [hw27];exact qw hr26
  refine je rfl hr27 (by simp [zf7]) ?_
  have hx2327:Ext (W.heap.size :: H.size :: bb :: xw x') w23.heap w27.heap:=(hx24.mono fun c hc=>by simp [hc]).trans ((hx25.mono (by simp)).trans ((hx26.mono (by simp)).trans (hx27.mono (by simp))))
  have hbb27:=hx27.get (hx26.get hbb25 (by simp;omega)) (by simp;omega)
  refine ⟨x2,rfl,?_,?_,fun c hc=>?_⟩
  ·refine hS23.keep hx2327 hB0 (fun m' hm hlt=>?_) hbb27 ?_
   ·simp only [List.mem_cons] at hm
    rcases hm with rfl | rfl | rfl | hm
    ·exact ⟨by omega,_,_,_,hd23,.inr (.inr (.inr (.inr rfl)))⟩
    ·exact ⟨by omega,_,_,_,hx23.get h3d (by simp),.inr (.inr (.inr (.inr rfl)))⟩
    ·exact ⟨fun h=>h4.r0 h.symm,_,_,_,hS23.b,.inl rfl⟩
    ·refine ⟨fun h=>by have:=h4.blobs.ge _ hm;omega,?_⟩
     obtain ⟨ys,q1,_⟩:=hS23.blobs
     rcases q1 with ⟨h',_⟩ | ⟨b',c2,hx1',_,hg,_⟩
     ·rw [h'] at hm;simp [xw] at hm
     ·simp [xw,hx1'] at hm;subst hm
      exact ⟨_,_,_,hg,.inr (.inl rfl)⟩
   ·have hB27:=((hB24.keep hx25 fun m' hm c T fr hc=>by
     simp at hm;subst hm
     rw [hbb24] at hc
     simp only [Option.some.injEq,Obj.cells.injEq] at hc
     rw [← hc.2.1];exact ⟨by decide,by decide⟩).keep hx26 fun m' hm c T fr hc=>by
     simp at hm;subst hm
     rw [hd25] at hc
     simp only [Option.some.injEq,Obj.cells.injEq] at hc
     rw [← hc.2.1];exact ⟨by decide,by decide⟩).keep hx27 fun m' hm c T fr hc=>by
     simp at hm;subst hm
     rw [hr26] at hc
     simp only [Option.some.injEq,Obj.cells.injEq] at hc
     rw [← hc.2.1];exact ⟨by decide,by decide⟩
    rw [List.append_assoc] at hB27
    exact hB27
  ·have a1:Ext (bb :: xw x) H w23.heap:=h1.trans (hx23.mono (by simp))
   exact a1.own hx2327 (fun c hc hlt=>by
    simp only [List.mem_cons] at hc
    rcases hc with h | h | h | h
    ·omega
    ·omega
    ·simp [h]
    ·rcases h5 c h with h | h
     ·simp [h]
     ·omega)
  ·rcases hs24 c hc with h | h
   ·rcases h5 c h with h | h
    ·exact .inl h
    ·right;omega
   ·right;omega
theorem zcF:(zc P zk).size=3:=by kernel_rfl
theorem szF:P.cellsOf zk=3:=by kernel_rfl
theorem qoc {w:World} {H:Heap} (f:Fil) (hw:w.heap=H) {K:Nat→World→Prop} (hK:∀ w',w'.heap=H.push (.cells (zbc f).toArray zk (0,0))→K H.size w') :
  zbn (zc P zk) zk w fun b w1=>zby P (storeVar zk (⟨b,0,none⟩:Addr) (.agg (zbc f).toArray)) w1 fun w2=>K b w2 :=
 qgq (v:=.agg (zbc f).toArray) szF zcF (by simp [Value.cells,zbc]) (by simpa [Value.cells] using ztj) hw hK
def qmi (f:Fil):Bool:=decide ((zbo f.path).2 ≠ 0)
def zhd (L:List Fil):Int:=match L.find? qmi with | some f=>(zbo f.path).2 | none=>0
def qai (f:Fil):Bool:=f.dir && !decide (f.data=[])
def qej (f:Fil):Bool:=decide (1024 < f.data.length)
def zav (L:List Fil):Int:=if zhd L ≠ 0 then zhd L else if L.any qai then 1 else if L.any qej then 134 else 0
theorem zy2 {L:List Fil} {i:Nat} {f:Fil} (hi:L[i]?=some f) (hf:(zbo f.path).2 ≠ 0) (hb:∀ g ∈ L.take i,(zbo g.path).2=0):zhd L=(zbo f.path).2:=by
 have hil:=(List.getElem?_eq_some_iff.1 hi).1
 have e:L=L.take i++f :: L.drop (i+1):=by
  conv=>lhs;rw [← List.take_append_drop i L]
  rw [List.drop_eq_getElem_cons hil,(List.getElem?_eq_some_iff.1 hi).2]
 unfold zhd
 rw [e,List.find?_append,List.find?_eq_none.2 (fun g hg=>by simp [qmi,hb g hg]),Option.none_or,List.find?_cons]
 have:qmi f=true:=by simp [qmi,hf]
 rw [this]
theorem ztp {L:List Fil} (hb:∀ g ∈ L,(zbo g.path).2=0):zhd L=0:=by
 unfold zhd
 rw [List.find?_eq_none.2 (fun g hg=>by simp [qmi,hb g hg])]
theorem zds {L:List Fil} {i:Nat} {f:Fil} (hi:L[i]?=some f) {q:Fil→Prop} (h:∀ g ∈ L.take i,q g) (hf:q f):∀ g ∈ L.take (i+1),q g:=by
 intro g hg
 rw [List.take_add_one,hi] at hg
 rcases List.mem_append.1 hg with hg | hg
 ·exact h g hg
 ·simp at hg;rw [hg];exact hf
theorem qgh {w:World} {H:Heap} {a:Option Addr} {n nc F:Nat} {L:List Fil} {g:Fil→Bool} (hw:w.heap=H) (hL:Cells H a (L.flatMap zbc)) (hn:n=L.length) (hm:L.length≤1099511627776)
  (hg:∀ (f:Fil) (w:World),qj P F #[.agg (zbc f).toArray] w fun e w'=>e=.returned (.bool (g f))∧Ext [] w.heap w'.heap) :
  qj P zam #[.slice a n nc,.func (.func F) #[] #[]] w fun e w'=>e=.returned (.bool (L.any g))∧Ext [] H w'.heap:=by
 subst hn
 refine zem ?_
 unfold za4
 have h:qj P zbd #[.slice a L.length nc,.func (.func F) #[] #[]] w fun e w'=>∃ k:Int,e=.returned (.int .i64 k)∧(0≤k ↔ L.any g=true)∧Ext [] H w'.heap:=by
  refine ze8 ?_
  unfold zbe
  refine jd (fun (s:Int) W=>∃ i:Nat,s=(i:Int)∧i≤L.length∧(∀ f ∈ L.take i,g f=false)∧Ext [] H W.heap) (fun s _=>(L.length - s).toNat) ⟨0,rfl,Nat.zero_le _,by simp,by rw [hw];exact .refl _ _⟩ ?_
  rintro _ W ⟨i,rfl,hi,hno,hxW⟩
  refine zq (fun hlt=>?_) (fun hge=>?_)
  ·have hil:i < L.length:=by omega
   have hget:=List.getElem?_eq_getElem hil
   have hmem:L[i] ∈ L:=List.getElem_mem hil
   generalize L[i]=f at hget hmem
   refine zjm (i:=i) zbg (by omega) rfl (hL.ext hxW (by simp)) rfl hget rfl ?_
   refine zqp (args:=#[.agg (zbc f).toArray]) (cap:=#[]) ?_
   refine (hg f W).mono ?_
   rintro e w2 ⟨rfl,hx2⟩
   refine ⟨g f,rfl,?_⟩
   cases hgf:g f with
   | true=>exact zab rfl ⟨_,rfl,⟨fun _=>List.any_eq_true.2 ⟨f,hmem,hgf⟩,fun _=>by omega⟩,hxW.trans hx2⟩
   | false =>
    refine jl rfl ?_
    refine xu ((i+1:Nat):Int) (by omega) (by omega) (by omega) ?_
    exact ⟨⟨i+1,rfl,by omega,zds (q:=fun f=>g f=false) hget hno hgf,hxW.trans hx2⟩,by omega⟩
  ·obtain rfl:i=L.length:=by omega
   rw [List.take_length] at hno
   refine ⟨_,rfl,⟨fun h=>by omega,fun h=>?_⟩,hxW⟩
   obtain ⟨f,hf,hgf⟩:=List.any_eq_true.1 h
   rw [hno f hf] at hgf;cases hgf
 refine zl h ?_
 rintro e w1 ⟨k,rfl,hk,hx⟩
 refine ⟨k,rfl,?_⟩
 refine ⟨?_,hx⟩
 congr 2
 rw [Bool.eq_iff_iff,← hk]
 simp
theorem qpy (f:Fil) (w:World):qj P zmh #[.agg (zbc f).toArray] w fun e w'=>e=.returned (.bool (qai f))∧Ext [] w.heap w'.heap:=by
 refine zyd ?_
 unfold zmj
 refine jv rfl fun w1 hw1=>?_
 have hx1:Ext [] w.heap w1.heap:=by rw [hw1];exact .push _
 have hb1:w1.heap[w.heap.size]?=some (.cells (zbc f).toArray zk (0,0)):=by rw [hw1];exact zn
 refine jh (s:=.bool) (t:=f.dir) rfl hb1 rfl ?_
 cases hd:f.dir with
 | false=>exact jl rfl ⟨by simp [qai,hd],hx1⟩
 | true =>
  refine zab rfl ?_
  refine jh (s:=.str) (t:=strOf f.data) rfl hb1 rfl ?_
  refine ⟨?_,hx1⟩
  congr 2
  rw [qai,hd,Bool.true_and]
  congr 1
  rw [Bool.eq_iff_iff,zjw,decide_eq_true_eq]
theorem qpw (f:Fil) (w:World):qj P zmi #[.agg (zbc f).toArray] w fun e w'=>e=.returned (.bool (qej f))∧Ext [] w.heap w'.heap:=by
 refine zzp ?_
 unfold zmq
 refine jv rfl fun w1 hw1=>?_
 have hx1:Ext [] w.heap w1.heap:=by rw [hw1];exact .push _
 have hb1:w1.heap[w.heap.size]?=some (.cells (zbc f).toArray zk (0,0)):=by rw [hw1];exact zn
 refine jh (s:=.str) (t:=strOf f.data) rfl hb1 rfl ?_
 refine ⟨?_,hx1⟩
 congr 2
 unfold qej
 rw [Bool.eq_iff_iff]
 simp
 omega
theorem uSE:P.underlying zar=some (.slice zy):=by kernel_rfl
theorem EEn:Elem P zy 4 64:=zn0 (z:=.agg (zjx ⟨(none,0,0),⟨[],false,[]⟩⟩).toArray) (by kernel_rfl) rfl
theorem bE (x:Option Addr × Nat × Nat) (p d:ByteArray) (b:Bool) (w:World):(Instr.build zy #[(0,.slice x.1 x.2.1 x.2.2),(1,.agg #[.string p,.bool b,.string d])]).run P w=.ok (.agg #[.slice x.1 x.2.1 x.2.2,.string p,.bool b,.string d]) w:=by kernel_rfl
theorem qgn {w:World} {H:Heap} {B:Nat} {x:Option Addr × Nat × Nat} {T:List ME} {i:ME} (hw:w.heap=H) (hm:Mine H B zy 4 x (T.flatMap zjx)) (hBs:B≤H.size) (hlen:T.length≤1073741824) {K:(Option Addr × Nat × Nat)→World→Prop}
  (hK:∀ x' w',Mine w'.heap B zy 4 x' ((T++[i]).flatMap zjx)→Ext (xw x) H w'.heap→(∀ c ∈ xw x',c ∈ xw x ∨ H.size≤c)→x'.2.1=T.length+1→K x' w') :
  zal P (Instr.buildSlice zar 1 #[(0,.agg (zjx i).toArray)]) .slc w fun (t27:(Option Addr × Nat × Nat)) w_13 =>
  zal P (Builtin.append_ #[zar,zar] zar #[(Value.slice x.1 x.2.1 x.2.2),(Value.slice t27.1 t27.2.1 t27.2.2)]) .slc w_13 K:=by
 have hlx:x.2.1=T.length:=by
  have:=hm.len
  rw [qg zjx zil] at this
  omega
 refine zad (s:=.slc) (some ⟨w.heap.size,0,none⟩,1,1) _ (zd0 EEn uSE (v:=.agg (zjx i).toArray) (by simp [Value.cells,zjx]) (by omega) (by omega)) ?_
 subst hw
 have hxp:Ext [] w.heap (w.heap.push (.cells (Value.agg (zjx i).toArray).cells zy)):=.push _
 refine zcq (bts:=64) (n:=1) (us:=zjx i) (H:=w.heap.push (.cells (Value.agg (zjx i).toArray).cells zy)) EEn (by omega) uSE (za5 uSE) rfl (hm.ext hxp (by simp)) (by simp;omega)
  (Src.slc rfl (.inr ⟨w.heap.size,0,_,_,_,rfl,zn,by simp [zfv],by simp [zfv,List.take_of_length_le]⟩) (by rw [zil])) z5p (by omega) ?_
 intro x' w4 hm4 hl4 hx4 hs4
 have hm4':Mine w4.heap B zy 4 x' ((T++[i]).flatMap zjx):=by rw [List.flatMap_append,List.flatMap_singleton];exact hm4
 refine hK x' w4 hm4' ((hxp.mono (by simp)).trans hx4) (fun c hc=>?_) ?_
 ·rcases hs4 c hc with h | h
  ·exact .inl h
  ·right;have:=hxp.1;omega
 ·have:=hm4'.len
  rw [qg zjx zil] at this
  simp at this;omega
set_option maxHeartbeats 4000000 in
theorem qio {w:World} {H:Heap} {a:Option Addr} {n nc:Nat} {L:List Fil} (hw:w.heap=H) (hL:Cells H a (L.flatMap zbc)) (hn:n=L.length) (hm:L.length≤65536) :
  qj P zpg #[.slice a n nc] w fun e w'=>∃ x,e=.returned (.tuple #[zcr x,.int .i64 (zav L)])∧Ext [] H w'.heap∧(zav L=0→∃ ms:List ME,ms.map (·.f)=L∧Mine w'.heap H.size zy 4 x (ms.flatMap zjx)∧∀ m ∈ ms,zq9 w'.heap m):=by
 subst hn
 refine z5m ?_
 unfold zqa
 refine jd (fun (s:(Option Addr × Nat × Nat) × Int) W=>∃ (i:Nat) (ms:List ME),s.2=(i:Int)∧i≤L.length∧(∀ f ∈ L.take i,(zbo f.path).2=0)∧Ext [] H W.heap∧ms.map (·.f)=L.take i∧Mine W.heap H.size zy 4 s.1 (ms.flatMap zjx)∧∀ m ∈ ms,zq9 W.heap m) (fun s _=>(L.length - s.2).toNat)
  ⟨0,[],rfl,Nat.zero_le _,by simp,by rw [hw];exact .refl _ _,by simp,.inl ⟨rfl,rfl⟩,by simp⟩ ?_
 rintro ⟨x,_⟩ W ⟨i,ms,rfl,hi,hok,hxW,hms,hmW,hnW⟩
 have hml:ms.length=i:=by have:=congrArg List.length hms;simp at this;omega
 refine zq (fun hlt=>?_) (fun hge=>?_)
 ·have hil:i < L.length:=by simp only at hlt;omega
  have hget:=List.getElem?_eq_getElem hil
  generalize L[i]=f at hget
  refine zjm (i:=i) zbg (by omega) rfl (hL.ext hxW (by simp)) rfl hget rfl ?_
  refine qoc f rfl fun w3 hw3=>?_
  have hx3:Ext [] W.heap w3.heap:=by rw [hw3];exact .push _
  have hb3:w3.heap[W.heap.size]?=some (.cells (zbc f).toArray zk (0,0)):=by rw [hw3];exact zn
  refine jh (s:=.str) (t:=strOf f.path) rfl hb3 rfl ?_
  refine zl (qk6 f.path rfl) ?_
  rintro e w4 ⟨y,rfl,hm4,hx4⟩
  refine ⟨(y,(zbo f.path).2),rfl,?_⟩
  have hx04:=hx3.trans hx4
  refine zb1 (fun hne=>?_) (fun hz=>?_)
  ·have hfb:=zy2 hget hne hok
   have hpc:zav L=(zbo f.path).2:=by unfold zav;rw [hfb,if_pos hne]
   exact ⟨(none,0,0),by rw [hpc];rfl,hxW.trans hx04,fun h=>absurd (by rw [← hpc,h]) hne⟩
  ·have hz:(zbo f.path).2=0:=hz
   refine je rfl (hx4.get hb3 (by simp)) rfl ?_
   refine qm (s:=.any) (.agg (zjx ⟨y,f⟩).toArray) (bE _ _ _ _ _) ?_
   have s04:=hx04.1
   have s0W:=hxW.1
   refine qgn (i:=⟨y,f⟩) rfl (hmW.ext hx04 (by simp)) (by omega) (by omega) fun x' w6 hm6 hx6 hs6 _=>?_
   have hx06:Ext [] H w6.heap:=zky (hxW.trans hx04) (hmW.ext hx04 (by simp)) (Nat.le_refl _) hx6
   refine xu ((i+1:Nat):Int) (by simp) (by omega) (by omega) ?_
   refine ⟨⟨i+1,ms++[⟨y,f⟩],rfl,by omega,zds (q:=fun f=>(zbo f.path).2=0) hget hok hz,hx06,?_,hm6,fun m hm=>?_⟩,by simp only;omega⟩
   ·rw [List.map_append,hms,List.take_add_one,hget];rfl
   ·have hxx:=hmW.ext hx04 (by simp)
    rcases List.mem_append.1 hm with hm | hm
    ·exact ((hnW m hm).ext hx04 (by simp)).ext hx6 (zge ((hnW m hm).ext hx04 (by simp)) hxx (by decide))
    ·simp only [List.mem_singleton] at hm
     subst hm
     exact (hm4.ext hx6 (zge hm4 hxx (by decide))).mono (Nat.zero_le _)
 ·obtain rfl:i=L.length:=by simp only at hge;omega
  rw [List.take_length] at hok hms
  have hfb:=ztp hok
  refine zl (qgh (g:=qai) rfl (hL.ext hxW (by simp)) rfl (by omega) qpy) ?_
  rintro e w7 ⟨rfl,hx7⟩
  refine ⟨L.any qai,rfl,?_⟩
  cases h1:L.any qai with
  | true =>
   have hpc:zav L=1:=by unfold zav;rw [hfb,h1];rfl
   exact zab rfl ⟨(none,0,0),by rw [hpc];rfl,hxW.trans hx7,fun h=>by rw [hpc] at h;cases h⟩
  | false =>
   refine jl rfl ?_
   refine zl (qgh (g:=qej) rfl (hL.ext (hxW.trans hx7) (by simp)) rfl (by omega) qpw) ?_
   rintro e w8 ⟨rfl,hx8⟩
   refine ⟨L.any qej,rfl,?_⟩
   cases h2:L.any qej with
   | true =>
    have hpc:zav L=134:=by unfold zav;rw [hfb,h1,h2];rfl
    exact zab rfl ⟨(none,0,0),by rw [hpc];rfl,(hxW.trans hx7).trans hx8,fun h=>by rw [hpc] at h;cases h⟩
   | false =>
    have hpc:zav L=0:=by unfold zav;rw [hfb,h1,h2];rfl
    have hx78:=hx7.trans hx8
    exact jl rfl ⟨x,by rw [hpc];rfl,hxW.trans hx78,fun _=>⟨ms,hms,hmW.ext hx78 (by simp),fun m hm=>(hnW m hm).ext hx78 (by simp)⟩⟩
end Go.Proofs.YtbmegmbnlajbbaaGreatDoor
namespace Go.Fw
open Go Go.Proofs Go.Shelf Go.RowKit Go.Lib Go.Sort
variable {P:Program} {ρ:Ren} {α:Type} [Inhabited α]
theorem qlm (L:SlLaysF0.n6 P ρ) {k:Nat} (aE:∀ w,(isAgg (ρ.t 24)).run P w=.ok true w) (zE:∀ w,(Go.sizeOf (ρ.t 24)).run P w=.ok k w) (enc:α→List Value) (hk:∀ x,(enc x).length=k) (h0:0 < k)
  (h1:∀ x,∀ v ∈ enc x,v.oneCell'=true) (cf:α→α→Int) (hO:SWO (ltOf cf)) {g:Nat} (eg:∀ args w,(callFunc g args).run P w=.ok (.enter g args) w) (e6:∀ args w,(callFunc (ρ.f 6) args).run P w=.ok (.enter (ρ.f 6) args) w)
  {w:World} {H:Heap} (hw:w.heap=H) {B:Nat} {T:TypeId} {x:Option Addr × Nat × Nat} {xs:List α}
  (hcmp:∀ (W:World) y z,Ext (xw x) H W.heap→qj P g #[.agg (enc y).toArray,.agg (enc z).toArray] W fun e W'=>e=.returned (.int .i64 (cf y z))∧Ext [] W.heap W'.heap) (hM:Mine H B T k x (xs.flatMap enc)) (hlen:xs.length < 4611686018427387904) :
  qj P (ρ.f 6) #[.slice x.1 x.2.1 x.2.2,.func (.func g) #[] #[]] w fun e w'=>e=.returned (.tuple #[])∧∃ ys:List α,ys.Perm xs∧ys.Pairwise (fun a b=>¬ cf b a < 0)∧Mine w'.heap B T k x (ys.flatMap enc)∧Ext (xw x) H w'.heap:=by
 subst hw
 have hl:=hM.len
 rw [qg enc hk] at hl
 have hxl:x.2.1=xs.length:=(Nat.eq_of_mul_eq_mul_right h0 hl).symm
 refine ⟨e6 _ _,?_⟩
 rcases hM with ⟨rfl,hnil⟩ | ⟨b,c,hx1,hB,hb,hc,hl2,hle,he⟩
 ·clear hxl hl
  have hx0:xs=[]:=by
   have:=congrArg List.length hnil
   rw [qg enc hk,List.length_nil] at this
   rcases Nat.mul_eq_zero.1 this with h | h
   ·exact List.eq_nil_of_length_eq_zero h
   ·omega
  refine (AnyF.slices_SortFunc_none L none 0 _ w).mono ?_
  rintro e w' ⟨he,hw'⟩
  subst hw'
  exact ⟨⟨he,[],by rw [hx0],.nil,.inl ⟨rfl,rfl⟩,.refl _ _⟩,.refl _⟩
 ·obtain ⟨xa,xl,xc⟩:=x
  simp only at hx1 hxl hc hl2 hle
  subst hx1 hxl
  have hlt:b < w.heap.size:=lt_of_get hb
  have hcl:xs.length * k≤c.size:=by rw [hc];exact Nat.mul_le_mul_right k hle
  have hget:∀ t,t < xs.length * k→c[t]?=(xs.flatMap enc)[t]?:=by
   intro t ht
   rw [← he,Array.getElem?_toList,Array.getElem?_extract]
   rw [if_pos (by rw [qg enc hk];omega)]
   simp
  have hH:HoldsK enc k w b 0 xs.toArray:=by
   intro j hj
   simp only [size_flatK,List.size_toArray] at hj
   have h2:=z6w enc hk h0 xs.toArray j (by simpa using hj)
   refine ⟨?_,?_⟩
   ·rw [Nat.zero_add,z2y rfl hb,hget j hj]
    simpa using h2
   ·exact z4c rfl hb
  have hgen:∀ (m:Nat) (os:Array Obj) (dk:Array α),(sortWorldK enc k w b 0 m dk os).heap=(w.heap.setIfInBounds b (.cells (putCells id 0 (flatK enc k dk) c) T (0,0)))++os:=by
   intro m os dk
   unfold sortWorldK grow putRowK putRow mapBlock
   simp only [Sort.ahead]
   congr 1
   apply Array.ext_getElem?
   intro i
   rw [Array.getElem?_modify]
   by_cases hib:b=i
   ·subst hib
    simp only [if_pos,Array.getElem?_setIfInBounds_self_of_lt hlt,hb,Option.map_some]
    rfl
   ·rw [if_neg hib,Array.getElem?_setIfInBounds_ne hib]
  have hextg:∀ (m:Nat) (os:Array Obj) (dk:Array α),Ext (xw (some ⟨b,0,none⟩,xs.length,xc)) w.heap (sortWorldK enc k w b 0 m dk os).heap:=by
   intro m os dk
   rw [hgen]
   refine ⟨by simp,fun i hi hn=>?_⟩
   rw [Array.getElem?_append_left (by simpa using hi)]
   exact Array.getElem?_setIfInBounds_ne (by rintro rfl;exact hn (by simp [xw]))
  have hcon:=AnyQ.slices_SortFunc L k aE zE enc hk h1 cf hO g #[] b 0 xc xs.toArray w eg (fun m os dk _ x y=>?_) hH hlt (by simpa using hlen)
  ·simp only [List.size_toArray] at hcon
   refine hcon.mono ?_
   rintro e w' ⟨rfl,d',n,os,hp,hs,rfl⟩
   obtain ⟨hps,_,hpp⟩:=hp
   have hps':d'.size=xs.length:=by simpa using hps
   have hperm:d'.toList.Perm xs:=by
    have h3:(d'.extract 0 xs.length).toList=d'.toList:=by
     simp only [Array.toList_extract,List.extract_eq_take_drop,List.drop_zero,Nat.sub_zero]
     exact List.take_of_length_le (by simp [hps'])
    have h4:((xs.toArray).extract 0 xs.length).toList=xs:=by simp
    rw [h3,h4] at hpp
    exact hpp
   have hsort:d'.toList.Pairwise (fun a b=>¬ cf b a < 0):=by
    rw [List.pairwise_iff_getElem]
    intro i j hi hj hij
    have:=hs i j (Nat.zero_le _) hij (by simpa [hps'] using hj)
    simp only [ltOf,decide_eq_false_iff_not] at this
    rw [getElem!_pos d' j (by simpa using hj),getElem!_pos d' i (by simpa using hi)] at this
    simpa using this
   have hheap:(sortWorldK enc k w b 0 n d' os).heap=(w.heap.setIfInBounds b (.cells (putCells id 0 (flatK enc k d') c) T (0,0)))++os:=by
    unfold sortWorldK grow putRowK putRow mapBlock
    simp only [Sort.ahead]
    congr 1
    apply Array.ext_getElem?
    intro i
    rw [Array.getElem?_modify]
    by_cases hib:b=i
    ·subst hib
     simp only [if_pos,Array.getElem?_setIfInBounds_self_of_lt hlt,hb,Option.map_some]
     rfl
    ·rw [if_neg hib,Array.getElem?_setIfInBounds_ne hib]
   have hsz:(putCells id 0 (flatK enc k d') c).size=c.size:=by simp [putCells]
   have hext:Ext (xw (some ⟨b,0,none⟩,xs.length,xc)) w.heap (sortWorldK enc k w b 0 n d' os).heap:=by
    rw [hheap]
    refine ⟨by simp,fun i hi hn=>?_⟩
    rw [Array.getElem?_append_left (by simpa using hi)]
    exact Array.getElem?_setIfInBounds_ne (by rintro rfl;exact hn (by simp [xw]))
   refine ⟨⟨rfl,d'.toList,hperm,hsort,.inr ⟨b,_,rfl,hB,?_,hsz.trans hc,?_,hle,?_⟩,hext⟩,?_⟩
   ·rw [hheap,Array.getElem?_append_left (by simpa using hlt),Array.getElem?_setIfInBounds_self_of_lt hlt]
   ·rw [qg enc hk];simp [hps']
   ·apply List.ext_getElem?
    intro t
    rw [Array.getElem?_toList,Array.getElem?_extract,qg enc hk]
    simp only [Array.length_toList,hps']
    by_cases ht:t < xs.length * k
    ·rw [if_pos (by omega)]
     have h5:=z6w enc hk h0 d' t (by rw [hps'];exact ht)
     rw [h5]
     have h6:t < c.size:=by omega
     simp only [putCells,Nat.zero_add,Array.getElem?_mapIdx,Array.getElem?_eq_getElem h6,Option.map_some]
     rw [if_pos ⟨Nat.zero_le _,by simp [hps',ht]⟩]
     rfl
    ·rw [if_neg (by omega),List.getElem?_eq_none (by rw [qg enc hk];simp [hps'];omega)]
   ·unfold sortWorldK grow putRowK putRow mapBlock
    exact ⟨rfl,rfl,rfl,by simp [Sort.ahead]⟩
  ·have h:=(hcmp (sortWorldK enc k w b 0 m dk os) x y (hextg m os dk)).2
   exact h.mono fun e W' ⟨⟨he,hx⟩,hc⟩=>⟨he,grown_of hx hc⟩
end Go.Fw
namespace Go.Proofs.YtbmegmbnlajbbaaGreatDoor
open Go Go.Fw Go.Proofs Go.Sort
theorem qiv {W:World} {y z:ME} (hy:zq9 W.heap y) (hz:zq9 W.heap z):qj P zfx #[.agg (zjx y).toArray,.agg (zjx z).toArray] W fun e W'=>e=.returned (.int .i64 (zfz (nm y.f) (nm z.f)))∧Ext [] W.heap W'.heap:=by
 refine zym ?_
 unfold zl0
 refine jv rfl fun w1 hw1=>?_
 have hx1:Ext [] W.heap w1.heap:=by rw [hw1];exact .push _
 have hb1:w1.heap[W.heap.size]?=some (.cells (zjx y).toArray zy (0,0)):=by rw [hw1];exact zn
 refine jv rfl fun w2 hw2=>?_
 have hx2:Ext [] w1.heap w2.heap:=by rw [hw2];exact .push _
 have hb2:w2.heap[w1.heap.size]?=some (.cells (zjx z).toArray zy (0,0)):=by rw [hw2];exact zn
 have hx:=hx1.trans hx2
 have hyl:y.hdr.2.1=(nm y.f).length:=by have:=Mine.len hy;simp at this;omega
 have hzl:z.hdr.2.1=(nm z.f).length:=by have:=Mine.len hz;simp at this;omega
 have h8:=(zli y.f).2
 refine jh (s:=.slc) (t:=y.hdr) rfl (hx2.get hb1 (by simp)) rfl ?_
 refine jh (s:=.slc) (t:=z.hdr) rfl hb2 rfl ?_
 refine zl (z9n rfl (Mine.ext hy hx (by simp)).cells hyl (Mine.ext hz hx (by simp)).cells hzl (by omega)) ?_
 rintro e w3 ⟨rfl,hw3⟩
 refine ⟨zfz (nm y.f) (nm z.f),rfl,?_⟩
 exact ⟨rfl,by rw [hw3];exact hx⟩
theorem qli {w:World} {H:Heap} {B:Nat} {x:Option Addr × Nat × Nat} {ms:List ME} (hw:w.heap=H) (hM:Mine H B zy 4 x (ms.flatMap zjx)) (hn:∀ m ∈ ms,zq9 H m) (hne:ms ≠ []) (hlen:ms.length < 4611686018427387904) :
  qj P zcm #[.slice x.1 x.2.1 x.2.2,.func (.func zfx) #[] #[]] w fun e w'=>e=.returned (.tuple #[])∧∃ ys:List ME,ys.Perm ms∧ys.Pairwise (fun a b=>¬ zfz (nm b.f) (nm a.f) < 0)∧Mine w'.heap B zy 4 x (ys.flatMap zjx)∧Ext (xw x) H w'.heap:=by
 obtain ⟨m0,hm0⟩:=List.exists_mem_of_ne_nil _ hne
 let α:={ m:ME // m ∈ ms }
 haveI:Inhabited α:=⟨⟨m0,hm0⟩⟩
 have hflat:ms.flatMap zjx=ms.attach.flatMap fun (m:α)=>zjx m.1:=by
  conv=>lhs;rw [← List.attach_map_subtype_val ms]
  rw [List.flatMap_map]
 rw [hflat] at hM
 have h:=qlm (α:=α) Tryz.sortE (k:=4) (fun w=>by kernel_rfl) (fun w=>by kernel_rfl) (fun m=>zjx m.1) (fun m=>zil m.1) (by omega) (fun m=>z5p) (fun a b=>zfz (nm a.1.f) (nm b.1.f)) (qil (α:=α) (fun m=>nm m.1.f)) (g:=zfx) (fun args w=>by kernel_rfl) (fun args w=>by kernel_rfl)
  (w:=w) (H:=H) (x:=x) (xs:=ms.attach) hw (fun W y z hx=>by
   have hk:∀ m:α,zq9 W.heap m.1:=fun m=>Mine.ext (hn m.1 m.2) hx (zge (hn m.1 m.2) hM (by decide))
   exact qiv (hk y) (hk z)) hM (by rw [List.length_attach];exact hlen)
 refine h.mono ?_
 rintro e w' ⟨rfl,ys,hp,hs,hm,hx⟩
 refine ⟨rfl,ys.map Subtype.val,?_,?_,?_,hx⟩
 ·have:=hp.map Subtype.val
  rw [List.attach_map_subtype_val] at this
  exact this
 ·rw [List.pairwise_map];exact hs
 ·rw [List.flatMap_map];exact hm
def z1h (L:List Fil):Prop:=∃ i,∃ h:i < L.length,nm L[i]=[] ∨ ∃ g ∈ L.take i,nm g=nm L[i]
def qf6 (L:List Fil):Prop:=∃ f ∈ L,(nm f).dropLast ≠ []∧∀ g ∈ L,nm g ≠ (nm f).dropLast
def z1i (L:List Fil):Prop:=∃ f ∈ L,∃ g ∈ L,nm g=(nm f).dropLast∧g.dir=false
def qhm (L:List Fil):Prop:=∃ f ∈ L,64 < (kids L (nm f).dropLast).length
open Classical in
noncomputable def zcl (L:List Fil):Int:=if z1h L then 5 else if qf6 L then 4 else if z1i L then 70 else if qhm L then 8 else 0
theorem qal {L:List Fil} (h:z1h L):zcl L=5:=by unfold zcl;rw [if_pos h]
theorem qbb {L:List Fil} (h5:¬ z1h L) (h:qf6 L):zcl L=4:=by unfold zcl;rw [if_neg h5,if_pos h]
theorem z4r {L:List Fil} (h5:¬ z1h L) (h4:¬ qf6 L) (h:z1i L):zcl L=70:=by unfold zcl;rw [if_neg h5,if_neg h4,if_pos h]
theorem qa1 {L:List Fil} (h5:¬ z1h L) (h4:¬ qf6 L) (h70:¬ z1i L) (h:qhm L):zcl L=8:=by unfold zcl;rw [if_neg h5,if_neg h4,if_neg h70,if_pos h]
theorem qau {L:List Fil} (h5:¬ z1h L) (h4:¬ qf6 L) (h70:¬ z1i L) (h:¬ qhm L):zcl L=0:=by unfold zcl;rw [if_neg h5,if_neg h4,if_neg h70,if_neg h]
theorem zj8 {L:List Fil} (h:¬ z1h L):(L.map nm).Nodup∧∀ f ∈ L,nm f ≠ []:=by
 constructor
 ·rw [List.nodup_iff_pairwise_ne,List.pairwise_map,List.pairwise_iff_getElem]
  intro i j hi hj hij e
  exact h ⟨j,hj,.inr ⟨L[i],List.mem_take_iff_getElem.2 ⟨i,by omega,rfl⟩,e⟩⟩
 ·intro f hf e
  obtain ⟨i,hi,rfl⟩:=List.getElem_of_mem hf
  exact h ⟨i,hi,.inl e⟩
theorem zzl {A B:List Fil} (h:A.Perm B) (p:Path):(kids A p).Perm (kids B p):=h.filter _
theorem qi0 {L:List Fil} (h5:¬ z1h L) (h8:¬ qhm L) (p:Path):(kids (zh2 L) p).length≤64:=by
 rw [(zzl (zh5 (zj8 h5).1).1 p).length_eq]
 by_cases hk:kids L p=[]
 ·rw [hk];simp
 ·obtain ⟨f,hf⟩:=List.exists_mem_of_ne_nil _ hk
  obtain ⟨h1,h2,h3⟩:=zf2 hf
  rw [← h3]
  exact Nat.le_of_not_lt fun h=>h8 ⟨f,h1,h⟩
theorem uMT:P.underlying zbp=some (.map qc zy):=by kernel_rfl
def z8h:ME:=⟨(none,0,0),⟨[],true,[]⟩⟩
def zeroE:ME:=⟨(none,0,0),⟨[],false,[]⟩⟩
def evE (m:ME):Value:=.agg (zjx m).toArray
theorem zET (w:World):(zeroValue zy).run P w=.ok (evE zeroE) w:=by kernel_rfl
theorem bF1 (w:World):(Instr.build zk #[(1,.bool true)]).run P w=.ok (.agg (zbc ⟨[],true,[]⟩).toArray) w:=by kernel_rfl
abbrev PM:=ML (List UInt8) ME
def Places (M:PM) (ms:List ME):Prop:=∀ p,okP p→zcj M (vw p)=if p=[] then some z8h else ms.find? fun m=>decide (nm m.f=p)
theorem MOk.map_val {κ ν ν':Type} [DecidableEq κ] {ok:κ→Prop} {l:ML κ ν} {c:Nat} (h:MOk ok l c) (g:κ × ν × Nat→ν'):MOk ok (l.map fun x=>(x.1,g x,x.2.2)) c:=by
 refine ⟨?_,?_,?_,?_⟩
 ·have:=h.keys;simp only [List.map_map];exact this
 ·have:=h.born;simp only [List.map_map];exact this
 ·intro x hx;obtain ⟨y,hy,rfl⟩:=List.mem_map.1 hx;exact h.old y hy
 ·intro x hx;obtain ⟨y,hy,rfl⟩:=List.mem_map.1 hx;exact h.fine y hy
def zvl (p:Path) (m:ME):Bool:=decide ((nm m.f).dropLast=p)
structure RowsW (W:Heap) (B:Nat) (K:KM) (ms:List ME):Prop where
 key:∀ z ∈ K,∃ p,okP p∧z.1=vw p
 get:∀ p,okP p→(match zcj K (vw p) with | none=>ms.filter (zvl p)=[] | some v=>v.2=ms.filter (zvl p)∧v.2 ≠ [])
 row:∀ z ∈ K,Mine W B zy 4 z.2.1.1 (z.2.1.2.flatMap zjx)
 apart:∀ z ∈ K,∀ z' ∈ K,z.1 ≠ z'.1→∀ b ∈ xw z.2.1.1,b ∉ xw z'.2.1.1
theorem RowsW.step {H H':Heap} {B clk:Nat} {K:KM} {ms:List ME} {m:ME} {v:(Option Addr × Nat × Nat) × List ME} {x':Option Addr × Nat × Nat} (h:RowsW H B K ms) (hM:MOk (fun _=>True) K clk) (hv:(zcj K (vw (nm m.f).dropLast)).getD ((none,0,0),[])=v)
  (hm:Mine H' B zy 4 x' ((v.2++[m]).flatMap zjx)) (hx:Ext (xw v.1) H H') (hs:∀ c ∈ xw x',c ∈ xw v.1 ∨ H.size≤c):RowsW H' B (zpd K (vw (nm m.f).dropLast) (x',v.2++[m]) clk) (ms++[m]):=by
 have hokd:okP (nm m.f).dropLast:=by rw [List.dropLast_eq_take];exact (zli m.f).take _
 have hold:∀ z ∈ K,z.1 ≠ vw (nm m.f).dropLast→Mine H' B zy 4 z.2.1.1 (z.2.1.2.flatMap zjx)∧∀ b ∈ xw z.2.1.1,b ∉ xw x':=by
  intro z hz hne
  have hap:∀ b ∈ xw z.2.1.1,b ∉ xw v.1:=by
   cases hg:zcj K (vw (nm m.f).dropLast) with
   | none=>rw [hg] at hv;subst hv;simp [xw]
   | some u =>
    rw [hg] at hv
    obtain ⟨c,hc⟩:=zff hg
    have hu:u=v:=hv
    subst hu
    exact h.apart z hz _ hc hne
  refine ⟨(h.row z hz).ext hx hap,fun b hb hb'=>?_⟩
  rcases hs b hb' with h' | h'
  ·exact hap b hb h'
  ·have:=(za9 (h.row z hz) b hb).1;omega
 have hmem:∀ z ∈ zpd K (vw (nm m.f).dropLast) (x',v.2++[m]) clk,(z.1=vw (nm m.f).dropLast∧z.2.1=(x',v.2++[m])) ∨ (z.1 ≠ vw (nm m.f).dropLast∧z ∈ K):=fun z hz=>zqc hz
 refine ⟨fun z hz=>?_,fun p hp=>?_,fun z hz=>?_,fun z hz z' hz' hne b hb=>?_⟩
 ·rcases hmem z hz with ⟨h1,_⟩ | ⟨_,h1⟩
  ·exact ⟨_,hokd,h1⟩
  ·exact h.key z h1
 ·rw [zxd]
  by_cases e:vw p=vw (nm m.f).dropLast
  ·rw [if_pos e]
   have hpe:=zxf hp hokd e
   subst hpe
   have hgp:=h.get _ hokd
   have h2:v.2=ms.filter (zvl (nm m.f).dropLast):=by
    cases hg:zcj K (vw (nm m.f).dropLast) with
    | none=>rw [hg] at hgp hv;subst hv;exact hgp.symm
    | some u=>rw [hg] at hgp hv;have hu:u=v:=hv;subst hu;exact hgp.1
   simp only
   rw [List.filter_append,← h2]
   exact ⟨by simp [zvl],by simp⟩
  ·rw [if_neg e]
   have hne:(nm m.f).dropLast ≠ p:=by rintro rfl;exact e rfl
   have:=h.get p hp
   cases hg:zcj K (vw p) with
   | none =>
    rw [hg] at this
    simp only at this ⊢
    rw [List.filter_append,this]
    simp [zvl,hne]
   | some u =>
    rw [hg] at this
    simp only at this ⊢
    refine ⟨?_,this.2⟩
    rw [List.filter_append,this.1]
    simp [zvl,hne]
 ·rcases hmem z hz with ⟨_,h1⟩ | ⟨h0,h1⟩
  ·rw [h1];exact hm
  ·exact (hold z h1 h0).1
 ·rcases hmem z hz with ⟨e1,h1⟩ | ⟨e1,h1⟩
  ·rcases hmem z' hz' with ⟨e2,_⟩ | ⟨e2,h2⟩
   ·exact absurd (e1.trans e2.symm) hne
   ·rw [h1] at hb
    exact fun h3=>(hold z' h2 e2).2 b h3 hb
  ·rcases hmem z' hz' with ⟨e2,h2⟩ | ⟨e2,h2⟩
   ·rw [h2];exact (hold z h1 e1).2 b hb
   ·intro h3;exact h.apart z h1 z' h2 hne b hb h3
theorem find_none_of {ms:List ME} {p:Path}:(ms.find? fun m=>decide (nm m.f=p))=none ↔ ∀ m ∈ ms,nm m.f ≠ p:=by
 rw [List.find?_eq_none]
 simp
theorem find_some_of {ms:List ME} {p:Path} {m:ME} (h:(ms.find? fun m=>decide (nm m.f=p))=some m):m ∈ ms∧nm m.f=p:=by
 have h1:=List.mem_of_find?_eq_some h
 have h2:=List.find?_some h
 exact ⟨h1,by simpa using h2⟩
theorem z7k {α β:Type} {g:α→β}:∀ {L:List α},(L.map g).Nodup→∀ {a b:α},a ∈ L→b ∈ L→g a=g b→a=b
 | [],_,_,_,ha,_,_=>by simp at ha
 | x :: L,h,a,b,ha,hb,e=>by
  rw [List.map_cons,List.nodup_cons] at h
  rcases List.mem_cons.1 ha with h1 | h1 <;> rcases List.mem_cons.1 hb with h2 | h2
  ·rw [h1,h2]
  ·subst h1;exact absurd (List.mem_map.2 ⟨b,h2,e.symm⟩) h.1
  ·subst h2;exact absurd (List.mem_map.2 ⟨a,h1,e⟩) h.1
  ·exact z7k h.2 h1 h2 e
theorem zoa {ms:List ME} {p:Path} (hne:∀ m ∈ ms,nm m.f ≠ []):(ms.filter (zvl p)).map (·.f)=kids (ms.map (·.f)) p:=by
 unfold kids
 rw [List.filter_map]
 congr 1
 apply List.filter_congr
 intro m hm
 simp [zvl,qci,hne m hm]
theorem qdb {ms:List ME} {i:Nat}:(ms.take i).map (·.f)=(ms.map (·.f)).take i:=List.map_take
structure Rows3 (W:Heap) (B:Nat) (K K3:KM) (seen:Array Nat):Prop where
 vls:vl evK K3=vl evK K
 from_:∀ z ∈ K3,∃ z0 ∈ K,z0.1=z.1∧z0.2.1.1=z.2.1.1∧z.2.1.2.Perm z0.2.1.2
 row:∀ z ∈ K3,Mine W B zy 4 z.2.1.1 (z.2.1.2.flatMap zjx)
 done:∀ z ∈ K3,z.2.2 ∈ seen→z.2.1.2.length≤64∧z.2.1.2.Pairwise fun a b=>¬ zfz (nm b.f) (nm a.f) < 0
theorem qa3 {es fs:List ME} {L:List Fil} {p:Path} (hp:es.Perm fs) (hfs:fs.map (·.f)=kids L p) (hnd:(L.map nm).Nodup) (hs:es.Pairwise fun a b=>¬ zfz (nm b.f) (nm a.f) < 0):es.map (·.f)=kids (zh2 L) p:=by
 have hsp:=zh5 hnd
 have hperm:(es.map (·.f)).Perm (kids L p):=by rw [← hfs];exact hp.map _
 have hnk:((kids L p).map nm).Nodup:=(List.filter_sublist.map nm).nodup hnd
 have hne:((es.map (·.f)).map nm).Nodup:=(hperm.map nm).nodup_iff.2 hnk
 refine z7r ?_ (hsp.2.sublist List.filter_sublist) (hperm.trans (zzl hsp.1 p).symm)
 unfold zul
 rw [List.pairwise_map]
 rw [List.nodup_iff_pairwise_ne,List.pairwise_map,List.pairwise_map] at hne
 refine (hs.and hne).imp fun {a b} h=>?_
 have h1:=znh (p:=nm a.f) (q:=nm b.f)
 have h2:zfz (nm a.f) (nm b.f) ≠ 0:=fun e=>h.2 (znd.1 e)
 have h3:=h.1
 omega
set_option maxHeartbeats 32000000 in
theorem qiz {w:World} {H:Heap} {a:Option Addr} {n nc:Nat} {ms:List ME} (hw:w.heap=H) (hL:Cells H a (ms.flatMap zjx)) (hn:n=ms.length) (hm:ms.length≤65536) (hN:∀ m ∈ ms,zq9 H m) :
  qj P zqd #[.slice a n nc] w fun e w'=>∃ v,e=.returned (.tuple #[.map v,.int .i64 (zcl (ms.map (·.f)))])∧Ext [] H w'.heap∧(zcl (ms.map (·.f))=0→∃ mk,v=some mk∧qhs w'.heap mk (zh2 (ms.map (·.f)))):=by
 subst hn
 refine z5l ?_
 unfold zqe
 refine zad (s:=.map) (some H.size) _ (zui hw) ?_
 refine qm (s:=.any) _ (bF1 _) ?_
 refine qm (s:=.any) (evE z8h) (bE (none,0,0) _ _ _ _) ?_
 have hm1:(H.push (.map #[] 0))[H.size]?=some (.map (ents keyS (vl evE ([]:PM))) 0):=zn
 refine zzo _ (ztt qk3 uMT (w:={ w with heap:=H.push (.map #[] 0) }) rfl hm1 MOk.nil (k:=vw []) trivial z8h rfl) ?_
 generalize hW0:({ w with heap:=(H.push (.map #[] 0)).setIfInBounds H.size (.map (ents keyS (vl evE (zpd ([]:PM) (vw []) z8h 0))) (zvi ([]:PM) (vw []) 0)) }:World)=W0
 have hh0:W0.heap=(H.push (.map #[] 0)).setIfInBounds H.size (.map (ents keyS (vl evE (zpd ([]:PM) (vw []) z8h 0))) (zvi ([]:PM) (vw []) 0)):=by rw [← hW0]
 have hx0:Ext [] H W0.heap:=by rw [hh0];exact (Ext.push _).set_own (.inl (Nat.le_refl _))
 have hp0:W0.heap[H.size]?=some (.map (ents keyS (vl evE (zpd ([]:PM) (vw []) z8h 0))) (zvi ([]:PM) (vw []) 0)):=by rw [hh0];exact qw hm1
 have hok0:MOk (fun _=>True) (zpd ([]:PM) (vw []) z8h 0) (zvi ([]:PM) (vw []) 0):=MOk.nil.upd trivial _
 have hnil:okP []:=⟨by simp,by simp⟩
 have hpl0:Places (zpd ([]:PM) (vw []) z8h 0) []:=by
  intro p hp
  rw [zxd]
  by_cases e:p=[]
  ·subst e;rw [if_pos rfl,if_pos rfl]
  ·rw [if_neg (fun h=>e (zxf hp hnil h)),if_neg e];rfl
 have hlm:(ms.map (·.f)).length=ms.length:=by simp
 have hHs0:H.size < W0.heap.size:=lt_of_get hp0
 refine jd (fun (s:Int) W=>∃ (i:Nat) (M:PM) (c:Nat),s=(i:Int)∧i≤ms.length∧Ext [] H W.heap∧W.heap[H.size]?=some (.map (ents keyS (vl evE M)) c)∧MOk (fun _=>True) M c∧Places M (ms.take i)∧(∀ j (h:j < (ms.map (·.f)).length),j < i→nm (ms.map (·.f))[j] ≠ []∧∀ g ∈ (ms.map (·.f)).take j,nm g ≠ nm (ms.map (·.f))[j]))
  (fun s _=>(ms.length - s).toNat) ⟨0,_,_,rfl,Nat.zero_le _,hx0,hp0,hok0,by simpa using hpl0,fun j _ h=>by omega⟩ ?_
 rintro _ W ⟨i,M,c,rfl,hi,hxW,hpW,hoM,hPl,hgood⟩
 refine zq (fun hlt=>?_) (fun hge=>?_)
 ·have hil:i < ms.length:=by omega
  have hget:=List.getElem?_eq_getElem hil
  have hmem:ms[i] ∈ ms:=List.getElem_mem hil
  have hfi:(ms.map (·.f))[i]'(by simpa using hil)=(ms[i]).f:=by simp
  generalize ms[i]=m at hget hmem hfi
  have hsm:=(zli m.f).small
  refine zjm (i:=i) zil (by omega) rfl (hL.ext hxW (by simp)) rfl hget rfl ?_
  refine qme m rfl fun w5 hw5=>?_
  have hx5:Ext [] W.heap w5.heap:=by rw [hw5];exact .push _
  have hb5:w5.heap[W.heap.size]?=some (.cells (zjx m).toArray zy (0,0)):=by rw [hw5];exact zn
  have hnm:=(hN m hmem)
  have hnl:m.hdr.2.1=(nm m.f).length:=by have:=Mine.len hnm;simp at this;omega
  have hcap:=zgz hnm
  refine jh (s:=.slc) (t:=m.hdr) rfl hb5 rfl ?_
  refine zl (z16 rfl (Mine.ext hnm (hxW.trans hx5) (by simp)).cells hnl hcap (by omega)) ?_
  rintro e w6 ⟨rfl,hx6⟩
  refine ⟨strOf (vw (nm m.f)),rfl,?_⟩
  have hx06:=hx5.trans hx6
  have hp6:=hx06.get hpW (by simp)
  have hlk:=zj0 qk3 uMT zET (w:=w6) rfl hp6 hoM (k:=vw (nm m.f)) trivial
  have hval:((zcj M (vw (nm m.f))).map evE).getD (evE zeroE)=evE ((zcj M (vw (nm m.f))).getD zeroE):=by cases zcj M (vw (nm m.f)) <;> rfl
  rw [hval] at hlk
  refine zod (l:=[.any,.bool]) (evE ((zcj M (vw (nm m.f))).getD zeroE),(zcj M (vw (nm m.f))).isSome) hlk ?_
  refine qme ((zcj M (vw (nm m.f))).getD zeroE) rfl fun w8 hw8=>?_
  have hx8:Ext [] w6.heap w8.heap:=by rw [hw8];exact .push _
  have hx08:=hx06.trans hx8
  have hpm:=hPl (nm m.f) (zli m.f)
  cases hs:(zcj M (vw (nm m.f))).isSome with
  | true =>
   refine zab rfl ?_
   have h5:z1h (ms.map (·.f)):=by
    refine ⟨i,by simpa using hil,?_⟩
    rw [hfi]
    by_cases e:nm m.f=[]
    ·exact .inl e
    ·right
     rw [hpm,if_neg e] at hs
     obtain ⟨m',hm'⟩:=Option.isSome_iff_exists.1 hs
     obtain ⟨h1,h2⟩:=find_some_of hm'
     exact ⟨m'.f,by rw [← qdb];exact List.mem_map.2 ⟨m',h1,rfl⟩,h2⟩
   exact ⟨none,by rw [qal h5],hxW.trans hx08,fun h=>by rw [qal h5] at h;cases h⟩
  | false =>
   refine jl rfl ?_
   have hno:nm m.f ≠ []∧∀ m' ∈ ms.take i,nm m'.f ≠ nm m.f:=by
    rw [hpm] at hs
    by_cases e:nm m.f=[]
    ·rw [if_pos e] at hs;simp at hs
    ·rw [if_neg e] at hs
     exact ⟨e,find_none_of.1 (by simpa using hs)⟩
   refine jw rfl fun w9 hw9=>?_
   have hx9:Ext [] w8.heap w9.heap:=by rw [hw9];exact .refl _ _
   have hb9:=hx9.get (hx8.get (hx6.get hb5 (by simp)) (by simp)) (by simp)
   refine jh (s:=.slc) (t:=m.hdr) rfl hb9 rfl ?_
   refine je rfl hb9 rfl ?_
   have hx09:=hx08.trans hx9
   refine zl (z16 rfl (Mine.ext hnm (hxW.trans hx09) (by simp)).cells hnl hcap (by omega)) ?_
   rintro e w10 ⟨rfl,hx10⟩
   refine ⟨strOf (vw (nm m.f)),rfl,?_⟩
   refine ⟨je rfl (hx10.get hb9 (by simp)) rfl rfl,?_⟩
   have hx010:=hx09.trans hx10
   have hp10:=hx010.get hpW (by simp)
   refine zzo _ (ztt qk3 uMT (w:=w10) rfl hp10 hoM (k:=vw (nm m.f)) trivial m rfl) ?_
   refine xu ((i+1:Nat):Int) (by omega) (by omega) (by omega) ?_
   refine ⟨⟨i+1,_,_,rfl,by omega,(hxW.trans hx010).set_own (.inl (Nat.le_refl _)),qw hp10,hoM.upd trivial _,fun p hp=>?_,fun j hj hji=>?_⟩,by omega⟩
   ·rw [zxd,List.take_add_one,hget,Option.toList_some,List.find?_append]
    by_cases e:vw p=vw (nm m.f)
    ·have hpe:=zxf hp (zli m.f) e
     subst hpe
     rw [if_pos e,if_neg hno.1,find_none_of.2 hno.2]
     simp
    ·rw [if_neg e,hPl p hp]
     have hne:nm m.f ≠ p:=by rintro rfl;exact e rfl
     by_cases e0:p=[]
     ·rw [if_pos e0,if_pos e0]
     ·rw [if_neg e0,if_neg e0]
      simp [hne]
   ·by_cases e:j=i
    ·subst e
     rw [hfi]
     refine ⟨hno.1,fun g hg=>?_⟩
     rw [← qdb] at hg
     obtain ⟨m',hm',rfl⟩:=List.mem_map.1 hg
     exact hno.2 m' hm'
    ·exact hgood j hj (by omega)
 ·obtain rfl:i=ms.length:=by omega
  have h5:¬ z1h (ms.map (·.f)):=by
   rintro ⟨j,hj,h⟩
   obtain ⟨g1,g2⟩:=hgood j hj (by omega)
   rcases h with h | ⟨g,hg,e⟩
   ·exact g1 h
   ·exact g2 g hg e
  rw [List.take_length] at hPl
  obtain ⟨hnd,hne⟩:=zj8 h5
  have hnem:∀ m ∈ ms,nm m.f ≠ []:=fun m hm=>hne _ (List.mem_map.2 ⟨m,hm,rfl⟩)
  have hsW:=hxW.1
  have hpml:=lt_of_get hpW
  refine zad (s:=.map) (some W.heap.size) { W with heap:=W.heap.push (.map #[] 0) } (zui rfl) ?_
  have hxm:Ext [] W.heap (W.heap.push (.map #[] 0)):=.push _
  refine jd (fun (s:Bool × Int) W2=>∃ (i:Nat) (K:KM) (c2:Nat),s.2=(i:Int)∧i≤ms.length∧Ext [] W.heap W2.heap∧W2.heap[W.heap.size]?=some (.map (ents keyS (vl evK K)) c2)∧MOk (fun _=>True) K c2∧RowsW W2.heap (W.heap.size+1) K (ms.take i) ∧
    (s.1=true ↔ ∃ f ∈ (ms.map (·.f)).take i,∃ g ∈ ms.map (·.f),nm g=(nm f).dropLast∧g.dir=false)∧(∀ f ∈ (ms.map (·.f)).take i,(nm f).dropLast=[] ∨ ∃ g ∈ ms.map (·.f),nm g=(nm f).dropLast))
   (fun s _=>(ms.length - s.2).toNat) ⟨0,[],0,rfl,Nat.zero_le _,hxm,zn,.nil,⟨by simp,fun p hp=>by simp [zcj],by simp,by simp⟩,by simp,by simp⟩ ?_
  rintro ⟨flat,_⟩ W2 ⟨i,K,c2,rfl,hi,hx2,hk2,hoK,hR,hfl,hab⟩
  have hxH2:=hxW.trans hx2
  have hp2:=hx2.get hpW (by simp)
  have hkl:=lt_of_get hk2
  have hx2s:=hx2.1
  refine zq (fun hlt=>?_) (fun hge=>?_)
  ·have hil:i < ms.length:=by simp only at hlt;omega
   have hget:=List.getElem?_eq_getElem hil
   have hmem:ms[i] ∈ ms:=List.getElem_mem hil
   generalize ms[i]=m at hget hmem
   have hgf:(ms.map (·.f))[i]?=some m.f:=by rw [List.getElem?_map,hget];rfl
   have hsm:=(zli m.f).small
   have hok8:=(zli m.f).2
   have hmne:=hnem m hmem
   have hpos:=List.length_pos_iff.2 hmne
   refine zjm (i:=i) zil (by omega) rfl (hL.ext hxH2 (by simp)) rfl hget rfl ?_
   refine qme m rfl fun w15 hw15=>?_
   have hx15:Ext [] W2.heap w15.heap:=by rw [hw15];exact .push _
   have hb15:w15.heap[W2.heap.size]?=some (.cells (zjx m).toArray zy (0,0)):=by rw [hw15];exact zn
   have hnm:=(hN m hmem)
   have hnl:m.hdr.2.1=(nm m.f).length:=by have:=Mine.len hnm;simp at this;omega
   have hcap:=zgz hnm
   refine jh (s:=.slc) (t:=m.hdr) rfl hb15 rfl ?_
   refine jh (s:=.slc) (t:=m.hdr) rfl hb15 rfl ?_
   refine zbu ((m.hdr.2.1 - 1:Nat):Int) (by omega) (by omega) (by omega) ?_
   refine qm (s:=.slc) (if m.hdr.2.2=0 then m.hdr.1 else m.hdr.1.map (·.add (0 * 1)),(m.hdr.2.1 - 1) - 0,m.hdr.2.2 - 0) (zaq zw5 qfv .no (.yes rfl) (Nat.zero_le _) (show m.hdr.2.1 - 1≤m.hdr.2.2 by omega)) ?_
   have hcut:=(Mine.cut (Mine.ext hnm (hxH2.trans hx15) (by simp)) (k:=m.hdr.2.1 - 1) (by omega)).cells
   rw [zrh] at hcut
   have hdl:(nm m.f).take (m.hdr.2.1 - 1)=(nm m.f).dropLast:=by rw [List.dropLast_eq_take,hnl]
   have hcut:Cells w15.heap (if m.hdr.2.2=0 then m.hdr.1 else m.hdr.1.map (·.add (0 * 1))) (strRow ((nm m.f).take (m.hdr.2.1 - 1))):=hcut
   rw [hdl] at hcut
   have hql:(nm m.f).dropLast.length=m.hdr.2.1 - 1:=by rw [List.length_dropLast];omega
   have hokd:okP (nm m.f).dropLast:=by rw [List.dropLast_eq_take];exact (zli m.f).take _
   have hsmd:=hokd.small
   refine zl (z16 rfl hcut (by rw [hql];simp) (by simp only;omega) (by omega)) ?_
   rintro e w16 ⟨rfl,hx16⟩
   refine ⟨strOf (vw (nm m.f).dropLast),rfl,?_⟩
   have hx216:=hx15.trans hx16
   have hp16:=hx216.get hp2 (by simp)
   have hlk:=zj0 qk3 uMT zET (w:=w16) rfl hp16 hoM (k:=vw (nm m.f).dropLast) trivial
   have hval:((zcj M (vw (nm m.f).dropLast)).map evE).getD (evE zeroE)=evE ((zcj M (vw (nm m.f).dropLast)).getD zeroE):=by cases zcj M (vw (nm m.f).dropLast) <;> rfl
   rw [hval] at hlk
   refine zod (l:=[.any,.bool]) (evE ((zcj M (vw (nm m.f).dropLast)).getD zeroE),(zcj M (vw (nm m.f).dropLast)).isSome) hlk ?_
   refine qme ((zcj M (vw (nm m.f).dropLast)).getD zeroE) rfl fun w18 hw18=>?_
   have hx18:Ext [] w16.heap w18.heap:=by rw [hw18];exact .push _
   have hb18:w18.heap[w16.heap.size]?=some (.cells (zjx ((zcj M (vw (nm m.f).dropLast)).getD zeroE)).toArray zy (0,0)):=by rw [hw18];exact zn
   have hx218:=hx216.trans hx18
   have hpm:=hPl _ hokd
   have htk:(ms.map (·.f)).take (i+1)=(ms.map (·.f)).take i++[m.f]:=by rw [List.take_add_one,hgf];rfl
   cases hs:(zcj M (vw (nm m.f).dropLast)).isSome with
   | false =>
    refine zab rfl ?_
    have h4:qf6 (ms.map (·.f)):=by
     rw [hpm] at hs
     by_cases e:(nm m.f).dropLast=[]
     ·rw [if_pos e] at hs;simp at hs
     ·rw [if_neg e] at hs
      have hnf:=find_none_of.1 (by simpa using hs)
      refine ⟨m.f,List.mem_map.2 ⟨m,hmem,rfl⟩,e,fun g hg=>?_⟩
      obtain ⟨m',hm',rfl⟩:=List.mem_map.1 hg
      exact hnf m' hm'
    exact ⟨none,by rw [qbb h5 h4],hxH2.trans hx218,fun h=>by rw [qbb h5 h4] at h;cases h⟩
   | true =>
    refine jl rfl ?_
    obtain ⟨m0,hm0⟩:=Option.isSome_iff_exists.1 hs
    have hm0':=hm0
    rw [hpm] at hm0'
    have hab':(nm m.f).dropLast=[] ∨ ∃ g ∈ ms.map (·.f),nm g=(nm m.f).dropLast:=by
     by_cases e:(nm m.f).dropLast=[]
     ·exact .inl e
     ·rw [if_neg e] at hm0'
      obtain ⟨h1,h2⟩:=find_some_of hm0'
      exact .inr ⟨m0.f,List.mem_map.2 ⟨m0,h1,rfl⟩,h2⟩
    have hflat:m0.f.dir=false ↔ ∃ g ∈ ms.map (·.f),nm g=(nm m.f).dropLast∧g.dir=false:=by
     by_cases e:(nm m.f).dropLast=[]
     ·rw [if_pos e] at hm0'
      cases hm0'
      constructor
      ·intro h;cases h
      ·rintro ⟨g,hg,h1,_⟩
       rw [e] at h1
       exact absurd h1 (hne g hg)
     ·rw [if_neg e] at hm0'
      obtain ⟨h1,h2⟩:=find_some_of hm0'
      constructor
      ·intro h;exact ⟨m0.f,List.mem_map.2 ⟨m0,h1,rfl⟩,h2,h⟩
      ·rintro ⟨g,hg,h3,h4⟩
       have:m0.f=g:=z7k hnd (List.mem_map.2 ⟨m0,h1,rfl⟩) hg (h2.trans h3.symm)
       rw [this];exact h4
    refine joinP_of (fun s' W'=>W'=w18∧(s'=true ↔ ∃ f ∈ (ms.map (·.f)).take (i+1),∃ g ∈ ms.map (·.f),nm g=(nm f).dropLast∧g.dir=false)) ?_ ?_
    ·cases hfb:flat with
     | true =>
      refine zab rfl ⟨rfl,⟨fun _=>?_,fun _=>rfl⟩⟩
      obtain ⟨f,hf,h⟩:=hfl.1 (by simpa using hfb)
      exact ⟨f,by rw [htk];exact List.mem_append_left _ hf,h⟩
     | false =>
      refine jl rfl ?_
      refine jh (s:=.bool) (t:=m0.f.dir) rfl hb18 (by rw [hm0];rfl) ?_
      refine ⟨rfl,?_⟩
      rw [Bool.not_eq_true',hflat]
      constructor
      ·intro h;exact ⟨m.f,by rw [htk];simp,h⟩
      ·rintro ⟨f,hf,h⟩
       rw [htk] at hf
       rcases List.mem_append.1 hf with hf | hf
       ·have:=hfl.2 ⟨f,hf,h⟩
        simp only at this
        rw [hfb] at this;cases this
       ·simp at hf;subst hf;exact h
    rintro s' W' ⟨hW',hs'⟩
    subst hW'
    have hk18:=hx218.get hk2 (by simp)
    obtain ⟨v,hv⟩:∃ v,(zcj K (vw (nm m.f).dropLast)).getD ((none,0,0),[])=v:=⟨_,rfl⟩
    have hlk2:=z9v (w:=W') qk3 uME zME rfl hk18 hoK (k:=vw (nm m.f).dropLast) trivial
    have hv2:((zcj K (vw (nm m.f).dropLast)).map evK).getD (.slice none 0 0)=zcr v.1:=by
     rw [← hv]
     cases zcj K (vw (nm m.f).dropLast) <;> rfl
    rw [hv2] at hlk2
    refine qm (s:=.slc) v.1 hlk2 ?_
    have hb1518:=hx18.get (hx16.get hb15 (by simp)) (by simp)
    refine je rfl hb1518 rfl ?_
    have hRow:Mine W'.heap (W.heap.size+1) zy 4 v.1 (v.2.flatMap zjx):=by
     cases hg:zcj K (vw (nm m.f).dropLast) with
     | none=>rw [hg] at hv;subst hv;exact .inl ⟨rfl,rfl⟩
     | some u =>
      rw [hg] at hv
      have hu:u=v:=hv
      subst hu
      obtain ⟨c,hc⟩:=zff hg
      exact (hR.row _ hc).ext hx218 (by simp)
    have hvl:v.2.length≤ms.length:=by
     have:=hR.get _ hokd
     cases hg:zcj K (vw (nm m.f).dropLast) with
     | none=>rw [hg] at hv;subst hv;simp
     | some u =>
      rw [hg] at hv this
      have hu:u=v:=hv
      subst hu
      rw [this.1]
      have h1:=List.length_filter_le (zvl (nm m.f).dropLast) (ms.take i)
      have h2:(ms.take i).length≤ms.length:=by simp;omega
      omega
    have hs18:=hx218.1
    refine qgn (i:=m) rfl hRow (by omega) (by omega) fun x' w21 hm21 hx21 hs21 hl21=>?_
    have hkne:W.heap.size ∉ xw v.1:=fun h=>by have:=jc hRow _ h;omega
    have hk21:=hx21.get hk18 hkne
    refine zzo _ (ztt qk3 uME (w:=w21) rfl hk21 hoK (k:=vw (nm m.f).dropLast) trivial (x',v.2++[m]) rfl) ?_
    have hx221:Ext (xw v.1) W2.heap w21.heap:=(hx218.mono (by simp)).trans hx21
    have hs221:∀ c ∈ xw x',c ∈ xw v.1 ∨ W2.heap.size≤c:=fun c hc=>by
     rcases hs21 c hc with h | h
     ·exact .inl h
     ·right;omega
    have hstep:=hR.step hoK hv hm21 hx221 hs221
    have hxk:Ext [W.heap.size] w21.heap (w21.heap.setIfInBounds W.heap.size (.map (ents keyS (vl evK (zpd K (vw (nm m.f).dropLast) (x',v.2++[m]) c2))) (zvi K (vw (nm m.f).dropLast) c2))):=Ext.set _ (by simp)
    refine xu ((i+1:Nat):Int) (by simp) (by omega) (by omega) ?_
    refine ⟨⟨i+1,_,_,rfl,by omega,?_,qw hk21,hoK.upd trivial _,⟨?_,?_,?_,?_⟩,hs',?_⟩,by simp only;omega⟩
    ·exact (hx2.own hx221 (fun c hc hlt=>by have:=jc hRow c hc;omega)).set_own (.inl (Nat.le_refl _))
    ·exact hstep.key
    ·rw [List.take_add_one,hget];exact hstep.get
    ·intro z hz
     exact (hstep.row z hz).ext hxk (fun b hb h=>by simp at h;subst h;have:=jc (hstep.row z hz) _ hb;omega)
    ·exact hstep.apart
    ·rw [htk]
     intro f hf
     rcases List.mem_append.1 hf with hf | hf
     ·exact hab f hf
     ·simp at hf;subst hf;exact hab'
  ·obtain rfl:i=ms.length:=by simp only at hge;omega
   rw [List.take_length] at hR
   have htl:(ms.map (·.f)).take ms.length=ms.map (·.f):=by rw [← hlm,List.take_length]
   rw [htl] at hfl hab
   have h4:¬ qf6 (ms.map (·.f)):=by
    rintro ⟨f,hf,h1,h2⟩
    rcases hab f hf with h | ⟨g,hg,h⟩
    ·exact h1 h
    ·exact h2 g hg h
   cases hfb:flat with
   | true =>
    have h70:z1i (ms.map (·.f)):=hfl.1 (by simpa using hfb)
    exact zab rfl ⟨none,by rw [z4r h5 h4 h70],hxH2,fun h=>by rw [z4r h5 h4 h70] at h;cases h⟩
   | false =>
    have h70:¬ z1i (ms.map (·.f)):=fun h=>by
     have:=hfl.2 h
     simp only at this
     rw [hfb] at this;cases this
    refine jl rfl ?_
    refine zad (s:=.ptr) (some ⟨W2.heap.size,0,none⟩) { W2 with heap:=W2.heap.push (.mapIter (some W.heap.size) c2 #[] c2) } (qhc uME rfl hk2) ?_
    have hxr:Ext [] W2.heap (W2.heap.push (.mapIter (some W.heap.size) c2 #[] c2)):=.push _
    have nrow:∀ {z:List UInt8 × ((Option Addr × Nat × Nat) × List ME) × Nat},z ∈ K→∃ p,okP p∧z.1=vw p∧z.2.1.2=ms.filter (zvl p)∧z.2.1.2 ≠ []:=by
     intro z hz
     obtain ⟨p,hp,e⟩:=hR.key z hz
     have hg:=zsj hoK.keys (k:=z.1) (v:=z.2.1) (c:=z.2.2) hz
     have h:=hR.get p hp
     rw [← e,hg] at h
     exact ⟨p,hp,e,h.1,h.2⟩
    refine ztz (fun k (_:Unit) W3=>∃ (seen:Array Nat) (last:Nat) (K3:KM),Ext [] H W3.heap∧W2.heap.size < W3.heap.size∧W3.heap[W.heap.size]?=some (.map (ents keyS (vl evK K3)) c2)∧W3.heap[W2.heap.size]?=some (.mapIter (some W.heap.size) c2 seen last)∧c2≤last∧MOk (fun _=>True) K3 c2∧Rows3 W3.heap (W.heap.size+1) K K3 seen∧k=(K3.filter fun y=>!seen.contains y.2.2).length)
     (K.filter fun y=>!(#[]:Array Nat).contains y.2.2).length ?_ ?_
    ·exact ⟨#[],c2,K,hxH2.trans hxr,by simp,zeg hk2,zn,Nat.le_refl _,hoK,⟨rfl,fun z hz=>⟨z,hz,rfl,rfl,.refl _⟩,fun z hz=>(hR.row z hz).ext hxr (by simp),fun z _ h=>by simp at h⟩,rfl⟩
    rintro k _ W3 ⟨seen,last,K3,hx3,hs3,hk3,hi3,hcl,hoK3,hR3,rfl⟩ Kk hKk
    rcases qkl (P:=P) (ty:=zmp) rfl hk3 hi3 (fun x hx=>hoK3.old x hx) hcl with ⟨hall,W4,hnx,hc4,hh4⟩ | ⟨x,hx,hns,W4,hnx,hc4,hh4⟩
    ·refine zad (s:=.any) _ W4 hnx ?_ hc4
     refine zxr (s:=.bool) false rfl rfl ?_
     refine jl rfl ?_
     have hget3:∀ {p v},okP p→zcj K3 (vw p)=some v→v.2.length≤64∧v.2.Pairwise (fun a b=>¬ zfz (nm b.f) (nm a.f) < 0)∧v.2.Perm (ms.filter (zvl p))∧Mine W3.heap (W.heap.size+1) zy 4 v.1 (v.2.flatMap zjx):=by
      intro p v hp hg
      obtain ⟨c,hc⟩:=zff hg
      obtain ⟨z0,hz0,e1,_,hpm⟩:=hR3.from_ _ hc
      obtain ⟨p0,hp0',e0,h0,_⟩:=nrow hz0
      have:p0=p:=zxf hp0' hp (by rw [← e0,e1])
      subst this
      obtain ⟨d1,d2⟩:=hR3.done _ hc (hall _ hc)
      exact ⟨d1,d2,by rw [← h0];exact hpm,hR3.row _ hc⟩
     have hnone:∀ {p},okP p→zcj K3 (vw p)=none→ms.filter (zvl p)=[]:=by
      intro p hp hg
      have h1:(zcj K3 (vw p)).map evK=(zcj K (vw p)).map evK:=by rw [← zv3,← zv3,hR3.vls]
      rw [hg] at h1
      have h2:zcj K (vw p)=none:=by
       cases h:zcj K (vw p) with
       | none=>rfl
       | some u=>rw [h] at h1;simp at h1
      have:=hR.get p hp
      rw [h2] at this
      exact this
     have h8:¬ qhm (ms.map (·.f)):=by
      rintro ⟨f,hf,h⟩
      have hokp:okP (nm f).dropLast:=by rw [List.dropLast_eq_take];exact (zli f).take _
      rw [← zoa hnem,List.length_map] at h
      cases hg:zcj K3 (vw (nm f).dropLast) with
      | none=>rw [hnone hokp hg] at h;simp at h
      | some v =>
       obtain ⟨d1,_,d3,_⟩:=hget3 hokp hg
       rw [← d3.length_eq] at h
       omega
     refine ⟨some W.heap.size,by rw [qau h5 h4 h70 h8],by rw [hh4];exact hx3,fun _=>⟨W.heap.size,rfl,K3,c2,by rw [hh4];exact hk3,hoK3,fun p hp=>?_⟩⟩
     cases hg:zcj K3 (vw p) with
     | none =>
      have h1:=hnone hp hg
      have h2:kids (ms.map (·.f)) p=[]:=by rw [← zoa hnem,h1];rfl
      have h3:=zzl (zh5 hnd).1 p
      rw [h2] at h3
      exact h3.eq_nil
     | some v =>
      obtain ⟨d1,d2,d3,d4⟩:=hget3 hp hg
      refine ⟨qa3 d3 (zoa hnem) hnd d2,?_,fun m hm=>?_⟩
      ·rw [hh4];exact d4.mono (Nat.zero_le _)
      ·have hmm:m ∈ ms:=(List.mem_filter.1 (d3.mem_iff.1 hm)).1
       rw [hh4];exact Mine.ext (hN m hmm) hx3 (by simp)
    ·refine zad (s:=.any) _ W4 hnx ?_ hc4
     refine zxr (s:=.bool) true rfl rfl ?_
     refine zab rfl ?_
     have hilt:=lt_of_get hi3
     have hx34:Ext [W2.heap.size] W3.heap W4.heap:=by rw [hh4];exact Ext.set _ (by simp)
     have hi4:W4.heap[W2.heap.size]?=some (.mapIter (some W.heap.size) c2 (seen.push x.2.2) c2):=by rw [hh4];exact Array.getElem?_setIfInBounds_self_of_lt hilt
     have hk4:=hx34.get hk3 (by simp;omega)
     refine qm (s:=.any) _ (qfw (last:=c2) rfl hk4 hi4 hx hoK3) ?_
     refine zxr (s:=.slc) x.2.1.1 rfl rfl ?_
     have hrow3:=hR3.row x hx
     have hrow4:Mine W4.heap (W.heap.size+1) zy 4 x.2.1.1 (x.2.1.2.flatMap zjx):=hrow3.ext hx34 (fun b hb h=>by
      simp at h;subst h
      obtain ⟨_,c',T',fr',hcell⟩:=za9 hrow3 _ hb
      rw [hi3] at hcell;cases hcell)
     have hxl:x.2.1.1.2.1=x.2.1.2.length:=by have:=hrow3.len;rw [qg zjx zil] at this;omega
     obtain ⟨z0,hz0,e1,e2,hpm⟩:=hR3.from_ x hx
     obtain ⟨p0,hp0',e0,h0,h0n⟩:=nrow hz0
     have hH34:Ext [] H W4.heap:=hx3.own hx34 (by intro c hc hlt;simp at hc;omega)
     refine zq (fun hbig=>?_) (fun hsmall=>?_)
     ·have h8:qhm (ms.map (·.f)):=by
       obtain ⟨m,hm⟩:=List.exists_mem_of_ne_nil _ h0n
       rw [h0] at hm
       obtain ⟨h1,h2⟩:=List.mem_filter.1 hm
       refine ⟨m.f,List.mem_map.2 ⟨m,h1,rfl⟩,?_⟩
       have:(nm m.f).dropLast=p0:=by simpa [zvl] using h2
       rw [this,← zoa hnem,List.length_map,← h0,← hpm.length_eq]
       omega
      exact ⟨none,by rw [qa1 h5 h4 h70 h8],hH34,fun h=>by rw [qa1 h5 h4 h70 h8] at h;cases h⟩
     ·have hes:∀ m ∈ x.2.1.2,zq9 W4.heap m:=fun m hm=>by
       have hm2:=hpm.mem_iff.1 hm
       rw [h0] at hm2
       exact Mine.ext (hN m (List.mem_filter.1 hm2).1) hH34 (by simp)
      have hne2:x.2.1.2 ≠ []:=fun h=>h0n (by rw [h] at hpm;exact hpm.nil_eq.symm)
      refine zl (l:=[]) (qli rfl hrow4 hes hne2 (by omega)) ?_
      rintro e W5 ⟨rfl,ys,hys,hso,hm5,hx45⟩
      refine ⟨(),rfl,?_⟩
      have hii:W2.heap.size ∉ xw x.2.1.1:=fun h=>by
       obtain ⟨_,c',T',fr',hcell⟩:=za9 hrow4 _ h
       rw [hi4] at hcell;cases hcell
      have hkk:W.heap.size ∉ xw x.2.1.1:=fun h=>by have:=jc hrow4 _ h;omega
      have hi5:=hx45.get hi4 hii
      have hk5:=hx45.get hk4 hkk
      have s5:=hx45.1
      have s4:=hx34.1
      obtain ⟨K4,hK4⟩:∃ K4:KM,K4=K3.map fun z=>(z.1,(if z.2.2=x.2.2 then (z.2.1.1,ys) else z.2.1),z.2.2):=⟨_,rfl⟩
      have hvl:vl evK K4=vl evK K3:=by
       rw [hK4]
       unfold vl
       rw [List.map_map]
       apply List.map_congr_left
       intro z _
       simp only [Function.comp]
       split <;> rfl
      have hoK4:MOk (fun _=>True) K4 c2:=by rw [hK4];exact MOk.map_val hoK3 _
      have hcount:(K4.filter fun y=>!(seen.push x.2.2).contains y.2.2).length=(K3.filter fun y=>!(seen.push x.2.2).contains y.2.2).length:=by
       rw [hK4,List.filter_map,List.length_map];rfl
      refine hKk _ _ _ (by rw [hcount];exact qhd hx hns) ⟨seen.push x.2.2,c2,K4,hH34.own hx45 (fun c hc hlt=>by have:=jc hrow4 c hc;omega),by omega,by rw [hvl];exact hk5,hi5,Nat.le_refl _,hoK4,⟨hvl.trans hR3.vls,fun z hz=>?_,fun z hz=>?_,fun z hz hin=>?_⟩,rfl⟩
      ·rw [hK4] at hz
       obtain ⟨y,hy,rfl⟩:=List.mem_map.1 hz
       obtain ⟨y0,hy0,f1,f2,f3⟩:=hR3.from_ y hy
       by_cases e:y.2.2=x.2.2
       ·have hyx:y=x:=Go.Fw.born_inj hoK3 hy hx e
        subst hyx
        exact ⟨y0,hy0,f1,by simp only [if_pos];exact f2,by simp only [if_pos];exact hys.trans f3⟩
       ·exact ⟨y0,hy0,f1,by simp only [if_neg e];exact f2,by simp only [if_neg e];exact f3⟩
      ·rw [hK4] at hz
       obtain ⟨y,hy,rfl⟩:=List.mem_map.1 hz
       by_cases e:y.2.2=x.2.2
       ·have hyx:y=x:=Go.Fw.born_inj hoK3 hy hx e
        subst hyx
        simp only [if_pos]
        exact hm5
       ·simp only [if_neg e]
        have hr4:Mine W4.heap (W.heap.size+1) zy 4 y.2.1.1 (y.2.1.2.flatMap zjx):=(hR3.row y hy).ext hx34 (fun b hb h=>by
         simp at h;subst h
         obtain ⟨_,c',T',fr',hcell⟩:=za9 (hR3.row y hy) _ hb
         rw [hi3] at hcell;cases hcell)
        refine hr4.ext hx45 ?_
        obtain ⟨y0,hy0,f1,f2,_⟩:=hR3.from_ y hy
        have hne1:y0.1 ≠ z0.1:=fun h=>by
         rw [f1,e1] at h
         exact e (by rw [Go.Fw.key_inj hoK3 hy hx h])
        have:=hR.apart y0 hy0 z0 hz0 hne1
        rw [f2,e2] at this
        exact this
      ·rw [hK4] at hz
       obtain ⟨y,hy,rfl⟩:=List.mem_map.1 hz
       by_cases e:y.2.2=x.2.2
       ·have hyx:y=x:=Go.Fw.born_inj hoK3 hy hx e
        subst hyx
        simp only [if_pos]
        exact ⟨by rw [hys.length_eq];omega,hso⟩
       ·simp only [if_neg e]
        refine hR3.done y hy ?_
        rcases Array.mem_push.1 hin with h | h
        ·exact h
        ·exact absurd h e
noncomputable def zcg (L:List Fil):Int:=if zav L ≠ 0 then zav L else zcl L
def zj1 (L:List Fil):List (List UInt8) × List UInt8:=zcn (zh2 L) 9 []
theorem zio {L:List Fil}:zj1 L=zcn (zh2 L) 9 []:=rfl
attribute [irreducible] zj1
def zwa (pre:Int) (q:Int) (r:Bl.SM) (bl:List (List UInt8) × List UInt8) (code:Int) (d:List UInt8) (r':Bl.SM):Prop :=
 (pre ≠ 0→code=pre∧d=Bl.nought∧r'=r)∧(pre=0→Bl.zz3 q r bl.1 code r'∧d=if code=0 then bl.2 else Bl.nought)
theorem qmr:zc P jg=#[.slice none 0 0]:=by kernel_rfl
theorem qnb:zc P jq=#[.map none]:=by kernel_rfl
theorem qnp:(zc P zcs).size=1:=by kernel_rfl
theorem qoy:P.cellsOf zcs=1:=by kernel_rfl
theorem qf7 {L:List Fil} (h:zav L=0):∀ f ∈ L,f.data.length≤1024:=by
 unfold zav at h
 split at h
 ·rename_i h1;exact absurd h h1
 ·split at h
  ·cases h
  ·split at h
   ·cases h
   ·rename_i h2
    intro f hf
    have:qej f=false:=by
     rw [← Bool.not_eq_true]
     exact fun hb=>h2 (List.any_eq_true.2 ⟨f,hf,hb⟩)
    simpa [qej] using this
theorem qcs {L:List Fil} (h:zcl L=0):¬ z1h L∧¬ qhm L:=by
 unfold zcl at h
 by_cases h5:z1h L
 ·rw [if_pos h5] at h;cases h
 ·rw [if_neg h5] at h
  by_cases h4:qf6 L
  ·rw [if_pos h4] at h;cases h
  ·rw [if_neg h4] at h
   by_cases h70:z1i L
   ·rw [if_pos h70] at h;cases h
   ·rw [if_neg h70] at h
    by_cases h8:qhm L
    ·rw [if_pos h8] at h;cases h
    ·exact ⟨h5,h8⟩
theorem z6a {L:List Fil} (h5:¬ z1h L) (hd:∀ f ∈ L,f.data.length≤1024):(zj1 L).1.length≤1+18 * L.length:=by
 obtain ⟨hp,hr⟩:=zh5 (zj8 h5).1
 have h:=qdg hr (fun f hf=>hd f (hp.mem_iff.1 hf)) 9 []
 have h2:=List.length_filter_le (fun f=>zc1 (nm f) [] && decide ((([]:Path)).length < (nm f).length)) (zh2 L)
 have h3:=hp.length_eq
 rw [zio]
 omega
theorem zll {w:World} {H:Heap} {b:Nat} {R:Array Value→World→Prop} (hw:w.heap=H) (hb:H[b]?=some (.cells (zc P zf) zf (0,0))) (hR:∀ w',Ext [b] H w'.heap→R (byteCells Bl.nought).toArray w') :
  zaz P (Instr.build zf #[]) .any w fun (t:Value)=>zby P (storeVar zf (⟨b,0,none⟩:Addr) t) w fun w2=>ldA P 32 (⟨b,0,none⟩:Addr) w2 fun t4=>R t4 w2:=by
 refine qm (s:=.any) (arr Bl.nought) (Bl.b27 _) ?_
 refine z9j Bl.zd1 hw hb zcD fun w2 hw2=>?_
 have hb2:w2.heap[b]?=some (.cells (byteCells Bl.nought).toArray zf (0,0)):=by rw [hw2];exact qw hb
 refine je rfl hb2 (by simp [Bl.zd1]) ?_
 exact hR w2 (by rw [hw2];exact Ext.set _ (by simp))
set_option maxHeartbeats 1000000 in
theorem qi6 {w:World} {H:Heap} {fp:List Nat} {p:Nat} {q:Int} {r:Bl.SM} {c:Nat} {a:Option Addr} {n nc:Nat} {L:List Fil} (hw:w.heap=H) (hS:Bl.Store H fp p q r c) (hfp:∀ b ∈ fp,b < H.size) (hRo:Bl.Rounds H) (h0:0 ∉ fp)
  (hL:Cells H a (L.flatMap zbc)) (hn:n=L.length) (hm:L.length≤65536) (hb:Bl.total r < 1000000000000) (hq:0≤q) (hq2:q≤9223372036854775807) (hlen:∀ k L,Bl.zay r k=some L→L.length < 1099511627776) :
  qj P zpp #[.pointer (some ⟨p,0,none⟩),.slice a n nc] w fun e w'=>∃ code d r' c' fp',e=.returned (.tuple #[arr d,.int .i64 code])∧d.length=32∧Bl.Store w'.heap fp' p q r' c'∧Ext fp H w'.heap∧(∀ b ∈ fp',b < w'.heap.size)∧(∀ b ∈ fp',b ∈ fp ∨ H.size≤b) ∧
   zwa (zcg L) q r (zj1 L) code d r'∧Bl.total r'≤Bl.total r+4096 * (1+18 * L.length):=by
 refine z4v ?_
 unfold zpu
 have hpl:=hS.lt
 have hH0:0 < H.size:=by obtain ⟨_,_,_,h,_⟩:=hRo;exact lt_of_get h
 refine jv hw fun w1 hw1=>?_
 have hx1:Ext [] H w1.heap:=by rw [hw1];exact .push _
 have hd1:w1.heap[H.size]?=some (.cells (zc P zf) zf (0,0)):=by rw [hw1];exact zn
 refine jl rfl ?_
 refine zl (qio rfl (hL.ext hx1 (by simp)) hn hm) ?_
 rintro e w3 ⟨x,rfl,hx3,h3⟩
 refine ⟨(x,zav L),rfl,?_⟩
 have hd3:=hx3.get hd1 (by simp)
 have hx03:=hx1.trans hx3
 have hn0:∀ {w':World} {H':Heap},H.size≤H'.size→Ext [] H H'→Ext [H.size] H' w'.heap→Ext fp H w'.heap:=fun _ hxa hxb=>(hxa.mono (by simp)).own hxb (fun c hc hlt=>by simp at hc;omega)
 have bad:∀ {H':Heap} {w':World} {code:Int},code ≠ 0→zcg L=code→Ext [] H H'→Ext [H.size] H' w'.heap→∃ code' d r' c' fp',Ending.returned (.tuple #[arr Bl.nought,.int .i64 code])=.returned (.tuple #[arr d,.int .i64 code'])∧d.length=32∧Bl.Store w'.heap fp' p q r' c'∧Ext fp H w'.heap∧(∀ b ∈ fp',b < w'.heap.size)∧(∀ b ∈ fp',b ∈ fp ∨ H.size≤b) ∧
   zwa (zcg L) q r (zj1 L) code' d r'∧Bl.total r'≤Bl.total r+4096 * (1+18 * L.length):=by
  intro H' w' code h0' hc hxa hxb
  have hxx:Ext fp H w'.heap:=(hxa.mono (by simp)).own hxb (fun c hc hlt=>by simp at hc;omega)
  have hsz:=hxx.1
  refine ⟨code,Bl.nought,r,c,fp,rfl,Bl.zd1,(hS.ext hxa (by simp)).ext hxb (fun b hb h=>by simp at h;have:=hfp b hb;omega),hxx,fun b hb=>by have:=hfp b hb;omega,fun b hb=>.inl hb,⟨fun _=>⟨hc.symm,rfl,rfl⟩,fun h=>absurd (hc.symm.trans h) h0'⟩,by omega⟩
 refine zb1 (fun hc=>?_) (fun hc=>?_)
 ·exact zll rfl hd3 fun w4 hx4=>bad hc (by simp only at hc;rw [zcg,if_pos hc]) hx03 hx4
 simp only at hc
 have hchk:zcg L=zcl L:=by rw [zcg,if_neg (by simpa using hc)]
 obtain ⟨ms,rfl,hm3,hN3⟩:=h3 hc
 simp only [List.length_map] at *
 have hxl:x.2.1=ms.length:=by
  have:=hm3.len
  rw [qg zjx zil] at this
  omega
 refine zl (qiz (ms:=ms) rfl hm3.cells hxl hm hN3) ?_
 rintro e w5 ⟨v,rfl,hx5,h5⟩
 refine ⟨(v,zcl (ms.map (·.f))),rfl,?_⟩
 have hx05:=hx03.trans hx5
 have hd5:=hx5.get hd3 (by simp)
 refine jv rfl fun w6 hw6=>?_
 have hx6:Ext [] w5.heap w6.heap:=by rw [hw6];exact .push _
 have hb6:w6.heap[w5.heap.size]?=some (.cells #[.map none] jq (0,0)):=by rw [hw6,qnb];exact zn
 refine zcd rfl hb6 (by simp) fun w7 hw7=>?_
 have hx7:Ext [] w5.heap w7.heap:=by rw [hw7];exact hx6.set_own (.inl (Nat.le_refl _))
 have hb7:w7.heap[w5.heap.size]?=some (.cells #[.map v] jq (0,0)):=by rw [hw7];exact qw hb6
 have hx07:=hx05.trans hx7
 have hd7:=hx7.get hd5 (by simp)
 refine zb1 (fun hs=>?_) (fun hs=>?_)
 ·exact zll rfl hd7 fun w8 hx8=>bad hs hchk hx07 hx8
 simp only at hs
 obtain ⟨mk,rfl,hK5⟩:=h5 hs
 obtain ⟨n5,n8⟩:=qcs hs
 have hdl:=qf7 hc
 obtain ⟨hperm,hrise⟩:=zh5 (zj8 n5).1
 refine jv rfl fun w9 hw9=>?_
 have hx9:Ext [] w7.heap w9.heap:=by rw [hw9];exact .push _
 have hb9:w9.heap[w7.heap.size]?=some (.cells #[zcr (none,0,0)] jg (0,0)):=by rw [hw9,qmr];exact zn
 refine jv rfl fun w10 hw10=>?_
 have hx10:Ext [] w9.heap w10.heap:=by rw [hw10];exact .push _
 have hf10:w10.heap[w9.heap.size]?=some (.cells (zc P zcs) zcs (0,0)):=by rw [hw10];exact zn
 refine qm (s:=.any) (zwr w5.heap.size w9.heap.size w7.heap.size) rfl ?_
 have s1:=lt_of_get hd1
 have s5:=hx03.1
 have s6:=lt_of_get hb7
 have s9:=lt_of_get hb9
 have s10:=lt_of_get hf10
 have sx5:=hx5.1
 have sx3:=hx3.1
 have hx010:=(hx07.trans hx9).trans hx10
 refine zbj (v:=zwr w5.heap.size w9.heap.size w7.heap.size) (by rw [qoy];rfl) (by simp [Value.cells,zwr]) (by intro v hv;simp [Value.cells,zwr] at hv;subst hv;rfl) rfl hf10 (by rw [qnp];simp [Value.cells,zwr]) fun w11 hw11=>?_
 have hset:setCells (zc P zcs) 0 (zwr w5.heap.size w9.heap.size w7.heap.size).cells.toList=#[zwr w5.heap.size w9.heap.size w7.heap.size]:=by
  rw [zan (by rw [qnp];rfl)];rfl
 rw [hset] at hw11
 have hx1011:Ext [w9.heap.size] w10.heap w11.heap:=by rw [hw11];exact Ext.set _ (by simp)
 have hx911:Ext [] w9.heap w11.heap:=by rw [hw11];exact hx10.set_own (.inl (Nat.le_refl _))
 have hf11:w11.heap[w9.heap.size]?=some (.cells #[zwr w5.heap.size w9.heap.size w7.heap.size] zcs (0,0)):=by rw [hw11];exact qw hf10
 refine jh (s:=.any) (t:=zwr w5.heap.size w9.heap.size w7.heap.size) rfl hf11 rfl ?_
 have hx711:=hx9.trans hx911
 have hx511:=hx7.trans hx711
 have hx011:=hx05.trans hx511
 have hD11:DirSt w11.heap w5.heap.size w9.heap.size w7.heap.size mk w11.heap.size (zh2 (ms.map (·.f))) (none,0,0) [] :=
  ⟨hx711.get hb7 (by simp),hf11,hx911.get hb9 (by simp),hK5.keep hx511 (by simp),.nil,hRo.ext hx011 (by simp),by omega⟩
 have s11:=hx911.1
 have hlen1:=z6a n5 hdl
 simp only [List.length_map] at hlen1
 refine zqp (args:=#[.string (strOf (vw []))]) ?_
 refine (zxh (zh2 (ms.map (·.f))) (fun f hf=>hdl f (hperm.mem_iff.1 hf)) hrise (fun p=>qi0 n5 n8 p) 9 (w:=w11) (p:=[]) rfl hD11 (by omega) (Nat.le_refl _) (by simp [okP]) (by simp) (by rw [zio] at hlen1;rw [List.length_nil];omega)).mono ?_
 rintro e w12 ⟨x2,rfl,hD12,hx12,hs12⟩
 rw [← zio] at hD12 ⊢
 have h32:(zj1 (ms.map (·.f))).2.length=32:=by rw [zio];exact zf7
 generalize zj1 (ms.map (·.f))=T at *
 refine ⟨arr T.2,rfl,?_⟩
 have hbl:za3 w12.heap w11.heap.size x2 T.1:=hD12.blobs
 refine jv rfl fun w13 hw13=>?_
 have hx13:Ext [] w12.heap w13.heap:=by rw [hw13];exact .push _
 have hd13:w13.heap[w12.heap.size]?=some (.cells (zc P zf) zf (0,0)):=by rw [hw13];exact zn
 refine z9j (k:=T.2) h32 rfl hd13 zcD fun w14 hw14=>?_
 have hx14:Ext [] w12.heap w14.heap:=by rw [hw14];exact hx13.set_own (.inl (Nat.le_refl _))
 have hd14:w14.heap[w12.heap.size]?=some (.cells (byteCells T.2).toArray zf (0,0)):=by rw [hw14];exact qw hd13
 refine jh (s:=.slc) (t:=x2) rfl (hx14.get hD12.b (by simp)) rfl ?_
 have hx012:Ext [] H w12.heap:=hx011.own hx12 (fun b hb hlt=>by
  rcases List.mem_cons.1 hb with h | h
  ·omega
  ·simp [xw] at h)
 have hx014:=hx012.trans hx14
 have s12:=hx12.1
 have s14:=hx14.1
 have hS14:=hS.ext hx014 (by simp)
 have htot:Bl.total r+4096 * T.1.length < 1125899906842624:=by omega
 refine zl (Bl.qj2 rfl hS14 (fun b hb=>by have:=hfp b hb;have:=hx014.1;omega) (hRo.ext hx014 (by simp)) h0 ((hbl.ext hx14 (by simp)).rows) htot hq hq2 hlen) ?_
 rintro e w15 ⟨code,r',c',fp',rfl,hS15,hx15,hf1,hf2,hP,ht⟩
 refine ⟨code,rfl,?_⟩
 have s014:=hx014.1
 have nfp:∀ {b:Nat},H.size≤b→b ∉ fp:=fun h hb=>by have:=hfp _ hb;omega
 have hd14':w14.heap[H.size]?=some (.cells (zc P zf) zf (0,0)):=hx14.get (hx12.get (hx711.get hd7 (by simp)) (by simp [xw];omega)) (by simp)
 have hd15:=hx15.get hd14' (nfp (Nat.le_refl _))
 have he15:=hx15.get hd14 (nfp (by omega))
 have hx015:Ext fp H w15.heap:=(hx014.mono (by simp)).trans hx15
 have s15:=hx15.1
 have fin:∀ {w':World} {d:List UInt8},Ext [H.size] w15.heap w'.heap→d.length=32→d=(if code=0 then T.2 else Bl.nought)→∃ code' d' r'' c'' fp'',Ending.returned (.tuple #[arr d,.int .i64 code])=.returned (.tuple #[arr d',.int .i64 code'])∧d'.length=32∧Bl.Store w'.heap fp'' p q r'' c''∧Ext fp H w'.heap∧(∀ b ∈ fp'',b < w'.heap.size)∧(∀ b ∈ fp'',b ∈ fp ∨ H.size≤b) ∧
   zwa (zcg (ms.map (·.f))) q r T code' d' r''∧Bl.total r''≤Bl.total r+4096 * (1+18 * ms.length):=by
  intro w' d hxb hdl' hd'
  have s':=hxb.1
  refine ⟨code,d,r',c',fp',rfl,hdl',hS15.ext hxb (fun b hb h=>?_),hx015.own hxb (fun c hc hlt=>by simp at hc;omega),fun b hb=>by have:=hf1 b hb;omega,fun b hb=>?_,⟨fun h=>absurd (hchk.trans hs) h,fun _=>⟨hP,hd'⟩⟩,by omega⟩
  ·simp at h;subst h
   rcases hf2 _ hb with h | h
   ·exact nfp (Nat.le_refl _) h
   ·omega
  ·rcases hf2 _ hb with h | h
   ·exact .inl h
   ·right;omega
 refine zb1 (fun h1=>?_) (fun h1=>?_)
 ·exact zll rfl hd15 fun w16 hx16=>fin hx16 Bl.zd1 (by rw [if_neg h1])
 ·refine je rfl he15 (by simp [h32]) ?_
  refine z9j (k:=T.2) h32 rfl hd15 zcD fun w17 hw17=>?_
  have hx17:Ext [H.size] w15.heap w17.heap:=by rw [hw17];exact Ext.set _ (by simp)
  have hd17:w17.heap[H.size]?=some (.cells (byteCells T.2).toArray zf (0,0)):=by rw [hw17];exact qw hd15
  refine je rfl hd17 (by simp [h32]) ?_
  subst h1
  exact fin hx17 h32 (by rw [if_pos rfl])
theorem qe7 {D:List UInt8} (hD:D.length≤1024):∀ L ∈ zhi D,L.length≤10000000000:=by
 intro L hL
 rcases List.mem_append.1 hL with h | h
 ·obtain ⟨j,_,rfl⟩:=List.mem_map.1 h
  have:=zo6 (D:=D) (j:=j)
  omega
 ·simp only [List.mem_singleton] at h
  subst h
  have:=zsw (D:=D) (k:=npc D) (by unfold npc;omega)
  omega
theorem z9y {S:List Fil} (hd:∀ f ∈ S,f.data.length≤1024) (hSl:S.length≤65536):∀ (n:Nat) (p:Path),p.length+n=9→∀ L ∈ (zcn S n p).1,L.length≤10000000000
 | 0,p,_,L,hL=>by simp [zcn] at hL
 | n+1,p,hn,L,hL=>by
  simp only [zcn,List.mem_append,List.mem_singleton] at hL
  rcases hL with h | rfl
  ·rw [zkq] at h
   obtain ⟨b,hb,hLb⟩:=List.mem_flatten.1 h
   obtain ⟨f,hf,rfl⟩:=List.mem_map.1 hb
   obtain ⟨h1,h2,h3⟩:=zf2 hf
   unfold zpl at hLb
   by_cases hfd:f.dir
   ·rw [if_pos hfd] at hLb
    exact z9y hd hSl n (nm f) (by
     have:=congrArg List.length h3
     have h4:0 < (nm f).length:=List.length_pos_iff.2 h2
     simp at this;omega) L hLb
   ·rw [if_neg hfd] at hLb
    exact qe7 (hd f h1) L hLb
  ·have hkm:∀ f ∈ kids S p,nm f ≠ []∧(nm f).dropLast=p:=fun f hf=>(zf2 hf).2
   exact z4k (zx4 (rec:=zcn S n) (fun f hf=>(hkm f hf).1) (Nat.le_trans (List.length_filter_le _ _) hSl)) (qhx (S:=S) hn hkm)
theorem qex {L:List Fil} (h5:¬ z1h L) (hd:∀ f ∈ L,f.data.length≤1024) (hL:L.length≤65536):∀ b ∈ (zj1 L).1,b.length≤10000000000:=by
 obtain ⟨hp,hr⟩:=zh5 (zj8 h5).1
 rw [zio]
 exact z9y (fun f hf=>hd f (hp.mem_iff.1 hf)) (by rw [hp.length_eq];exact hL) 9 [] rfl
theorem qni {w:World} {H H0:Heap} {fp:List Nat} {p bd:Nat} {q:Int} {r:Bl.SM} {x:Option Addr × Nat × Nat} {T:List (List UInt8) × List UInt8} {B:Nat} (hw:w.heap=H) (hx0:Ext [] H0 H) (hS:Bl.zeq H0 fp p q r) (hfp:∀ b ∈ fp,b < H0.size) (hbd:H0.size≤bd)
  (hd:H[bd]?=some (.cells (zc P zf) zf (0,0))) (hbl:za3 H B x T.1) (h32:T.2.length=32) (hl:∀ L ∈ T.1,L.length≤10000000000)
  (hb:Bl.total r < 1000000000000) (hTl:T.1.length≤200000000) (hn:r.length < 100000000000) (hq:0≤q) (hq2:q≤9223372036854775807) (hlen:∀ x ∈ r,x.2.1.2.length < 1099511627776) {R:Ending→World→Prop}
  (hR:∀ code d r' fp' w',d.length=32→Bl.zeq w'.heap fp' p q r'→Ext fp H0 w'.heap→(∀ b ∈ fp',b < w'.heap.size)→(∀ b ∈ fp',b ∈ fp ∨ H0.size≤b)→Bl.zz3 q r T.1 code r'→d=(if code=0 then T.2 else Bl.nought)→r'.length≤r.length+T.1.length→Bl.total r'≤Bl.total r+4096 * T.1.length→(∀ x ∈ r',x.2.1.2.length < 1099511627776)→R (.returned (.tuple #[arr d,.int .i64 code])) w') :
  zbn (zc P zf) zf w fun b9 w_5 =>
  zby P (storeVar zf (⟨b9,0,none⟩:Addr) (arr T.2)) w_5 fun w_6 =>
  xg P ze2 #[(Value.pointer (some ⟨p,0,none⟩)),(Value.slice x.1 x.2.1 x.2.2)] [.int .i64] false w_6 fun (t26:Int) w_7 =>
  xk (t26 != 0) (
  zaz P (Instr.build zf #[]) .any w_7 fun (t29:Value) =>
  zby P (storeVar zf (⟨bd,0,none⟩:Addr) t29) w_7 fun w_8 =>
  ldA P 32 (⟨bd,0,none⟩:Addr) w_8 fun t4_1 =>
  R (.returned (Value.tuple #[(Value.agg t4_1),(Value.int .i64 t26)])) w_8) (
  ldA P 32 (⟨b9,0,none⟩:Addr) w_7 fun t31 =>
  zby P (storeVar zf (⟨bd,0,none⟩:Addr) (Value.agg t31)) w_7 fun w_9 =>
  ldA P 32 (⟨bd,0,none⟩:Addr) w_9 fun t4_2 =>
  R (.returned (Value.tuple #[(Value.agg t4_2),(Value.int .i64 0)])) w_9):=by
 subst hw
 refine jv rfl fun w13 hw13=>?_
 have hx13:Ext [] w.heap w13.heap:=by rw [hw13];exact .push _
 have hd13:w13.heap[w.heap.size]?=some (.cells (zc P zf) zf (0,0)):=by rw [hw13];exact zn
 refine z9j (k:=T.2) h32 rfl hd13 zcD fun w14 hw14=>?_
 have hx14:Ext [] w.heap w14.heap:=by rw [hw14];exact hx13.set_own (.inl (Nat.le_refl _))
 have hd14:w14.heap[w.heap.size]?=some (.cells (byteCells T.2).toArray zf (0,0)):=by rw [hw14];exact qw hd13
 have hx014:=hx0.trans hx14
 have s0:=hx0.1
 have s14:=hx14.1
 have hbl2:=lt_of_get hd
 have hS14:=hS.ext hx014 (by simp)
 refine zl (Bl.qfz rfl hS14 (fun b hb=>by have:=hfp b hb;have:=hx014.1;omega) ((hbl.ext hx14 (by simp)).rows) (by omega) (by omega) hq hq2 hlen (fun L hL=>by have:=hl L hL;omega)) ?_
 rintro e w15 ⟨code,r',fp',rfl,hS15,hx15,hf,hP,hl1,hl2,hl3⟩
 refine ⟨code,rfl,?_⟩
 have nfp:∀ {b:Nat},H0.size≤b→b ∉ fp:=fun h hb=>by have:=hfp _ hb;omega
 have hd15:=hx15.get (hx14.get hd (by simp)) (nfp hbd)
 have he15:=hx15.get hd14 (nfp s0)
 have hx015:Ext fp H0 w15.heap:=(hx014.mono (by simp)).trans hx15
 have s15:=hx15.1
 have fin:∀ {w':World} {d:List UInt8},Ext [bd] w15.heap w'.heap→d.length=32→d=(if code=0 then T.2 else Bl.nought)→R (.returned (.tuple #[arr d,.int .i64 code])) w':=by
  intro w' d hxb hdl' hd'
  have s':=hxb.1
  refine hR code d r' fp' w' hdl' (hS15.ext hxb (fun b hb h=>?_)) (hx015.own hxb (fun c hc hlt=>by simp at hc;omega)) (fun b hb=>?_) (fun b hb=>?_) hP hd' hl1 hl2 hl3
  ·simp at h;subst h
   rcases hf _ hb with h | h
   ·exact nfp hbd h
   ·omega
  ·rcases hf _ hb with h | h
   ·have:=hfp _ h;omega
   ·omega
  ·rcases hf _ hb with h | h
   ·exact .inl h
   ·right;omega
 refine zb1 (fun h1=>?_) (fun h1=>?_)
 ·exact zll rfl hd15 fun w16 hx16=>fin hx16 Bl.zd1 (by rw [if_neg h1])
 ·refine je rfl he15 (by simp [h32]) ?_
  refine z9j (k:=T.2) h32 rfl hd15 zcD fun w17 hw17=>?_
  have hx17:Ext [bd] w15.heap w17.heap:=by rw [hw17];exact Ext.set _ (by simp)
  have hd17:w17.heap[bd]?=some (.cells (byteCells T.2).toArray zf (0,0)):=by rw [hw17];exact qw hd15
  refine je rfl hd17 (by simp [h32]) ?_
  subst h1
  exact fin hx17 h32 (by rw [if_pos rfl])
def qop (H:Heap) (fp:List Nat) (p:Nat) (q:Int) (r:Bl.SM) (pre:Int) (T:List (List UInt8) × List UInt8) (k:Nat) (e:Ending) (w':World):Prop :=
 ∃ code d r' fp',e=.returned (.tuple #[arr d,.int .i64 code])∧d.length=32∧Bl.zeq w'.heap fp' p q r'∧Ext fp H w'.heap∧(∀ b ∈ fp',b < w'.heap.size)∧(∀ b ∈ fp',b ∈ fp ∨ H.size≤b) ∧
   zwa pre q r T code d r'∧r'.length≤r.length+k∧Bl.total r'≤Bl.total r+4096 * k∧∀ x ∈ r',x.2.1.2.length < 1099511627776
theorem qfu {T E:TypeId} {sz:Nat} {H:Heap} {a:Option Addr} {l c:Nat} {vs:List Value} {i:Nat} {n:Int} (hu:P.underlying T=some (.slice E)) (hs:(P.info? E).map (·.size)=some sz) (hL:Cells H a vs) (hc:l≤c) (hi:i≤l) (hn:n=(i:Int)) :
  ∃ a',(∀ w,(Instr.sliceAt T (.slice a l c) none (some (.int .i64 n)) none).run P w=.ok (.slice a' i c) w)∧Cells H a' (vs.take (i * sz)):=by
 refine ⟨_,fun w=>zaq (l:=0) (h:=i) hu hs .no (.yes hn) (Nat.zero_le _) (by omega),?_⟩
 by_cases h:c=0
 ·rw [if_pos h];exact hL.take _
 ·rw [if_neg h,Nat.zero_mul]
  have:=hL.part 0 vs.length (by omega)
  simp only [List.drop_zero,List.take_length] at this
  exact this.take _
theorem qiq {T E:TypeId} {sz:Nat} {H:Heap} {a:Option Addr} {l c:Nat} {vs:List Value} {i:Nat} {n:Int} (hu:P.underlying T=some (.slice E)) (hs:(P.info? E).map (·.size)=some sz) (hL:Cells H a vs) (hv:vs.length=l * sz) (hc:l≤c) (hi:i≤l) (hn:n=(i:Int)) :
  ∃ a',(∀ w,(Instr.sliceAt T (.slice a l c) (some (.int .i64 n)) none none).run P w=.ok (.slice a' (l - i) (c - i)) w)∧Cells H a' (vs.drop (i * sz)):=by
 refine ⟨_,fun w=>zaq (l:=i) (h:=l) hu hs (.yes hn) .no (by omega) (by omega),?_⟩
 by_cases h:c=i
 ·left
  rw [List.drop_eq_nil_of_le]
  rw [hv,show l=i by omega];exact Nat.le_refl _
 ·rw [if_neg h]
  have h1:i * sz≤l * sz:=Nat.mul_le_mul_right _ hi
  have:=hL.part (i * sz) (vs.length - i * sz) (by omega)
  rwa [List.take_of_length_le (by simp)] at this
theorem uFs:P.underlying zo=some (.slice zk):=by kernel_rfl
theorem qo7:(P.info? zk).map (·.size)=some 3:=by kernel_rfl
theorem EFi:Elem P zk 3 40:=zn0 (z:=.agg #[.string .empty,.bool false,.string .empty]) (by kernel_rfl) rfl
theorem qnx:P.underlying zb6=some (.slice qp):=by kernel_rfl
theorem qoo:(P.info? qp).map (·.size)=some 1:=by kernel_rfl
theorem qah (S:List Fil):(S.flatMap zbc).length=S.length * 3:=by rw [qg zbc zbg]
theorem qoa {S:List Fil}:zcz (S.flatMap zbc):=by
 intro v hv
 obtain ⟨i,_,hi⟩:=List.mem_flatMap.1 hv
 exact ztj v hi
theorem qnl {S:List Fil} {i:Nat} (hi:i≤S.length):(S.flatMap zbc).take (i * 3)=(S.take i).flatMap zbc:=by
 have h1:S.flatMap zbc=(S.take i).flatMap zbc++(S.drop i).flatMap zbc:=by rw [← List.flatMap_append,List.take_append_drop]
 have h2:((S.take i).flatMap zbc).length=i * 3:=by rw [qah,List.length_take,Nat.min_eq_left hi]
 rw [h1,List.take_left' h2]
theorem qm5 {S:List Fil} {i:Nat} (hi:i≤S.length):(S.flatMap zbc).drop (i * 3)=(S.drop i).flatMap zbc:=by
 have h1:S.flatMap zbc=(S.take i).flatMap zbc++(S.drop i).flatMap zbc:=by rw [← List.flatMap_append,List.take_append_drop]
 have h2:((S.take i).flatMap zbc).length=i * 3:=by rw [qah,List.length_take,Nat.min_eq_left hi]
 rw [h1,List.drop_left' h2]
theorem qpk {w:World} {H:Heap} (hw:w.heap=H) {K:(Option Addr × Nat × Nat)→World→Prop} (hK:∀ w',Ext [] H w'.heap→Mine w'.heap H.size zk 3 (some ⟨H.size,0,none⟩,0,0) (([]:List Fil).flatMap zbc)→K (some ⟨H.size,0,none⟩,0,0) w'):zal P (Instr.buildSlice zo 0 #[]) .slc w K:=by
 refine zad (s:=.slc) (some ⟨H.size,0,none⟩,0,0) { w with heap:=H.push (.cells #[] zk) } (by rw [← hw];kernel_rfl) ?_
 exact hK _ (.push _) (.inr ⟨H.size,#[],rfl,Nat.le_refl _,zn,rfl,rfl,Nat.le_refl _,rfl⟩)
theorem qn6 {w:World} {H:Heap} {B:Nat} {x:Option Addr × Nat × Nat} {a:Option Addr} {l c:Nat} {xs ys:List Fil} (hw:w.heap=H) (hx:Mine H B zk 3 x (xs.flatMap zbc)) (hB:B≤H.size) (hL:Cells H a (ys.flatMap zbc)) (hl:l=ys.length) (hlen:xs.length+ys.length≤1099511627) {K:(Option Addr × Nat × Nat)→World→Prop}
  (hK:∀ x' w',Mine w'.heap B zk 3 x' ((xs++ys).flatMap zbc)→Ext (xw x) H w'.heap→K x' w'):zal P (Builtin.append_ #[zo,zo] zo #[.slice x.1 x.2.1 x.2.2,.slice a l c]) .slc w K:=by
 have hxl:x.2.1=xs.length:=by have:=hx.len;rw [qah] at this;omega
 refine zcq EFi (by omega) uFs (za5 uFs) hw hx hB (Src.slc hw hL (by rw [qah,hl])) qoa (by omega) ?_
 intro x' w' hm hl' hx' hs
 refine hK x' w' ?_ hx'
 rw [List.flatMap_append];exact hm
theorem qn3 {w:World} {H:Heap} (f:Fil) (hw:w.heap=H) {K:(Option Addr × Nat × Nat)→World→Prop} (hK:∀ a w',Ext [] H w'.heap→Cells w'.heap a ([f].flatMap zbc)→K (a,1,1) w'):zal P (Instr.buildSlice zo 1 #[(0,.agg (zbc f).toArray)]) .slc w K:=by
 refine zad (s:=.slc) (some ⟨w.heap.size,0,none⟩,1,1) _ (zd0 EFi uFs (v:=.agg (zbc f).toArray) (by simp [Value.cells,zbg]) (by omega) (by omega)) ?_
 exact hK _ _ (by rw [← hw];exact .push _) (.inr ⟨w.heap.size,0,_,_,_,rfl,zn,by simp [Value.cells,zbc],by simp [Value.cells,zbc]⟩)
theorem qfs:∀ {S:List Fil} {f:Fil} {i:Nat},i≤S.length→(∀ g ∈ S.take i,zfz (nm g) (nm f) < 0)→(∀ g,S[i]?=some g→¬ zfz (nm g) (nm f) < 0)→z2s S f=S.take i++f :: S.drop i
 | [],f,i,_,_,_=>by simp [z2s]
 | g :: S,f,0,_,_,h2=>by
  unfold z2s
  rw [if_neg (h2 g rfl)];rfl
 | g :: S,f,i+1,hi,h1,h2=>by
  unfold z2s
  rw [if_pos (h1 g (by simp)),qfs (by simpa using hi) (fun x hx=>h1 x (by simp [hx])) (fun x hx=>h2 x (by simpa using hx))]
  rfl
set_option maxHeartbeats 4000000 in
theorem qh2 {w:World} {H:Heap} {x:Option Addr × Nat × Nat} {S:List Fil} {f:Fil} (hw:w.heap=H) (hL:Cells H x.1 (S.flatMap zbc)) (hl:x.2.1=S.length) (hc:x.2.1≤x.2.2) (hS:S.length≤1000000) :
  qj P zlr #[.slice x.1 x.2.1 x.2.2,.agg (zbc f).toArray] w fun e w'=>∃ x',e=.returned (zcr x')∧Mine w'.heap H.size zk 3 x' ((z2s S f).flatMap zbc)∧Ext [] H w'.heap:=by
 refine z4q ?_
 unfold zpw
 refine jv hw fun w1 hw1=>?_
 have hx1:Ext [] H w1.heap:=by rw [hw1];exact .push _
 have hb1:w1.heap[H.size]?=some (.cells (zbc f).toArray zk (0,0)):=by rw [hw1];exact zn
 refine joinP_of (fun (s:Int) W=>∃ i:Nat,s=(i:Int)∧i≤S.length∧(∀ g ∈ S.take i,zfz (nm g) (nm f) < 0)∧(∀ g,S[i]?=some g→¬ zfz (nm g) (nm f) < 0)∧Ext [] w1.heap W.heap) ?_ ?_
 ·refine jd (fun (s:Int) W=>∃ i:Nat,s=(i:Int)∧i≤S.length∧(∀ g ∈ S.take i,zfz (nm g) (nm f) < 0)∧Ext [] w1.heap W.heap) (fun s _=>(S.length - s).toNat) ⟨0,rfl,Nat.zero_le _,by simp,.refl _ _⟩ ?_
  rintro _ W ⟨i,rfl,hi,hlo,hxW⟩
  refine joinP_of (fun _ W'=>i < S.length∧(∀ g ∈ S.take (i+1),zfz (nm g) (nm f) < 0)∧Ext [] w1.heap W'.heap) ?_ ?_
  rotate_left
  ·rintro _ W' ⟨g1,g2,g3⟩
   refine xu ((i+1:Nat):Int) (by simp) (by omega) (by omega) ?_
   exact ⟨⟨i+1,rfl,by omega,g2,g3⟩,by omega⟩
  refine jw rfl fun w3 hw3=>?_
  have hxW3:Ext [] w1.heap w3.heap:=by rw [hw3];exact hxW
  have hb3:=hxW3.get hb1 (by simp)
  refine zq (fun hlt=>?_) (fun hge=>?_)
  ·have hil:i < S.length:=by omega
   have hget:=List.getElem?_eq_getElem hil
   generalize S[i]=g at hget
   refine Bl.zdh (i:=i) zbg (by omega) (hL.ext (hx1.trans hxW3) (by simp)) hl hget rfl fun b o c T fr _ hb hsz hcc _=>?_
   refine jh (s:=.str) (t:=strOf g.path) rfl hb (hcc 0 (by omega)) ?_
   refine jh (s:=.str) (t:=strOf f.path) rfl hb3 rfl ?_
   refine zl (z4s g.path rfl) ?_
   rintro e w4 ⟨y,rfl,hm4,hx4⟩
   refine ⟨y,rfl,⟨jh (s:=.str) (o:=0) (t:=strOf f.path) (K:=fun z=>Value.string z=Value.string (strOf f.path)) rfl (hx4.get hb3 (by simp)) rfl rfl,?_⟩⟩
   refine zl (z4s f.path rfl) ?_
   rintro e w5 ⟨z,rfl,hm5,hx5⟩
   refine ⟨z,rfl,?_⟩
   have hm4:Mine w4.heap w3.heap.size qc 1 y (strRow (nm g)):=hm4
   have hm5:Mine w5.heap w4.heap.size qc 1 z (strRow (nm f)):=hm5
   have hyl:y.2.1=(nm g).length:=by have:=hm4.len;simp at this;omega
   have hzl:z.2.1=(nm f).length:=by have:=hm5.len;simp at this;omega
   have h8:=(zli g).2
   refine zl (z2v rfl (hm4.ext hx5 (by simp)).cells hyl hm5.cells hzl (by omega)) ?_
   rintro e w6 ⟨rfl,hw6⟩
   refine ⟨zfz (nm g) (nm f),rfl,?_⟩
   have hx6:Ext [] w1.heap w6.heap:=by rw [hw6];exact (hxW3.trans hx4).trans hx5
   refine zq (fun h=>?_) (fun h=>?_)
   ·exact ⟨hil,zds hget hlo h,hx6⟩
   ·exact ⟨i,rfl,hi,hlo,fun g' hg'=>by rw [hget] at hg';cases hg';exact h,hx6⟩
  ·refine ⟨rfl,i,rfl,hi,hlo,fun g hg=>?_,hxW3⟩
   have:=(List.getElem?_eq_some_iff.1 hg).1
   omega
 ·rintro _ W ⟨i,rfl,hi,hlo,hhi,hxW⟩
  have hx:=hx1.trans hxW
  have hLW:=hL.ext hx (by simp)
  refine qpk rfl fun w9 hx9 hm9=>?_
  obtain ⟨a1,r1,c1⟩:=qfu (T:=zo) (l:=x.2.1) (c:=x.2.2) (i:=i) uFs qo7 (hLW.ext hx9 (by simp)) hc (by omega) rfl
  refine qm (s:=.slc) (a1,i,x.2.2) (r1 _) ?_
  rw [qnl hi] at c1
  refine qn6 (ys:=S.take i) rfl hm9 (by have:=hx9.1;omega) c1 (by simp;omega) (by simp;omega) fun x3 w10 hm10 hx10=>?_
  have h0:∀ b ∈ xw (some (⟨W.heap.size,0,none⟩:Addr),0,0),W.heap.size≤b:=by simp [xw]
  have s9:=hx9.1
  have s10:=hx10.1
  have sW:=hx.1
  have lb1:=lt_of_get hb1
  have sxW:=hxW.1
  have hx910:Ext [] W.heap w10.heap:=hx9.own hx10 (fun c hc hlt=>by have:=h0 c hc;omega)
  have hb10:=hx910.get (hxW.get hb1 (by simp)) (by simp)
  refine je rfl hb10 rfl ?_
  refine qn3 f rfl fun a2 w11 hx11 hc11=>?_
  have hx911:=hx910.trans hx11
  refine qn6 (ys:=[f]) rfl (hm10.ext hx11 (by simp)) (by have:=hx11.1;omega) hc11 rfl (by simp;omega) fun x4 w12 hm12 hx12=>?_
  have g3:=jc hm10
  have hx912:Ext [] W.heap w12.heap:=hx911.own hx12 (fun c hc hlt=>by have:=g3 c hc;omega)
  obtain ⟨a3,r3,c3⟩:=qiq (T:=zo) (l:=x.2.1) (c:=x.2.2) (i:=i) uFs qo7 (hLW.ext hx912 (by simp)) (by rw [qah,hl]) hc (by omega) rfl
  refine qm (s:=.slc) (a3,x.2.1 - i,x.2.2 - i) (r3 _) ?_
  rw [qm5 hi] at c3
  refine qn6 (ys:=S.drop i) rfl hm12 (by have:=hx12.1;have:=hx11.1;omega) c3 (by simp;omega) (by simp;omega) fun x5 w13 hm13 hx13=>?_
  have g4:=jc hm12
  have hx913:Ext [] W.heap w13.heap:=hx912.own hx13 (fun c hc hlt=>by have:=g4 c hc;omega)
  refine ⟨x5,rfl,?_,hx.trans hx913⟩
  rw [qfs hi hlo hhi]
  have e:([]++S.take i++[f]++S.drop i)=S.take i++f :: S.drop i:=by simp
  rw [e] at hm13
  exact hm13.mono sW
abbrev NR:=(Option Addr × Nat × Nat) × Path
def encR (y:NR):List Value:=[zcr y.1]
theorem qdp (y:NR):(encR y).length=1:=rfl
theorem qcf (ys:List NR):ys.flatMap encR=ys.map fun y=>zcr y.1:=by
 induction ys with
 | nil=>rfl
 | cons y ys ih=>rw [List.flatMap_cons,ih];rfl
def z6h (H:Heap) (y:NR):Prop:=Mine H 0 qc 1 y.1 (strRow y.2)
theorem qc8 {w:World} {H:Heap} {a b:Option Addr} {n nc m mc:Nat} {ys:List NR} {p:Path} (hw:w.heap=H) (hL:Cells H a (ys.flatMap encR)) (hn:n=ys.length) (hy:∀ y ∈ ys,z6h H y) (h8:∀ y ∈ ys,y.2.length≤8) (hys:ys.length≤65536) (hp:Cells H b (strRow p)) (hm:m=p.length) :
  qj P zic #[.slice a n nc,.slice b m mc] w fun e w'=>w'.heap=H∧((e=.returned (.int .i64 (-1))∧∀ y ∈ ys,y.2 ≠ p) ∨ ∃ (i:Nat) (y:NR),e=.returned (.int .i64 (i:Int))∧ys[i]?=some y∧y.2=p):=by
 refine z9o ?_
 unfold zr6
 refine jd (fun (s:Int) W=>∃ i:Nat,s=(i:Int)∧i≤ys.length∧(∀ y ∈ ys.take i,y.2 ≠ p)∧W.heap=H) (fun s _=>(ys.length - s).toNat) ⟨0,rfl,Nat.zero_le _,by simp,hw⟩ ?_
 rintro _ W ⟨i,rfl,hi,hno,hW⟩
 refine zq (fun hlt=>?_) (fun hge=>?_)
 ·have hil:i < ys.length:=by omega
  have hget:=List.getElem?_eq_getElem hil
  have hmem:ys[i] ∈ ys:=List.getElem_mem hil
  generalize ys[i]=y at hget hmem
  refine Bl.zdh (i:=i) qdp (by omega) hL hn hget rfl fun b' o c T fr _ hb hsz hcc _=>?_
  refine jh (s:=.slc) (t:=y.1) hW hb (hcc 0 (by omega)) ?_
  have hyl:y.1.2.1=y.2.length:=by have:=Mine.len (hy y hmem);simp at this;omega
  have:=h8 y hmem
  refine zl (z2v hW (hy y hmem).cells hyl hp hm (by omega)) ?_
  rintro e w2 ⟨rfl,hw2⟩
  refine ⟨zfz y.2 p,rfl,?_⟩
  refine zb3 (fun h=>?_) (fun h=>?_)
  ·exact ⟨hw2,.inr ⟨i,y,rfl,hget,znd.1 h⟩⟩
  ·refine xu ((i+1:Nat):Int) (by simp) (by omega) (by omega) ?_
   refine ⟨⟨i+1,rfl,by omega,fun z hz=>?_,hw2⟩,by omega⟩
   rw [List.take_add_one,hget] at hz
   rcases List.mem_append.1 hz with hz | hz
   ·exact hno z hz
   ·simp at hz;rw [hz];exact fun e=>h (znd.2 e)
 ·obtain rfl:i=ys.length:=by omega
  rw [List.take_length] at hno
  exact ⟨hW,.inl ⟨rfl,hno⟩⟩
theorem ERs:Elem P qp 1 24:=zn0 (z:=.slice none 0 0) (by kernel_rfl) rfl
def zln (H:Heap) (B:Nat) (x:Option Addr × Nat × Nat) (ps:List Path):Prop :=
 ∃ ys:List NR,Mine H B qp 1 x (ys.flatMap encR)∧ys.map (·.2)=ps∧∀ y ∈ ys,z6h H y
theorem zln.nil {H:Heap} {B:Nat}:zln H B (none,0,0) []:=⟨[],.inl ⟨rfl,rfl⟩,rfl,by simp⟩
theorem qo2 (ys:List NR):(ys.flatMap encR).length=ys.length:=by rw [qcf];simp
theorem zln.len {H:Heap} {B:Nat} {x:Option Addr × Nat × Nat} {ps:List Path} (h:zln H B x ps):x.2.1=ps.length:=by
 obtain ⟨ys,h1,h2,_⟩:=h
 have:=h1.len
 rw [qo2] at this
 rw [← h2];simp;omega
theorem zln.ext {H H':Heap} {B:Nat} {x:Option Addr × Nat × Nat} {ps:List Path} (h:zln H B x ps) (hx:Ext [] H H'):zln H' B x ps:=by
 obtain ⟨ys,h1,h2,h3⟩:=h
 exact ⟨ys,h1.ext hx (by simp),h2,fun y hy=>Mine.ext (h3 y hy) hx (by simp)⟩
theorem zln.cap {H:Heap} {B:Nat} {x:Option Addr × Nat × Nat} {ps:List Path} (h:zln H B x ps):x.2.1≤x.2.2:=by
 obtain ⟨ys,h1,_⟩:=h
 exact zgz h1
theorem zln.ge {H:Heap} {B:Nat} {x:Option Addr × Nat × Nat} {ps:List Path} (h:zln H B x ps):∀ b ∈ xw x,B≤b:=by
 obtain ⟨ys,h1,_⟩:=h
 exact jc h1
theorem qjp {w:World} {H:Heap} {B B2:Nat} {x y:Option Addr × Nat × Nat} {ps:List Path} {p:Path} (hw:w.heap=H) (hB:zln H B x ps) (hBs:B≤H.size) (hy:Mine H B2 qc 1 y (strRow p)) (hlen:ps.length≤1073741824) {K:(Option Addr × Nat × Nat)→World→Prop}
  (hK:∀ x' w',zln w'.heap B x' (ps++[p])→Ext (xw x) H w'.heap→K x' w') :
  zal P (Instr.buildSlice zb6 1 #[(0,(Value.slice y.1 y.2.1 y.2.2))]) .slc w fun (t15:(Option Addr × Nat × Nat)) w_4 =>
  zal P (Builtin.append_ #[zb6,zb6] zb6 #[(Value.slice x.1 x.2.1 x.2.2),(Value.slice t15.1 t15.2.1 t15.2.2)]) .slc w_4 K:=by
 have hl:=hB.len
 obtain ⟨ys,h1,h2,h3⟩:=hB
 have hylen:ys.length=ps.length:=by rw [← h2];simp
 refine zad (s:=.slc) (some ⟨w.heap.size,0,none⟩,1,1) _ (zd0 ERs qnx (v:=.slice y.1 y.2.1 y.2.2) rfl (by omega) (by omega)) ?_
 subst hw
 have hxp:Ext [] w.heap (w.heap.push (.cells (Value.slice y.1 y.2.1 y.2.2).cells qp)):=.push _
 refine zcq (n:=1) (us:=[zcr y]) (H:=w.heap.push (.cells (Value.slice y.1 y.2.1 y.2.2).cells qp)) ERs (by omega) qnx (za5 qnx) rfl (h1.ext hxp (by simp)) (by simp;omega)
  (Src.slc rfl (.inr ⟨w.heap.size,0,_,_,_,rfl,zn,by simp [Value.cells],by simp [Value.cells,zcr]⟩) rfl) (by intro v hv;simp at hv;subst hv;rfl) (by omega) ?_
 intro x' w4 hm4 hl4 hx4 hs4
 have hx04:Ext (xw x) w.heap w4.heap:=(hxp.mono (by simp)).trans hx4
 refine hK x' w4 ⟨ys++[(y,p)],by rw [List.flatMap_append,List.flatMap_singleton];exact hm4,by simp [h2],fun z hz=>?_⟩ hx04
 rcases List.mem_append.1 hz with hz | hz
 ·exact Mine.ext (h3 z hz) hx04 (zge (h3 z hz) h1 (by decide))
 ·simp only [List.mem_singleton] at hz
  subst hz
  exact Mine.ext (hy.mono (Nat.zero_le _)) hx04 (zge hy h1 (by decide))
theorem qmm {L:List Fil} (h5:¬ z1h L) {f g:Fil} (hf:f ∈ L) (hg:g ∈ L) (e:nm f=nm g):f=g:=by
 obtain ⟨i,hi,rfl⟩:=List.getElem_of_mem hf
 obtain ⟨j,hj,rfl⟩:=List.getElem_of_mem hg
 rcases Nat.lt_trichotomy i j with h | h | h
 ·exact absurd ⟨j,hj,.inr ⟨L[i],List.mem_take_iff_getElem.2 ⟨i,by omega,rfl⟩,e⟩⟩ h5
 ·subst h;rfl
 ·exact absurd ⟨i,hi,.inr ⟨L[j],List.mem_take_iff_getElem.2 ⟨j,by omega,rfl⟩,e.symm⟩⟩ h5
theorem z2x:∀ {S:List Fil} {f:Fil},z2s (S.map clean) (clean f)=(z2s S f).map clean
 | [],f=>rfl
 | g :: S,f=>by
  simp only [List.map_cons,z2s,z5g]
  split
  ·rw [List.map_cons,z2x]
  ·rfl
theorem qe0 {f:Fil}:(zbc f).toArray.setIfInBounds 0 (.string (strOf (vw (nm f))))=(zbc (clean f)).toArray:=by
 simp [zbc,clean]
theorem zl1 {H:Heap} {a:Option Addr} {n i:Nat} {m:Int} {ys:List NR} {L:List Fil} {f:Fil} (hL:Cells H a (ys.flatMap encR)) (hn:n=ys.length) (hy:∀ y ∈ ys,z6h H y) (he:ys.map (·.2)=L.map nm) (hi:L[i]?=some f) (hm:m=(i:Int)) {K:Addr→Prop}
  (hK:∀ (b o:Nat) c T fr (z:Option Addr × Nat × Nat),H[b]?=some (.cells c T fr)→c[o]?=some (zcr z)→z6h H (z,nm f)→K ⟨b,o,none⟩):ixS a n 1 m K:=by
 have h1:(ys.map (·.2))[i]?=(L.map nm)[i]?:=by rw [he]
 rw [List.getElem?_map,List.getElem?_map,hi] at h1
 cases hg:ys[i]? with
 | none=>rw [hg] at h1;cases h1
 | some y =>
  rw [hg] at h1
  simp only [Option.map_some,Option.some.injEq] at h1
  have hmem:y ∈ ys:=List.mem_of_getElem? hg
  refine Bl.zdh (i:=i) qdp (by omega) hL hn hg hm fun b o c T fr _ hb hsz hcc _=>?_
  refine hK b o c T fr y.1 hb (hcc 0 (by omega)) ?_
  have:=hy y hmem
  rw [← h1];exact this
theorem z6h.len {H:Heap} {z:Option Addr × Nat × Nat} {p:Path} (h:z6h H (z,p)):z.2.1=p.length:=by
 have:=Mine.len h
 simp at this;omega
theorem qcm {H:Heap} {z:Option Addr × Nat × Nat} {p:Path} (h:z6h H (z,p)) (hp:p ≠ []) {n:Int} (hn:n=((p.length - 1:Nat):Int)) :
  ∃ a',(∀ w,(Instr.sliceAt qp (.slice z.1 z.2.1 z.2.2) none (some (.int .i64 n)) none).run P w=.ok (.slice a' (p.length - 1) z.2.2) w)∧Cells H a' (strRow p.dropLast):=by
 have hl:=h.len
 obtain ⟨a',h1,h2⟩:=qfu (T:=qp) (l:=z.2.1) (c:=z.2.2) (i:=p.length - 1) zw5 qfv (Mine.cells h) (zgz h) (by omega) hn
 refine ⟨a',h1,?_⟩
 rw [List.dropLast_eq_take]
 have:(strRow p).take ((p.length - 1) * 1)=strRow (p.take (p.length - 1)):=by simp [strRow,List.map_take]
 rw [← this];exact h2
structure Seen (H:Heap) (a:Option Addr) (x:Option Addr × Nat × Nat) (ys:List NR) (L:List Fil):Prop where
 row:Cells H a (L.flatMap zbc)
 cells:Cells H x.1 (ys.flatMap encR)
 len:x.2.1=ys.length
 cap:x.2.1≤x.2.2
 path:∀ y ∈ ys,z6h H y
 eq:ys.map (·.2)=L.map nm
theorem Seen.ext {H H':Heap} {a:Option Addr} {x:Option Addr × Nat × Nat} {ys:List NR} {L:List Fil} (h:Seen H a x ys L) (hx:Ext [] H H'):Seen H' a x ys L :=
 ⟨h.row.ext hx (by simp),h.cells.ext hx (by simp),h.len,h.cap,fun y hy=>Mine.ext (h.path y hy) hx (by simp),h.eq⟩
theorem qja {w:World} {H:Heap} {a:Option Addr} {n:Nat} {x:Option Addr × Nat × Nat} {ys:List NR} {L:List Fil} (hw:w.heap=H) (hN:Seen H a x ys L) (hn:n=L.length) (hm:L.length≤65536) {R:(Option Addr × Nat × Nat) × Int→World→Prop}
  (hR:∀ x' (i:Int) w',Mine w'.heap H.size zk 3 x' (((zh2 L).map clean).flatMap zbc)→Ext [] H w'.heap→R (x',i) w') :
  zaw ((Option Addr × Nat × Nat) × Int) (fun s_14 w_24 k_14 =>
  xk (decide (s_14.2 < (n:Int))) (
  ixS a n 3 s_14.2 fun t193 =>
  ldA P 3 t193 w_24 fun t194 =>
  zbn (zc P zk) zk w_24 fun b20 w_25 =>
  zby P (storeVar zk (⟨b20,0,none⟩:Addr) (Value.agg t194)) w_25 fun w_26 =>
  ixS x.1 x.2.1 1 s_14.2 fun t197 =>
  ld .slc t197 w_26 fun (t198:(Option Addr × Nat × Nat)) =>
  xg P zqq #[(Value.slice t198.1 t198.2.1 t198.2.2)] [.str] false w_26 fun (t199:ByteArray) w_27 =>
  stC (⟨b20,0,none⟩:Addr) (Value.string t199) w_27 fun w_28 =>
  ldA P 3 (⟨b20,0,none⟩:Addr) w_28 fun t202 =>
  xg P zlr #[(Value.slice s_14.1.1 s_14.1.2.1 s_14.1.2.2),(Value.agg t202)] [.slc] false w_28 fun (t203:(Option Addr × Nat × Nat)) w_29 =>
  zba .i64 s_14.2 1 fun t190 =>
  k_14 ((t203.1,t203.2.1,t203.2.2),t190) w_29) (
  R s_14 w_24)) ((none,0,0),0) w:=by
 refine jd (fun (s:(Option Addr × Nat × Nat) × Int) W=>∃ i:Nat,s.2=(i:Int)∧i≤L.length∧Ext [] H W.heap∧Mine W.heap H.size zk 3 s.1 (((zh2 (L.take i)).map clean).flatMap zbc)∧(zh2 (L.take i)).length=i) (fun s _=>(L.length - s.2).toNat)
  ⟨0,rfl,Nat.zero_le _,by rw [hw];exact .refl _ _,.inl ⟨rfl,rfl⟩,rfl⟩ ?_
 rintro ⟨x',_⟩ W ⟨i,rfl,hi,hx,hmW,hsl⟩
 refine zq (fun hlt=>?_) (fun hge=>?_)
 ·have hil:i < L.length:=by simp only at hlt;omega
  have hget:=List.getElem?_eq_getElem hil
  generalize L[i]=f at hget
  refine zjm (i:=i) zbg (by omega) rfl (hN.ext hx).row hn hget rfl ?_
  refine qoc f rfl fun w3 hw3=>?_
  have hx3:Ext [] W.heap w3.heap:=by rw [hw3];exact .push _
  have hb3:w3.heap[W.heap.size]?=some (.cells (zbc f).toArray zk (0,0)):=by rw [hw3];exact zn
  have hN3:=hN.ext (hx.trans hx3)
  refine zl1 (i:=i) hN3.cells hN3.len hN3.path hN3.eq hget rfl fun b o c T fr z hb hc hp=>?_
  refine jh (s:=.slc) (t:=z) rfl hb hc ?_
  have hsm:=(zli f).small
  refine zl (qlf (p:=nm f) rfl (Mine.cells hp) hp.len (by omega)) ?_
  rintro e w4 ⟨rfl,rfl⟩
  refine ⟨strOf (vw (nm f)),rfl,?_⟩
  refine zcd rfl hb3 (by simp [zbc]) fun w5 hw5=>?_
  have hx5:Ext [] W.heap w5.heap:=by rw [hw5];exact hx3.set_own (.inl (Nat.le_refl _))
  have hb5:w5.heap[W.heap.size]?=some (.cells (zbc (clean f)).toArray zk (0,0)):=by rw [hw5,← qe0];exact qw hb3
  refine je rfl hb5 rfl ?_
  have hm5:Mine w5.heap H.size zk 3 x' (((zh2 (L.take i)).map clean).flatMap zbc):=hmW.ext hx5 (by simp)
  have hl5:x'.2.1=((zh2 (L.take i)).map clean).length:=by have:=hm5.len;rw [qah] at this;omega
  refine zl (qh2 (f:=clean f) rfl hm5.cells hl5 (zgz hm5) (by simp;omega)) ?_
  rintro e w6 ⟨x6,rfl,hm6,hx6⟩
  refine ⟨x6,rfl,?_⟩
  refine xu ((i+1:Nat):Int) (by simp) (by omega) (by omega) ?_
  have hs:zh2 (L.take (i+1))=z2s (zh2 (L.take i)) f:=by unfold zh2;rw [List.take_add_one,hget];simp
  have s1:=(hx.trans hx5).1
  refine ⟨⟨i+1,rfl,by omega,(hx.trans hx5).trans hx6,?_,?_⟩,by simp only;omega⟩
  ·rw [hs,← z2x];exact hm6.mono s1
  ·rw [hs,(zt9 _ _).length_eq];simp [hsl]
 ·obtain rfl:i=L.length:=by simp only at hge;omega
  rw [List.take_length] at hmW
  exact hR x' _ W hmW hx
end Go.Proofs.YtbmegmbnlajbbaaGreatDoor
