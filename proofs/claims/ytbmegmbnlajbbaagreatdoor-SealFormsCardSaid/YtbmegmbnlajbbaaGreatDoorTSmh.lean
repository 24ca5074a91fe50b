/- Part 8 of the texts below the card, joined. -/
import Derived.Test.YtbmegmbnlajbbaaGreatDoorTSmg
import Derived.Test.YtbmegmbnlajbbaaGreatDoorTSmd
import Derived.Test.YtbmegmbnlajbbaaGreatDoorTSma
import Derived.WalkKit
import Derived.ProofKit
import Derived.OpenShut
import Derived.Deep.DeepHandedRow
import Derived.Lib.LaidTab
import Derived.Carry
import Derived.Test.YtbmegmbnlajbbaaGreatDoorCards
import Derived.Test.YtbmegmbnlajbbaaGreatDoorTie
import Derived.Test.YtbmegmbnlajbbaaGreatDoorTSmf
import Derived.Laws.Runes
namespace Go.Proofs.YtbmegmbnlajbbaaGreatDoor
open Go Go.Fw Go.Proofs Go.Sort
set_option maxHeartbeats 8000000 in
theorem qqy {fp:List Nat} {p:Nat} {q:Int} {r:Bl.SM} {c:Nat} {B:Nat} (hfp:∀ b ∈ fp,b < B) (hB0:0 < B) (hlen:∀ k L,Bl.zaq r k=some L→L.length < 1099511627776):∀ (f:Nat) {w:World} {H:Heap} {n:Nod} {xp xi nx out:Option Addr × Nat × Nat} {names:Path} {L:List Fil},w.heap=H→Bl.Store H fp p q r c→Bl.Rounds H→B≤H.size→NodM H B n xp xi→n.items.length≤65→(∀ i ∈ n.items,i.name.length≤16) →
  Mine H B qc 1 nx (strRow names)→(∀ x ∈ names,x.length≤16)→names.length+f=9→names.length≤8→Mine H B zl 3 out (L.flatMap zbf)→L.length≤512 →
  qg P zcd #[.pointer (some ⟨p,0,none⟩),.agg (zbz n xp xi).toArray,.slice nx.1 nx.2.1 nx.2.2,.slice out.1 out.2.1 out.2.2] w (zeh H B out (zl7 (gV r) (zdr r) f n.items names L)):=by
 intro f
 induction f with
 | zero=>intro w H n xp xi nx out names L _ _ _ _ _ _ _ _ _ h1 h2 _ _;omega
 | succ f ih =>
 intro w H n xp xi nx out names L hw hS hR hBs hN hil hinm hM hnm hf h8 hO hL
 refine z97 ?_
 unfold zta
 refine jw hw fun w1 hw1=>?_
 have hx1:Ext [] H w1.heap:=by rw [hw1];exact .push _
 have hb1:w1.heap[H.size]?=some (.cells (zbz n xp xi).toArray zh (0,0)):=by rw [hw1];exact zo
 have s1:=lt_of_get hb1
 refine jg (s:=.slc) (t:=xi) rfl hb1 rfl ?_
 have hxil:xi.2.1=n.items.length:=hN.nodW.ilen
 rw [zl7]
 generalize hrs:zef (gV r) (zdr r) (zl7 (gV r) (zdr r) f) names n.items L=res
 refine jd (fun (s:(Option Addr × Nat × Nat) × Int) W=>∃ (i:Nat) (Lc:List Fil),s.2=(i:Int)∧i≤n.items.length∧zef (gV r) (zdr r) (zl7 (gV r) (zdr r) f) names (n.items.drop i) Lc=res∧Ext (jf out) H W.heap∧Mine W.heap B zl 3 s.1 (Lc.flatMap zbf)∧Lc.length≤512∧(∀ c ∈ jf s.1,c ∈ jf out ∨ H.size≤c)) (fun s _=>(n.items.length - s.2).toNat)
  ⟨0,L,rfl,Nat.zero_le _,hrs,hx1.mono (by simp),hO.ext hx1 (by simp),hL,fun c hc=>.inl hc⟩ ?_
 rintro ⟨o,_⟩ W ⟨i,Lc,rfl,hi,hres,hx,hmo,hLc,hoo⟩
 simp only at hmo hoo
 have sW:=hx.1
 refine zq (fun hlt=>?_) (fun hge=>?_)
 ·have hilt:i < n.items.length:=by simp only at hlt;omega
  have hget:=List.getElem?_eq_getElem hilt
  have hmem:n.items[i] ∈ n.items:=List.getElem_mem hilt
  rw [List.drop_eq_getElem_cons hilt] at hres
  generalize n.items[i]=it at hget hmem hres
  have h32:=hN.i32 _ hmem
  have h16:=hinm _ hmem
  refine Go.Fw.joinP_of (zoc H B out res (zef (gV r) (zdr r) (zl7 (gV r) (zdr r) f) names (n.items.drop (i+1)))) ?_ ?_
  rotate_left
  ·rintro s' W' ⟨L',g1,g2,g3,g4,g5⟩
   refine xk ((i+1:Nat):Int) (by simp) (by omega) (by omega) ?_
   exact ⟨⟨i+1,L',rfl,by omega,g1,g2,g3,g4,g5⟩,by simp only;omega⟩
  have hNW:=hN.items.ext hx (zeo hN.items hO (by decide))
  have hMW:=hM.ext hx (zeo hM hO (by decide))
  have hSW:=hS.ext hx (fun b hb h=>by have:=jc hO b h;have:=hfp b hb;omega)
  have hRW:=hR.ext hx (fun h=>by have:=jc hO 0 h;omega)
  refine zgx (i:=i) zat (by omega) rfl hNW.cells hxil hget rfl ?_
  refine qpd it rfl fun w4 hw4=>?_
  have hx4:Ext [] W.heap w4.heap:=by rw [hw4];exact .push _
  have hb4:w4.heap[W.heap.size]?=some (.cells (zeg it).toArray ql (0,0)):=by rw [hw4];exact zo
  refine jq rfl fun w5 hw5=>?_
  rw [← hw5] at hx4 hb4
  have s4:=hx4.1
  refine jg (s:=.str) (t:=strOf it.name) rfl hb4 rfl ?_
  have hM5:=hMW.ext hx4 (by simp)
  have hsm:tlen (names++[it.name])+(names++[it.name]).length≤1099511627776:=by
   have:∀ (l:Path),(∀ x ∈ l,x.length≤16)→tlen l≤16 * l.length:=by
    intro l
    induction l with
    | nil=>intro _;simp [tlen]
    | cons x l ihl =>
     intro h
     have h1:=h x (by simp)
     have h2:=ihl fun y hy=>h y (by simp [hy])
     simp only [tlen,List.map_cons,List.sum_cons,List.length_cons] at *
     omega
   have h2:=this (names++[it.name]) (fun x hx=>by
    rcases List.mem_append.1 hx with h | h
    ·exact hnm x h
    ·simp at h;subst h;exact h16)
   simp only [List.length_append,List.length_singleton] at *
   omega
  have mid:∀ {w8:World} {y28:Option Addr × Nat × Nat},Ext [] w5.heap w8.heap→Mine w8.heap B qc 1 y28 (strRow (names++[it.name]))→Bl.Store w8.heap fp p q r c→True:=fun _ _ _=>trivial
  have hyp:∀ {w8:World},Ext [] w5.heap w8.heap→Ext (jf out) H w8.heap:=fun h=>hx.trans ((hx4.trans h).mono (by simp))
  have recur:∀ {y28:Option Addr × Nat × Nat},names.length+1≤8→∀ {w2:World} {o2:Option Addr × Nat × Nat} {D:Nod} {yp yi:Option Addr × Nat × Nat} {L2:List Fil},Bl.Store w2.heap fp p q r c→Bl.Rounds w2.heap→B≤w2.heap.size→NodM w2.heap B D yp yi→D.items.length≤65→(∀ i ∈ D.items,i.name.length≤16)→Mine w2.heap B qc 1 y28 (strRow (names++[it.name]))→Mine w2.heap B zl 3 o2 (L2.flatMap zbf)→L2.length≤512 →
   qg P zcd #[.pointer (some ⟨p,0,none⟩),.agg (zbz D yp yi).toArray,.slice y28.1 y28.2.1 y28.2.2,.slice o2.1 o2.2.1 o2.2.2] w2 (zeh w2.heap B o2 (zl7 (gV r) (zdr r) f D.items (names++[it.name]) L2)):=by
   intro y28 hl8 w2 o2 D yp yi L2 a1 a2 a3 a4 a5 a6 a7 a8 a9
   exact ih rfl a1 a2 a3 a4 a5 a6 a7 (fun x hx=>by
    rcases List.mem_append.1 hx with h | h
    ·exact hnm x h
    ·simp at h;subst h;exact h16) (by simp;omega) (by simp;omega) a8 a9
  refine ⟨?_,?_⟩
  ·refine zn (qgb rfl hM5 (by omega)) ?_
   rintro e w6 ⟨y,rfl,hm6,hx6⟩
   refine ⟨y,rfl,jg (s:=.str) (o:=0) (t:=strOf it.name) (K:=fun z=>Value.string z=Value.string (strOf it.name)) rfl (hx6.get hb4 (by simp)) rfl rfl,?_⟩
   refine qmn it.name rfl fun a7 w7 hx7 hc7=>?_
   refine qo2 (ys:=[it.name]) rfl (hm6.ext hx7 (by simp)) (by have:=hx7.1;have:=hx6.1;omega) hc7 rfl (by simp;omega) fun y28 w8 hm8 hx8=>?_
   have g6:=jc hm6
   have hx58:Ext [] w5.heap w8.heap:=(hx6.trans hx7).own hx8 (fun c hc hlt=>by have:=g6 c hc;omega)
   have hxW8:=hx4.trans hx58
   exact qqu (rec:=zl7 (gV r) (zdr r) f) (names:=names) (it:=it) (its:=n.items.drop (i+1)) (L:=Lc) (hSW.ext hxW8 (by simp)) (hRW.ext hxW8 (by simp)) hfp hB0 hBs hlen (hyp hx58) (hx58.get hb4 (by simp)) h32 (fun hc=>by have:=(zbg hmo _ hc).1;omega) hsm (hm8.mono (by omega)) (hmo.ext hxW8 (by simp)) hLc hoo rfl hres.symm recur
  ·refine qmn it.name rfl fun a7 w7 hx7 hc7=>?_
   refine zn (qgb rfl (hM5.ext hx7 (by simp)) (by omega)) ?_
   rintro e w6 ⟨y,rfl,hm6,hx6⟩
   refine ⟨y,rfl,jg (s:=.str) (o:=0) (t:=strOf it.name) (K:=fun z=>Value.string z=Value.string (strOf it.name)) rfl ((hx7.trans hx6).get hb4 (by simp)) rfl rfl,?_⟩
   refine qo2 (ys:=[it.name]) rfl hm6 (by have:=hx6.1;omega) (hc7.ext hx6 (by simp)) rfl (by simp;omega) fun y28 w8 hm8 hx8=>?_
   have g6:=jc hm6
   have s7:=hx7.1
   have hx58:Ext [] w5.heap w8.heap:=(hx7.trans hx6).own hx8 (fun c hc hlt=>by have:=g6 c hc;omega)
   have hxW8:=hx4.trans hx58
   exact qqu (rec:=zl7 (gV r) (zdr r) f) (names:=names) (it:=it) (its:=n.items.drop (i+1)) (L:=Lc) (hSW.ext hxW8 (by simp)) (hRW.ext hxW8 (by simp)) hfp hB0 hBs hlen (hyp hx58) (hx58.get hb4 (by simp)) h32 (fun hc=>by have:=(zbg hmo _ hc).1;omega) hsm (hm8.mono (by omega)) (hmo.ext hxW8 (by simp)) hLc hoo rfl hres.symm recur
 ·obtain rfl:i=n.items.length:=by simp only at hge;omega
  rw [List.drop_length,zef] at hres
  exact ⟨o,by rw [← hres];rfl,hx,fun _=>by rw [← hres];exact ⟨hmo,hLc⟩,hoo⟩
def zd1 (r:Bl.SM) (root:List UInt8):List Fil × Int:=if (gV r root 3).2 ≠ 0 then ([],(gV r root 3).2) else zl7 (gV r) (zdr r) 9 (gV r root 3).1.items [] []
set_option maxHeartbeats 2000000 in
theorem qjk {w:World} {H:Heap} {fp:List Nat} {p:Nat} {q:Int} {r:Bl.SM} {c:Nat} {root:List UInt8} (hw:w.heap=H) (hS:Bl.Store H fp p q r c) (hR:Bl.Rounds H) (hfp:∀ b ∈ fp,b < H.size) (h32:root.length=32) (hlen:∀ k L,Bl.zaq r k=some L→L.length < 1099511627776) :
  qg P zol #[.pointer (some ⟨p,0,none⟩),arr root] w fun e w'=>∃ x',e=.returned (.tuple #[zck x',.int .i64 (zd1 r root).2])∧Ext [] H w'.heap∧((zd1 r root).2=0→Mine w'.heap H.size zl 3 x' ((zd1 r root).1.flatMap zbf)):=by
 have hH0:0 < H.size:=by obtain ⟨_,_,_,h,_⟩:=hR;exact lt_of_get h
 refine qa5 ?_
 unfold zuk
 rw [show (arr root).cells=(byteCells root).toArray from rfl]
 refine jw hw fun w1 hw1=>?_
 have hx1:Ext [] H w1.heap:=by rw [hw1];exact .push _
 have hb1:w1.heap[H.size]?=some (.cells (byteCells root).toArray zf (0,0)):=by rw [hw1];exact zo
 have s1:=lt_of_get hb1
 refine jk rfl ?_
 refine je rfl hb1 (by simp [h32]) ?_
 refine zn (qks (k:=root) (kind:=3) rfl (hS.ext hx1 (by simp)) h32 (hR.ext hx1 (by simp)) (hlen root)) ?_
 rintro e w2 ⟨yp,yi,rfl,hN2,hx2⟩
 refine ⟨(.agg (zbz (gV r root 3).1 yp yi).toArray,(gV r root 3).2),rfl,?_⟩
 have hit:=zn4 (v:=Bl.zaq r root) (k:=root) (kind:=3)
 have hN2:NodM w2.heap w1.heap.size (gV r root 3).1 yp yi:=hN2
 have hit1:(gV r root 3).1.items.length≤65:=hit.1
 have hit2:∀ i ∈ (gV r root 3).1.items,i.name.length≤16:=hit.2.1
 unfold zd1
 generalize gV r root 3=D at *
 refine qd3 D.1 yp yi rfl fun w4 hw4=>?_
 have hx4:Ext [] w2.heap w4.heap:=by rw [hw4];exact .push _
 have hb4:w4.heap[w2.heap.size]?=some (.cells (zbz D.1 yp yi).toArray zh (0,0)):=by rw [hw4];exact zo
 have hx04:=(hx1.trans hx2).trans hx4
 refine zam (fun h=>?_) (fun h=>?_)
 ·have h:D.2 ≠ 0:=h
  rw [if_pos h]
  exact ⟨(none,0,0),rfl,hx04,fun h0=>absurd h0 h⟩
 have h:D.2=0:=h
 rw [if_neg (by simpa using h)]
 refine je rfl hb4 rfl ?_
 have s2:=hx2.1
 refine zn (qqy (B:=H.size) (nx:=(none,0,0)) (out:=(none,0,0)) (names:=[]) (L:=[]) hfp hH0 hlen 9 rfl (hS.ext hx04 (by simp)) (hR.ext hx04 (by simp)) hx04.1 ((hN2.ext hx4 (by simp)).mono (by omega)) hit1 hit2 (.inl ⟨rfl,rfl⟩) (by simp) rfl (by simp) (.inl ⟨rfl,rfl⟩) (by simp)) ?_
 rintro e w5 ⟨x',rfl,hx5,hres,_⟩
 refine ⟨(x',_),rfl,?_⟩
 exact ⟨x',rfl,hx04.trans (hx5.mono (by simp [jf])),fun h0=>(hres h0).1⟩
end Go.Proofs.YtbmegmbnlajbbaaGreatDoor
namespace Go.Proofs.YtbmegmbnlajbbaaGreatDoor
open Go Go.Fw Go.Proofs Go.Sort
theorem qn4 {r:Bl.SM} {k b:List UInt8} {kind:Int} {n:Nod} (hv:Bl.zaq r k=some b) (hs:Sha.sum b=k) (hd:zj8 b=(n,0)) (hk:n.kind=kind):gV r k kind=(n,0):=by
 have hg:Bl.got (some b) k=0:=by unfold Bl.got;simp [hs]
 unfold gV zkr
 rw [hv,if_neg (by simp [hg])]
 simp only [Option.getD_some,hd]
 rw [if_neg (by simp [hk])]
end Go.Proofs.YtbmegmbnlajbbaaGreatDoor
namespace Go.Fw
open Go Go.ChangeShapes Go.WideShapes Go.ChangeAt Go.RowKit
theorem zvd {w:World} {b o:Nat} {s:Option _} {v:Value} (h:w.cell? ⟨b,o,s⟩=some v):s=none∧∃ c T fr,w.heap[b]?=some (.cells c T fr)∧c[o]?=some v:=by
 unfold World.cell? at h
 simp only at h
 split at h
 ·rename_i c T fr hc
  split at h
  ·cases h
  ·rename_i hs
   refine ⟨by simpa using hs,c,T,fr,hc,h⟩
 ·cases h
theorem qod {W W':World} (h:∀ i,i < W.heap.size→W'.heap[i]?=W.heap[i]?) {p:MemPlace} (hp:p.block < W.heap.size):W.sameAt W' p:=by
 cases p with
 | cell b off=>simp only [World.sameAt,World.cell?];rw [h b hp]
 | map b=>exact h b hp
theorem zvg {H:Type} {enc:TypeId × Value→H} {P:Program} (hl:laidOutB P=true) {W W':World} {sp':Nat→Bool} (h:∀ i,i < W.heap.size→W'.heap[i]?=W.heap[i]?) :
  ∀ {ts:List TypeId} {vs:List Value} {ds:List (DataW H)} {ps:List MemPlace},(∀ t ∈ ts,P.readableRec t=true∧t < P.types.size)→(∀ p ∈ ps,p.block < W.heap.size∧sp' p.block=true) →
  DataW.TrodAll enc P W 0 (fun _=>true) true ts vs ds ps→DataW.TrodAll enc P W' 0 sp' true ts vs ds ps
 | [],vs,ds,ps,_,_,ht=>by
  obtain ⟨rfl,rfl,rfl⟩:=trodAll_nil ht
  rfl
 | t :: ts,vs,ds,ps,hr,hp,ht=>by
  obtain ⟨v,vs',d,ds',p,q,rfl,rfl,rfl,h1,h2⟩:=trodAll_cons ht
  refine ⟨p,q,?_,zvg hl h (fun t ht=>hr t (by simp [ht])) (fun x hx=>hp x (by simp [hx])) h2,rfl⟩
  exact WideElems.Trod_stays hl (hr t (by simp)).1 (hr t (by simp)).2 h1 (fun x hx=>qod h (hp x (by simp [hx])).1) fun x hx=>(hp x (by simp [hx])).2
theorem qjm {H:Type} {enc:TypeId × Value→H} {P:Program} {f:Func} {s:ChangeSpec} {apart fresh handsOn again:Bool} {W W':World} {args:Array Value} {v:Value} {ds gs:List (DataW H)} {before:List MemPlace}
  (hl:laidOutB P=true) (hpar:∀ t ∈ f.params.toList,P.readableRec t=true∧t < P.types.size) (hvars:s.vars=[])
  (hW:DataW.Whole enc P f.params.toList s.vars apart W args.toList ds gs before) (hfa:(s.fn H (ds++gs)).args=ds) (hfv:(s.fn H (ds++gs)).vars=[])
  (hres:∀ (b:Nat) (sp:Nat→Bool) (hd:Bool),DataW.TrodAll enc P W' b sp hd f.resultTypes.toList (v.resultList f.resultTypes.size) (s.fn H (ds++gs)).results [])
  (hx:Ext [] W.heap W'.heap) (hc:Calm W W')
  (hok:∀ (j:Nat) (t:TypeId) (r:Value),f.resultTypes[j]?=some t→(v.resultList f.resultTypes.size)[j]?=some r→Value.okWide P W' .any 0 t r) :
  s.post enc P f apart fresh handsOn again W args v W':=by
 have hsame:∀ i,i < W.heap.size→W'.heap[i]?=W.heap[i]?:=fun i hi=>hx.2 i hi (by simp)
 have hlt:∀ p ∈ before,p.block < W.heap.size:=fun p hp=>hW.lt p hp
 have hW0:=hW
 obtain ⟨pa,pv,hA,hV,rfl,hz,hn⟩:=hW
 rw [hvars] at hV
 obtain ⟨rfl,rfl⟩:=trodVars_none hV
 rw [List.append_nil] at hlt hz hn
 have hargs:∀ sp:Nat→Bool,(∀ p ∈ pa,sp p.block=true)→DataW.TrodAll enc P W' 0 sp true f.params.toList args.toList (s.fn H (ds++[])).args pa:=by
  intro sp hsp
  rw [hfa]
  exact zvg hl hsame hpar (fun p hp=>⟨hlt p hp,hsp p hp⟩) hA
 have hvs:∀ sp:Nat→Bool,DataW.TrodVars enc P W' sp s.vars (s.fn H (ds++[])).vars []:=by
  intro sp
  rw [hvars,hfv]
  rfl
 refine ⟨ds,[],pa++[],[],pa,[],hW0,hres _ _ _,hargs _ (fun p hp=>by simpa using hlt p hp),hvs _,⟨hc.1,hc.2.1,fun i hi=>?_⟩,fun _=>⟨hok,_,_,([]++pa)++[],⟨[]++pa,[],trodAll_append (hargs _ (fun _ _=>rfl)) (hres _ _ _),hvs _,rfl,?_,?_⟩,?_⟩⟩
 ·rw [hsame i hi]
  cases W.heap[i]? with
  | none=>rfl
  | some o=>cases o <;> first | exact ⟨rfl,rfl,rfl,fun _ _=>rfl⟩ | exact .inr ⟨rfl,rfl⟩ | rfl
 ·intro b off hp
  have hp:MemPlace.cell b off ∈ pa:=by simpa using hp
  have h1:=hz b off (by simpa using hp)
  have h2:=hsame b (hlt _ hp)
  unfold World.frozen? at h1 ⊢
  rw [h2]
  exact h1
 ·intro ha
  simpa using hn ha
 ·intro p hp _
  simpa using hp
section
variable {H:Type} {enc:TypeId × Value→H} {P:Program} {W:World}
theorem qj7 {a:Addr} {n:Nat} {cs:List Value} (h0:0 < n) (h:W.cells? 0 a n=some cs):a.spot=none∧∃ c T fr,W.heap[a.block]?=some (.cells c T fr)∧a.off+n≤c.size∧cs=(c.toList.drop a.off).take n:=by
 obtain ⟨b,o,s⟩:=a
 simp only [World.cells?,Nat.zero_le,if_true] at h
 have hl:cs.length=n:=by simpa using mapM_some_length h
 have hg:∀ i,i < n→W.cell? (Addr.add ⟨b,o,s⟩ i)=cs[i]?:=fun i hi=>mapM_some_get h i i (by simp [hi])
 have h1:=hg 0 h0
 rw [List.getElem?_eq_getElem (by omega)] at h1
 obtain ⟨hs,c,T,fr,hb,_⟩:=zvd h1
 have hs':s=none:=by
  cases s with
  | none=>rfl
  | some z=>simp at hs
 subst hs'
 have hc:∀ i,i < n→c[o+i]?=cs[i]?:=by
  intro i hi
  have h2:=hg i hi
  rw [List.getElem?_eq_getElem (by omega),jv] at h2
  obtain ⟨_,c2,T2,f2,hb2,hc2⟩:=zvd h2
  rw [hb] at hb2;cases hb2
  rw [hc2,List.getElem?_eq_getElem (by omega)]
 have hsz:o+n≤c.size:=by
  have h3:=hc (n - 1) (by omega)
  rw [List.getElem?_eq_getElem (by omega)] at h3
  have:=(Array.getElem?_eq_some_iff.1 h3).1
  omega
 refine ⟨rfl,c,T,fr,hb,hsz,?_⟩
 apply List.ext_getElem?
 intro i
 by_cases hi:i < n
 ·rw [← hc i hi,List.getElem?_take,if_pos hi,List.getElem?_drop,Array.getElem?_toList]
 ·rw [List.getElem?_eq_none (by omega),List.getElem?_take,if_neg hi]
theorem ql2 {a:Addr} (h:(a.add 0).spot=none):a.spot=none:=by
 obtain ⟨b,o,s⟩:=a
 cases s with
 | none=>rfl
 | some z=>simp [Addr.add] at h
theorem row_of {t e:TypeId} {sz:Nat} (ht:P.underlying t=some (.slice e)) (hc:P.cellsOf e=sz) (h0:0 < sz) {v:Value} {fuel:Nat} {x:DataW H × List MemPlace} (h:DataW.trod enc P W 0 (fun _=>true) true fuel t [v]=some x) :
  ∃ (a:Option Addr) (n nc:Nat) (ys:List (DataW H)),v=.slice a n nc∧n≤nc∧ys.length=n∧((n=0∧ys=[]∧x.1=.nil) ∨ ∃ rest,x.1=.slice ys rest) ∧
   ∀ i (hi:i < ys.length),∃ (b o:Nat) (c:Array Value) (T:TypeId) (fr:Nat × Nat) (m:Nat) (ps:List MemPlace),a=some ⟨b,o,none⟩∧W.heap[b]?=some (.cells c T fr)∧o+i * sz+sz≤c.size∧DataW.trod enc P W 0 (fun _=>true) true m e ((c.toList.drop (o+i * sz)).take sz)=some (ys[i],ps):=by
 rcases DataW.trod_slice ht h with ⟨hcs,rfl⟩ | ⟨a',len,cap,elems,rest,m,_,hcs,rfl,_,hle,_,hlen,hel,_⟩
 ·simp only [List.cons.injEq,and_true] at hcs
  exact ⟨none,0,0,[],hcs,Nat.le_refl _,rfl,.inl ⟨rfl,rfl,rfl⟩,fun i hi=>absurd hi (by simp)⟩
 ·simp only [List.cons.injEq,and_true] at hcs
  refine ⟨some a',len,cap,elems.map (·.1),hcs,hle,by simpa using hlen,.inr ⟨_,rfl⟩,fun i hi=>?_⟩
  have hil:i < len:=by simpa [hlen] using hi
  have h1:=hel i hil
  rw [List.getElem?_eq_getElem (by omega),hc] at h1
  simp only [Option.bind_eq_some_iff] at h1
  obtain ⟨cs,h2,h3⟩:=h1
  obtain ⟨hsp,c,T,fr,hb,hsz,rfl⟩:=qj7 h0 h2
  have hsp':a'.spot=none:=by
   have h1:=hel 0 (by omega)
   rw [List.getElem?_eq_getElem (by omega),hc] at h1
   simp only [Option.bind_eq_some_iff,Nat.zero_mul] at h1
   obtain ⟨cs,h2,_⟩:=h1
   exact ql2 (qj7 h0 h2).1
  obtain ⟨b,o,s⟩:=a'
  obtain rfl:s=none:=hsp'
  rw [jv] at hb hsz h3
  exact ⟨b,o,c,T,fr,m,(elems[i]).2,rfl,hb,hsz,by simpa using h3⟩
def shapeOf (P:Program) (t:TypeId):Option (List (TypeId × Nat)):=match P.underlying t with | some (.struct fs)=>some (fs.toList.map fun f=>(f.type,f.offset)) | _=>none
theorem qkh {t:TypeId} {L:List (TypeId × Nat)} (hs:shapeOf P t=some L) {cs:List Value} {fuel:Nat} {x:DataW H × List MemPlace} (h:DataW.trod enc P W 0 (fun _=>true) true fuel t cs=some x) :
  ∃ ys:List (DataW H),x.1=.agg ys∧cs.length=P.cellsOf t∧ys.length=L.length∧∀ (i:Nat) (ti:TypeId) (off:Nat),L[i]?=some (ti,off)→∃ m ps y,ys[i]?=some y∧DataW.trod enc P W 0 (fun _=>true) true m ti ((cs.drop off).take (P.cellsOf ti))=some (y,ps):=by
 unfold shapeOf at hs
 split at hs
 ·rename_i fs hu
  injection hs with hs
  subst hs
  obtain ⟨xs,n,_,rfl,hl,hlen,hf⟩:=DataW.trod_struct hu h
  refine ⟨xs.map (·.1),rfl,hl,by simpa using hlen,fun i ti off hi=>?_⟩
  rw [List.getElem?_map,Option.map_eq_some_iff] at hi
  obtain ⟨f,hfi,he⟩:=hi
  simp only [Prod.mk.injEq] at he
  obtain ⟨rfl,rfl⟩:=he
  have h1:=hf i f (by simpa using hfi)
  have hil:i < xs.length:=by
   have:=(List.getElem?_eq_some_iff.1 hfi).1
   simp at this;omega
  rw [List.getElem?_eq_getElem hil] at h1
  exact ⟨n,(xs[i]).2,(xs[i]).1,by simp [List.getElem?_eq_getElem hil],h1⟩
 ·cases hs
theorem qnz {t:TypeId} (ht:P.underlying t=some .bool) {v:Value} {fuel:Nat} {x:DataW H × List MemPlace} (h:DataW.trod enc P W 0 (fun _=>true) true fuel t [v]=some x):∃ b,v=.bool b:=by
 cases fuel with
 | zero=>simp [DataW.trod] at h
 | succ m =>
  unfold DataW.trod at h
  rw [ht] at h
  split at h <;> simp_all
theorem take_one {c:Array Value} {o:Nat} (h:o < c.size):(c.toList.drop o).take 1=[c[o]]:=by
 rw [List.drop_eq_getElem_cons (by simpa using h)]
 simp
theorem qcq {c:Array Value} {o sz j:Nat} (hj:j < sz) (h:o+sz≤c.size):(((c.toList.drop o).take sz).drop j).take 1=[c[o+j]]:=by
 rw [List.drop_take,List.drop_drop,List.take_take,Nat.min_eq_left (by omega)]
 exact take_one (by omega)
end
end Go.Fw
namespace Go.Proofs.YtbmegmbnlajbbaaGreatDoor
open Go Go.Fw Go.Proofs Go.ChangeShapes Go.WideShapes Go.ChangeAt Go.RowKit
variable {Hh:Type} {enc:TypeId × Value→Hh} {W:World}
theorem qoy {t e:TypeId} (ht:P.underlying t=some (.slice e)) {a:Option Addr} {n nc:Nat} {fuel:Nat} {x:DataW Hh × List MemPlace} (h:DataW.trod enc P W 0 (fun _=>true) true fuel t [.slice a n nc]=some x):n≤9223372036854775807:=by
 rcases DataW.trod_slice ht h with ⟨hcs,_⟩ | ⟨a',len,cap,elems,rest,m,_,hcs,_,_,hle,hmax,_⟩
 ·simp only [List.cons.injEq,Value.slice.injEq,and_true] at hcs
  omega
 ·simp only [List.cons.injEq,Value.slice.injEq,and_true] at hcs
  have:maxLen=9223372036854775807:=by decide
  omega
theorem qna {t:TypeId} (ht:P.underlying t=some .string) {v:Value} {fuel:Nat} {x:DataW Hh × List MemPlace} (h:DataW.trod enc P W 0 (fun _=>true) true fuel t [v]=some x):∃ L:List UInt8,v=.string (strOf L)∧L.length≤9223372036854775807:=by
 cases fuel with
 | zero=>simp [DataW.trod] at h
 | succ m =>
  unfold DataW.trod at h
  rw [ht] at h
  split at h <;> simp_all
  refine ⟨_,qhh.symm,?_⟩
  have hm:maxLen=9223372036854775807:=by decide
  have h1:=h.1
  simp only [ByteArray.size] at h1
  rw [Array.length_toList]
  omega
theorem cStr:P.cellsOf qc=1:=by kernel_rfl
theorem qpt:shapeOf P zl=some [(qc,0),(z9v,1),(qc,2)]:=by kernel_rfl
theorem cFile:P.cellsOf zl=3:=by kernel_rfl
theorem qpw:P.cellsOf z9v=1:=by kernel_rfl
theorem qie {t:TypeId} (ht:P.underlying t=some (.slice zl)) {v:Value} {fuel:Nat} {x:DataW Hh × List MemPlace} (h:DataW.trod enc P W 0 (fun _=>true) true fuel t [v]=some x) :
  ∃ (a:Option Addr) (n nc:Nat) (L:List Fil),v=.slice a n nc∧Cells W.heap a (L.flatMap zbf)∧n=L.length∧L.length≤9223372036854775807:=by
 obtain ⟨a,n,nc,ys,rfl,hle,hn,hx,hel⟩:=row_of ht cFile (by omega) h
 have hmax:=qoy ht h
 have key:∀ i (hi:i < ys.length),∃ f:Fil,∃ (b o:Nat) (c:Array Value) (T:TypeId) (fr:Nat × Nat),a=some ⟨b,o,none⟩∧W.heap[b]?=some (.cells c T fr)∧o+i * 3+3≤c.size∧∀ j,j < 3→c[o+i * 3+j]?=(zbf f)[j]?:=by
  intro i hi
  obtain ⟨b,o,c,T,fr,m,ps,rfl,hb,hsz,ht2⟩:=hel i hi
  obtain ⟨zs,_,_,_,hf⟩:=qkh qpt ht2
  obtain ⟨a0,b0,e0,_,g0⟩:=hf 0 qc 0 rfl
  obtain ⟨a1,b1,e1,_,g1⟩:=hf 1 z9v 1 rfl
  obtain ⟨a2,b2,e2,_,g2⟩:=hf 2 qc 2 rfl
  rw [cStr,qcq (by omega) hsz] at g0 g2
  rw [qpw,qcq (by omega) hsz] at g1
  obtain ⟨p,hp,_⟩:=qna zwa g0
  obtain ⟨d,hd⟩:=qnz qjz g1
  obtain ⟨s,hs,_⟩:=qna zwa g2
  have cell:∀ {j:Nat} {w:Value} (hj:j < 3),c[o+i * 3+j]'(by omega)=w→c[o+i * 3+j]?=some w:=fun hj h=>by rw [← h];exact Array.getElem?_eq_getElem _
  refine ⟨⟨p,d,s⟩,b,o,c,T,fr,rfl,hb,hsz,fun j hj=>?_⟩
  match j,hj with
  | 0,_=>exact cell (j:=0) (by omega) hp
  | 1,_=>exact cell (j:=1) (by omega) hd
  | 2,_=>exact cell (j:=2) (by omega) hs
 classical
 have hLl:((List.range n).map fun i=>if h:i < ys.length then Classical.choose (key i h) else default).length=n:=by simp
 refine ⟨a,n,nc,(List.range n).map fun i=>if h:i < ys.length then Classical.choose (key i h) else default,rfl,?_,by simp,by simpa using hmax⟩
 by_cases h0:n=0
 ·subst h0;exact .inl rfl
 ·obtain ⟨b,o,c,T,fr,rfl,hb,_,_⟩:=Classical.choose_spec (key 0 (by omega))
  have at_:∀ i (hi:i < ys.length),o+i * 3+3≤c.size∧∀ j,j < 3→c[o+i * 3+j]?=(zbf (Classical.choose (key i hi)))[j]?:=by
   intro i hi
   obtain ⟨b2,o2,c2,T2,fr2,he,hb2,h3,h4⟩:=Classical.choose_spec (key i hi)
   cases he
   rw [hb] at hb2;cases hb2
   exact ⟨h3,h4⟩
  refine .inr ⟨b,o,c,T,fr,rfl,hb,?_,?_⟩
  ·have:=(at_ (n - 1) (by omega)).1
   rw [z3l,hLl];omega
  ·apply List.ext_getElem?
   intro j
   rw [Array.getElem?_toList,Array.getElem?_extract,z3l,hLl,getElem_flatMap zbf zba (by omega),List.getElem?_map]
   by_cases hj:j < n * 3
   ·have hj3:j / 3 < ys.length:=by omega
    have hsz:=(at_ (n - 1) (by omega)).1
    rw [if_pos (by omega),List.getElem?_range (by omega)]
    simp only [Option.map_some,Option.bind_some,hj3,dif_pos]
    rw [← (at_ (j / 3) hj3).2 (j % 3) (by omega)]
    rw [show o+j / 3 * 3+j % 3=o+j from by omega]
   ·have hnone:(List.range n)[j / 3]?=none:=List.getElem?_eq_none (by rw [List.length_range];omega)
    rw [if_neg (by omega),hnone];rfl
end Go.Proofs.YtbmegmbnlajbbaaGreatDoor
namespace Go.Proofs.YtbmegmbnlajbbaaGreatDoor.RowC
open Go.Proofs.YtbmegmbnlajbbaaGreatDoor.Bl Go Go.Fw Go.Proofs Go.ChangeShapes Go.WideShapes Go.ChangeAt Go.RowKit
theorem own:ownKnob Tryz.prog.godebug=none:=by kernel_rfl
theorem gTab:Tryz.prog.globalNamed "veneer/sha.rounds"=some 0:=by kernel_rfl
theorem ql5:(Tryz.prog.globals[0]?).map (·.type)=some zao:=by kernel_rfl
theorem u66:Tryz.prog.underlying zao=some (.array 64 zr4):=by kernel_rfl
theorem u64':Tryz.prog.underlying zr4=some (.int .u32):=by kernel_rfl
theorem qo1:Tryz.prog.cellsOf zao=64:=by kernel_rfl
theorem qoe:Tryz.prog.cellsOf zr4=1:=by kernel_rfl
theorem laidOut:laidOutB Tryz.prog=true:=by kernel_rfl
def kz:List Int:=Sha.kc.map fun n:Nat=>(n:Int)
theorem qqm:(Rows.laid_veneer_sha_rounds:DataW Unit)=Lib.tabData .u32 kz:=by kernel_rfl
theorem table {W:World} (h:laidMetH Tryz.prog [("veneer/sha.rounds",Rows.laid_veneer_sha_rounds)] W):Lib.TabIs Tryz.prog W "veneer/sha.rounds" .u32 kz:=by
 have h':laidMet Tryz.prog [("veneer/sha.rounds",(Rows.laid_veneer_sha_rounds:DataW Unit))] W:=h
 rw [qqm] at h'
 exact Lib.tabIs_of_head (rest:=[]) gTab ql5 u66 u64' qoe qo1 h'
theorem qry:∀ i,i < 64→kz.getD i 0=((Sha.K i).toNat:Int):=by decide +kernel
theorem qjx {W:World} (h:Lib.TabIs Tryz.prog W "veneer/sha.rounds" .u32 kz):Rounds W.heap:=by
 have hc:∀ i,i < 64→W.cell? ⟨0,i,none⟩=some (.int .u32 ((Sha.K i).toNat:Int)):=by
  intro i hi
  rw [← qry i hi]
  exact h.cell gTab i (by simpa [kz,Sha.kc] using hi)
 obtain ⟨_,c,T,fr,hb,_⟩:=zvd (hc 0 (by omega))
 refine ⟨c,T,fr,hb,fun i hi=>?_⟩
 obtain ⟨_,c2,T2,fr2,hb2,h2⟩:=zvd (hc i hi)
 rw [hb] at hb2
 cases hb2
 rw [Nat.zero_add]
 exact h2
noncomputable def laidWorld (os:Os):World :=
 { World.holding Tryz.prog os ⟨#[],#[],[]⟩ with heap:=(World.holding Tryz.prog os ⟨#[],#[],[]⟩).heap.modify 0 fun
   | .cells _ t frozen=>.cells (W32 Sha.K 64) t frozen
   | o=>o }
end Go.Proofs.YtbmegmbnlajbbaaGreatDoor.RowC
namespace Go.Proofs.YtbmegmbnlajbbaaGreatDoor
open Go Go.Fw Go.Proofs Go.Sort
def zn3 (R:List UInt8) (i:Nat):List UInt8:=R.take i++List.replicate (32 - i) 0
theorem z5s {R:List UInt8} {i:Nat} (h:i≤R.length) (hi:i≤32):(zn3 R i).length=32:=by simp [zn3];omega
theorem qe4 {R:List UInt8} {i:Nat} (h:i < R.length) (hi:i < 32):(zn3 R i).set i R[i]=zn3 R (i+1):=by
 apply List.ext_getElem?
 intro j
 rw [List.getElem?_set]
 have hl:(zn3 R i).length=32:=z5s (by omega) (by omega)
 by_cases hj:i=j
 ·subst hj
  rw [if_pos rfl,if_pos (by omega)]
  simp only [zn3]
  rw [List.getElem?_append_left (by simp;omega),List.getElem?_take,if_pos (by omega),List.getElem?_eq_getElem h]
 ·rw [if_neg hj]
  simp only [zn3]
  by_cases hj2:j < i
  ·rw [List.getElem?_append_left (by simp;omega),List.getElem?_append_left (by simp;omega),List.getElem?_take,List.getElem?_take,if_pos (by omega),if_pos (by omega)]
  ·rw [List.getElem?_append_right (by simp;omega),List.getElem?_append_right (by simp;omega)]
   simp only [List.getElem?_replicate,List.length_take]
   by_cases h3:j < 32
   ·rw [if_pos (by omega),if_pos (by omega)]
   ·rw [if_neg (by omega),if_neg (by omega)]
set_option maxHeartbeats 4000000 in
theorem qi6 {w:World} {H:Heap} {b:Nat} {F:List Nat} {s:Rest} (hw:w.heap=H) (hI:zsq H b F s) (hF:∀ c ∈ F,c < H.size) :
  qg P zg8 #[.pointer (some ⟨b,0,none⟩)] w fun e w'=>e=.returned (arr (dgS s).1)∧zsq w'.heap b F (dgS s).2∧Ext [b] H w'.heap:=by
 have hbl:=hI.lt
 refine zx6 ?_
 unfold zls
 refine jw hw fun w1 hw1=>?_
 have hx1:Ext [] H w1.heap:=by rw [hw1];exact .push _
 have hb1:w1.heap[H.size]?=some (.cells (zc P zf) zf (0,0)):=by rw [hw1];exact zo
 refine jw rfl fun w2 hw2=>?_
 have hx2:Ext [] w1.heap w2.heap:=by rw [hw2];exact .push _
 have hd2:w2.heap[w1.heap.size]?=some (.cells (zc P zf) zf (0,0)):=by rw [hw2];exact zo
 have hx02:=hx1.trans hx2
 have hb2:=hx2.get hb1 (by simp)
 have s1:=lt_of_get hb1
 have s2:=lt_of_get hd2
 have hI2:=hI.ext hx02 (by simp) (by simp)
 rw [qse] at hb2 hd2
 simp only [xq,jv,Nat.zero_add]
 obtain ⟨ec,hld,hec⟩:=hI2.err
 rw [Nat.zero_add] at hld
 refine hld rfl ?_
 cases s with
 | none =>
  refine zam (fun _=>?_) (fun h=>by have:=hec.1 h;simp at this)
  refine je rfl hd2 (by simp [Bl.nought]) ?_
  refine z9a Bl.zeq rfl hb2 (by simp [Bl.nought]) fun w3 hw3=>?_
  have hx3:Ext [H.size] w2.heap w3.heap:=by rw [hw3];exact Ext.set _ (by simp)
  have hb3:w3.heap[H.size]?=some (.cells (byteCells Bl.nought).toArray zf (0,0)):=by rw [hw3];exact qp hb2
  refine je rfl hb3 (by simp [Bl.nought]) ?_
  refine ⟨rfl,hI2.ext hx3 (by simp;omega) (fun c hc h=>by simp at h;subst h;have:=hF _ hc;omega),(hx02.mono (by simp)).own hx3 (fun c hc hlt=>by simp at hc;omega)⟩
 | some R =>
 refine jk (by rw [hec.2 rfl];rfl) ?_
 refine zn (qk4 rfl hI2) ?_
 rintro e w4 ⟨rfl,hw4⟩
 refine ⟨(R.length:Int),rfl,?_⟩
 have hx4:Ext [] H w4.heap:=by rw [hw4];exact hx02
 have hI4:zsq w4.heap b F (some R):=by rw [hw4];exact hI2
 have hb4:w4.heap[H.size]?=some (.cells (byteCells Bl.nought).toArray zf (0,0)):=by rw [hw4];exact hb2
 have hd4:w4.heap[w1.heap.size]?=some (.cells (byteCells Bl.nought).toArray zf (0,0)):=by rw [hw4];exact hd2
 refine zq (fun hlt=>?_) (fun hge=>?_)
 ·have he:dgS (some R)=(Bl.nought,none):=by unfold dgS;simp only;rw [if_neg (by omega)]
  refine zn (qkz 20 rfl hI4 (by omega)) ?_
  rintro e w5 ⟨rfl,h5,hx5⟩
  refine ⟨(),rfl,?_⟩
  have hd5:=hx5.get hd4 (by simp;omega)
  have hb5:=hx5.get hb4 (by simp;omega)
  refine je rfl hd5 (by simp [Bl.nought]) ?_
  refine z9a Bl.zeq rfl hb5 (by simp [Bl.nought]) fun w6 hw6=>?_
  have hx6:Ext [H.size] w5.heap w6.heap:=by rw [hw6];exact Ext.set _ (by simp)
  have hb6:w6.heap[H.size]?=some (.cells (byteCells Bl.nought).toArray zf (0,0)):=by rw [hw6];exact qp hb5
  refine je rfl hb6 (by simp [Bl.nought]) ?_
  rw [he]
  exact ⟨rfl,h5.ext hx6 (by simp;omega) (fun c hc h=>by simp at h;subst h;have:=hF _ hc;omega),((hx4.mono (by simp)).trans hx5).own hx6 (fun c hc hlt=>by simp at hc;omega)⟩
 have hR32:32≤R.length:=by omega
 have he:dgS (some R)=(R.take 32,some (R.drop 32)):=by unfold dgS;simp only;rw [if_pos hR32]
 refine jd (fun (t:Int) W=>∃ i:Nat,t=(i:Int)∧i≤32∧zsq W.heap b F (some R)∧Ext [w1.heap.size] w4.heap W.heap∧W.heap[w1.heap.size]?=some (.cells (byteCells (zn3 R i)).toArray zf (0,0))) (fun t _=>(32 - t).toNat)
  ⟨0,rfl,by omega,hI4,.refl _ _,hd4⟩ ?_
 rintro _ W ⟨i,rfl,hi,hIW,hxW,hdW⟩
 refine zq (fun hlt=>?_) (fun hdone=>?_)
 ·have hi32:i < 32:=by omega
  refine jq rfl fun w8 hw8=>?_
  have hI8:zsq w8.heap b F (some R):=by rw [hw8];exact hIW
  have hd8:w8.heap[w1.heap.size]?=some (.cells (byteCells (zn3 R i)).toArray zf (0,0)):=by rw [hw8];exact hdW
  have hx8:Ext [w1.heap.size] w4.heap w8.heap:=by rw [hw8];exact hxW
  obtain ⟨x,j,ee,B,g1,g2,g3,g4,g5,g6,g7,g8,rfl,hR⟩:=id hI8
  refine jg (s:=.slc) (t:=x) rfl g1 rfl ?_
  refine jg (s:=.int .i64) (t:=(j:Int)) rfl g1 rfl ?_
  have hRl:R.length=B.length - j:=by rw [hR];simp
  refine xk ((j+i:Nat):Int) (by omega) (by omega) (by omega) ?_
  obtain ⟨b9,o9,c9,T9,fr9,hx9,hb9,ho9,hby⟩:=g4.bytes (fun (h:B=[])=>absurd (congrArg List.length h) (by simp only [List.length_nil];omega))
  rw [hx9]
  refine zqm (j+i) rfl (by omega) ?_
  have hget:B.getD (j+i) 0=R[i]'(by omega):=by
   have h1:B[j+i]?=R[i]?:=by rw [hR,List.getElem?_drop]
   rw [List.getD_eq_getElem?_getD,h1,List.getElem?_eq_getElem (by omega)]
   rfl
  refine jg (s:=.int .u8) (t:=((R[i]'(by omega)).toNat:Int)) rfl hb9 (by have:=hby (j+i) (by omega);simp only [hget] at this;exact this) ?_
  refine ze4 i rfl (by omega) ?_
  refine zbp rfl hd8 (by simp [z5s (show i≤R.length by omega) (show i≤32 by omega)];omega) fun w10 hw10=>?_
  have hset:(byteCells (zn3 R i)).toArray.setIfInBounds i (.int .u8 ((R[i]'(by omega)).toNat:Int))=(byteCells (zn3 R (i+1))).toArray:=by
   rw [← qe4 (show i < R.length by omega) hi32]
   simp [byteCells,List.map_set]
  rw [hset] at hw10
  have hx10:Ext [w1.heap.size] w8.heap w10.heap:=by rw [hw10];exact Ext.set _ (by simp)
  refine xk ((i+1:Nat):Int) (by simp) (by omega) (by omega) ?_
  exact ⟨⟨i+1,rfl,by omega,hI8.ext hx10 (by simp;omega) (fun c hc h=>by simp at h;subst h;have:=hF _ hc;omega),hx8.trans hx10,by rw [hw10];exact qp hd8⟩,by omega⟩
 ·obtain rfl:i=32:=by omega
  obtain ⟨x,j,ee,B,g1,g2,g3,g4,g5,g6,g7,g8,rfl,hR⟩:=id hIW
  have hRl:R.length=B.length - j:=by rw [hR];simp
  refine jg (s:=.int .i64) (t:=(j:Int)) rfl g1 rfl ?_
  refine xk ((j+32:Nat):Int) (by omega) (by omega) (by omega) ?_
  refine zbp rfl g1 (by simp) fun w10 hw10=>?_
  have hx10:Ext [b] W.heap w10.heap:=by rw [hw10];exact Ext.set _ (by simp)
  have hI10:zsq w10.heap b F (some (R.drop 32)):=⟨x,j+32,0,B,by rw [hw10];exact qp g1,g2,g3,znz g4 hx10 g3 (fun d hd h=>by simp at h;subst h;exact g2 hd),g5,g6,g7,by omega,rfl,by rw [hR,List.drop_drop]⟩
  have hd10:=hx10.get hdW (by simp;omega)
  have e32:zn3 R 32=R.take 32:=by simp [zn3]
  rw [e32] at hd10
  have hl32:(R.take 32).length=32:=by simp;omega
  refine je rfl hd10 (by simp [hl32]) ?_
  have hb10:=hx10.get (hxW.get hb4 (by simp;omega)) (by simp;omega)
  refine z9a hl32 rfl hb10 (by simp [Bl.nought]) fun w11 hw11=>?_
  have hx11:Ext [H.size] w10.heap w11.heap:=by rw [hw11];exact Ext.set _ (by simp)
  have hb11:w11.heap[H.size]?=some (.cells (byteCells (R.take 32)).toArray zf (0,0)):=by rw [hw11];exact qp hb10
  refine je rfl hb11 (by simp [hl32]) ?_
  rw [he]
  refine ⟨rfl,hI10.ext hx11 (by simp;omega) (fun c hc h=>by simp at h;subst h;have:=hF _ hc;omega),?_⟩
  have h04:Ext [b] H W.heap:=(hx4.mono (by simp)).own hxW (fun c hc hlt=>by simp at hc;omega)
  exact (h04.trans hx10).own hx11 (fun c hc hlt=>by simp at hc;omega)
def zve (T:List Itm) (i:Nat):List UInt8:=if i=0 then [] else ((T[i - 1]?).map (·.name)).getD []
set_option maxHeartbeats 8000000 in
theorem qlz {w:World} {H:Heap} {n:Nod} {xp xi:Option Addr × Nat × Nat} (hw:w.heap=H) (hN:NodW H n xp xi) (hnn:∀ i ∈ n.items,i.name.length≤9223372036854775807) :
  qg P zs9 #[.agg (zbz n xp xi).toArray] w fun e w'=>e=.returned (.bool (zan n))∧Ext [] H w'.heap:=by
 obtain ⟨g1,g2,g3,g4,g5,g6⟩:=hN
 refine qbt ?_
 unfold ztw
 refine jw hw fun w1 hw1=>?_
 have hx1:Ext [] H w1.heap:=by rw [hw1];exact .push _
 have hb1:w1.heap[H.size]?=some (.cells (zbz n xp xi).toArray zh (0,0)):=by rw [hw1];exact zo
 refine jg (s:=.int .i64) (t:=n.kind) rfl hb1 rfl ?_
 have hle:∀ {k:Nat},(((k:Int) == 0)=true) ↔ k=0:=by intro k;simp
 refine za5 (fun h1=>?_) (fun h1=>?_)
 ·have hf:∀ {p:Prop},(¬ (0 < n.data.length∧n.data.length≤64∧n.size=0∧n.parts.length=0∧n.items.length=0))→(Ending.returned (.bool false)=.returned (.bool (zan n))∧Ext [] H w1.heap):=by
   intro p h
   exact ⟨by rw [zan,if_pos h1,decide_eq_false h],hx1⟩
  refine jg (s:=.str) (t:=strOf n.data) rfl hb1 rfl ?_
  refine zq (fun h2=>?_) (fun h2=>hf (p:=True) fun h=>h2 (by simp;omega))
  refine jg (s:=.str) (t:=strOf n.data) rfl hb1 rfl ?_
  refine zq (fun h3=>?_) (fun h3=>hf (p:=True) fun h=>h3 (by simp;omega))
  refine jg (s:=.int .i64) (t:=n.size) rfl hb1 rfl ?_
  refine za5 (fun h4=>?_) (fun h4=>hf (p:=True) fun h=>h4 h.2.2.1)
  refine jg (s:=.slc) (t:=xp) rfl hb1 rfl ?_
  refine za5 (fun h5=>?_) (fun h5=>hf (p:=True) fun h=>h5 (by omega))
  refine jg (s:=.slc) (t:=xi) rfl hb1 rfl ?_
  refine ⟨?_,hx1⟩
  rw [zan,if_pos h1]
  congr 2
  rw [Bool.eq_iff_iff,hle,decide_eq_true_eq,g4]
  simp at h2 h3
  exact ⟨fun h=>⟨by omega,by omega,h4,by omega,h⟩,fun h=>h.2.2.2.2⟩
 refine jg (s:=.str) (t:=strOf n.data) rfl hb1 rfl ?_
 refine zdq (p:=¬ n.data=[]) (by rw [Bool.not_eq_true',← Bool.not_eq_true,zhz]) (fun h2=>⟨by
  have:zan n=false:=by
   unfold zan;rw [if_neg h1]
   split
   ·exact decide_eq_false fun h=>h2 h.1
   ·split
    ·rw [decide_eq_false fun h=>h2 h.1];rfl
    ·rfl
  rw [this],hx1⟩) (fun h2=>?_)
 have hdat:n.data=[]:=Decidable.byContradiction h2
 refine jg (s:=.int .i64) (t:=n.kind) rfl hb1 rfl ?_
 refine za5 (fun h2=>?_) (fun h2=>?_)
 ·have hf:(¬ (n.data=[]∧0≤n.size∧n.size≤1024∧(n.parts.length:Int)=zn2 n.size∧n.items.length=0))→(Ending.returned (.bool false)=.returned (.bool (zan n))∧Ext [] H w1.heap):=by
   intro h
   exact ⟨by rw [zan,if_neg h1,if_pos h2,decide_eq_false h],hx1⟩
  refine Go.Fw.joinP_of (fun _ W=>W=w1∧0≤n.size∧n.size≤1024∧n.items.length=0) ?_ ?_
  ·refine jg (s:=.int .i64) (t:=n.size) rfl hb1 rfl ?_
   refine zq (fun h3=>hf fun h=>by omega) (fun h3=>?_)
   refine jg (s:=.int .i64) (t:=n.size) rfl hb1 rfl ?_
   refine zq (fun h4=>hf fun h=>by omega) (fun h4=>?_)
   refine jg (s:=.slc) (t:=xi) rfl hb1 rfl ?_
   refine zam (fun h5=>hf fun h=>h5 (by omega)) (fun h5=>⟨rfl,by omega,by omega,by omega⟩)
  rintro _ W ⟨hW,k1,k2,k3⟩
  subst hW
  refine jg (s:=.int .i64) (t:=n.size) rfl hb1 rfl ?_
  refine jd (fun (s:Int × Int) W'=>∃ k:Nat,s=((k:Int),n.size - 64 * k)∧(k:Int)≤zn2 n.size∧W'=W) (fun s _=>(s.2+64).toNat) ⟨0,by simp,by unfold zn2;omega,rfl⟩ ?_
  rintro _ W' ⟨k,rfl,hk,hW'⟩
  subst hW'
  unfold zn2 at hk
  refine zq (fun hlt=>?_) (fun hge=>?_)
  ·have hlt:n.size - 64 * (k:Int) > 0:=hlt
   refine xk ((k+1:Nat):Int) (by simp) (by omega) (by omega) ?_
   refine zbo (n.size - 64 * ((k+1:Nat):Int)) (by simp only;omega) (by omega) (by omega) ?_
   exact ⟨⟨k+1,rfl,by unfold zn2;omega,rfl⟩,by simp only;omega⟩
  ·have hge:¬ n.size - 64 * (k:Int) > 0:=hge
   refine jg (s:=.slc) (t:=xp) rfl hb1 rfl ?_
   refine ⟨?_,hx1⟩
   rw [zan,if_neg h1,if_pos h2]
   congr 2
   rw [Bool.eq_iff_iff,decide_eq_true_eq,g2]
   unfold zn2
   simp only [beq_iff_eq]
   constructor
   ·intro h;exact ⟨hdat,k1,k2,by omega,k3⟩
   ·intro h;have:=h.2.2.2.1;omega
 refine Go.Fw.joinP_of (fun _ W=>W=w1∧n.kind=3∧n.size=0∧n.parts.length=0∧n.items.length≤64) ?_ ?_
 ·refine jg (s:=.int .i64) (t:=n.kind) rfl hb1 rfl ?_
  refine zam (fun h3=>⟨by rw [zan,if_neg h1,if_neg h2,if_neg h3],hx1⟩) (fun h3=>?_)
  have hf:¬ (n.data=[]∧n.size=0∧n.parts.length=0)→(Ending.returned (.bool false)=.returned (.bool (zan n))∧Ext [] H w1.heap):=by
   intro h
   exact ⟨by rw [zan,if_neg h1,if_neg h2,if_pos h3,decide_eq_false h];rfl,hx1⟩
  refine jg (s:=.int .i64) (t:=n.size) rfl hb1 rfl ?_
  refine zam (fun h4=>hf fun h=>h4 h.2.1) (fun h4=>?_)
  refine jg (s:=.slc) (t:=xp) rfl hb1 rfl ?_
  refine zam (fun h5=>hf fun h=>h5 (by omega)) (fun h5=>?_)
  refine jg (s:=.slc) (t:=xi) rfl hb1 rfl ?_
  refine zq (fun h6=>⟨?_,hx1⟩) (fun h6=>⟨rfl,h3,h4,by omega,by omega⟩)
  rw [zan,if_neg h1,if_neg h2,if_pos h3,zio,decide_eq_false (show ¬ n.items.length≤64 by omega)]
  simp
 rintro _ W0 ⟨hW0,h3,k4,k5,k6⟩
 subst hW0
 have hr0:zan n=zfm [] n.items:=by
  rw [zan,if_neg h1,if_neg h2,if_pos h3,zio,decide_eq_true (show n.data=[]∧n.size=0∧n.parts.length=0 from ⟨hdat,k4,k5⟩),decide_eq_true k6]
  simp
 rw [hr0]
 refine jd (fun (s:Int) W=>∃ i:Nat,s=(i:Int)∧i≤n.items.length∧zfm [] n.items=zfm (zve n.items i) (n.items.drop i)∧Ext [] W0.heap W.heap) (fun s _=>(n.items.length - s).toNat)
  ⟨0,rfl,Nat.zero_le _,by simp [zve],.refl _ _⟩ ?_
 rintro _ W ⟨i,rfl,hi,hr,hxW⟩
 have hbW:=hxW.get hb1 (by simp)
 have hx0W:=hx1.trans hxW
 refine jg (s:=.slc) (t:=xi) rfl hbW rfl ?_
 refine zq (fun hlt=>?_) (fun hge=>?_)
 ·have hil:i < n.items.length:=by omega
  have hget:=List.getElem?_eq_getElem hil
  have hmem:n.items[i] ∈ n.items:=List.getElem_mem hil
  rw [List.drop_eq_getElem_cons hil] at hr
  have hpn:zve n.items (i+1)=(n.items[i]).name:=by simp [zve,hget]
  generalize n.items[i]=v at hget hmem hr hpn
  have hvn:=hnn v hmem
  have hfalse:∀ {W':World},Ext [] H W'.heap→zfm (zve n.items i) (v :: n.items.drop (i+1))=false→(Ending.returned (.bool false)=.returned (.bool (zfm [] n.items))∧Ext [] H W'.heap):=by
   intro W' hx h
   exact ⟨by rw [hr,h],hx⟩
  refine Go.Fw.joinP_of (fun _ W'=>Ext [] W0.heap W'.heap∧zfm (zve n.items i) (v :: n.items.drop (i+1))=zfm v.name (n.items.drop (i+1))) ?_ ?_
  rotate_left
  ·rintro _ W' ⟨hx',he⟩
   refine xk ((i+1:Nat):Int) (by simp) (by omega) (by omega) ?_
   exact ⟨⟨i+1,rfl,by omega,by rw [hpn,hr,he],hx'⟩,by omega⟩
  refine Go.Fw.joinP_of (fun _ W'=>Ext [] W0.heap W'.heap∧zfm (zve n.items i) (v :: n.items.drop (i+1))=zfm v.name (n.items.drop (i+1))) ?_ (fun _ W' h=>h)
  refine jg (s:=.slc) (t:=xi) rfl hbW rfl ?_
  refine zgx (i:=i) zat (by omega) rfl (g3.ext hx0W (by simp)) g4 hget rfl ?_
  refine qpd v rfl fun w7 hw7=>?_
  have hx7:Ext [] W.heap w7.heap:=by rw [hw7];exact .push _
  have hb7:w7.heap[W.heap.size]?=some (.cells (zeg v).toArray ql (0,0)):=by rw [hw7];exact zo
  refine jq rfl fun w8 hw8=>?_
  rw [← hw8] at hx7 hb7
  have hx08:=hx0W.trans hx7
  have hbW8:=hx7.get hbW (by simp)
  refine jg (s:=.str) (t:=strOf v.name) rfl hb7 rfl ?_
  refine zn (qox v.name hvn) ?_
  rintro e w9 ⟨rfl,rfl⟩
  refine ⟨zc8 v.name,rfl,?_⟩
  refine zdq (p:=¬ zc8 v.name=true) (by simp) (fun h=>hfalse hx08 (by simp [zfm,h])) (fun h=>?_)
  have hok:zc8 v.name=true:=by simpa using h
  have hend:(v.kind=2 ∨ v.kind=3)→xg (decide ((i:Int) > 0)) (
    zl4 .i64 (i:Int) 1 fun t123 =>
    ld .slc (⟨H.size,4,none⟩:Addr) w9 fun (t121:(Option Addr × Nat × Nat)) =>
    ixS t121.1 t121.2.1 34 t123 fun t124 =>
    ld .str t124 w9 fun (t126:ByteArray) =>
    ld .str (⟨W.heap.size,0,none⟩:Addr) w9 fun (t128:ByteArray) =>
    xg (!(Op.bytesLess t126.toList t128.toList)) (
    Ending.returned (.bool false)=.returned (.bool (zfm [] n.items))∧Ext [] H w9.heap) (
    Ext [] W0.heap w9.heap∧zfm (zve n.items i) (v :: n.items.drop (i+1))=zfm v.name (n.items.drop (i+1)))) (
    Ext [] W0.heap w9.heap∧zfm (zve n.items i) (v :: n.items.drop (i+1))=zfm v.name (n.items.drop (i+1))):=by
   intro hk
   have good:Lib.compareBytes (zve n.items i) v.name < 0→Ext [] W0.heap w9.heap∧zfm (zve n.items i) (v :: n.items.drop (i+1))=zfm v.name (n.items.drop (i+1)):=by
    intro hlt
    refine ⟨hxW.trans hx7,?_⟩
    rcases hk with hk | hk <;> simp [zfm,hlt,hok,hk]
   refine zq (fun hpos=>?_) (fun hz=>?_)
   ·have hpos:0 < i:=by omega
    have hget2:=List.getElem?_eq_getElem (show i - 1 < n.items.length by omega)
    have hpv:zve n.items i=(n.items[i - 1]).name:=by simp [zve,hget2,show i ≠ 0 by omega]
    generalize n.items[i - 1]=u at hget2 hpv
    refine zbo ((i - 1:Nat):Int) (by omega) (by omega) (by omega) ?_
    refine jg (s:=.slc) (t:=xi) rfl hbW8 rfl ?_
    refine Bl.zb8 (i:=i - 1) zat (by omega) (g3.ext hx08 (by simp)) g4 hget2 rfl fun b2 o2 c2 T2 fr2 _ hb2 hs2 hc2 _=>?_
    refine jg (s:=.str) (t:=strOf u.name) rfl hb2 (hc2 0 (by omega)) ?_
    refine jg (s:=.str) (t:=strOf v.name) rfl hb7 rfl ?_
    refine zdq (p:=¬ Lib.compareBytes u.name v.name < 0) (by rw [bytesLess_eq,zaj,zaj,zfa];simp) (fun h=>hfalse hx08 (by rw [hpv];simp [zfm,h])) (fun h=>good (by rw [hpv];exact Decidable.byContradiction h))
   ·obtain rfl:i=0:=by omega
    refine good ?_
    have:=(zej.1 hok).1.1
    cases hl:v.name with
    | nil=>exact absurd hl this
    | cons a b=>simp [zve,Lib.compareBytes]
  refine jg (s:=.int .i64) (t:=v.kind) rfl hb7 rfl ?_
  refine zam (fun hk2=>?_) (fun hk2=>hend (.inl hk2))
  refine jg (s:=.int .i64) (t:=v.kind) rfl hb7 rfl ?_
  refine zam (fun hk3=>hfalse hx08 (by simp [zfm,hk2,hk3])) (fun hk3=>hend (.inr hk3))
 ·obtain rfl:i=n.items.length:=by omega
  rw [List.drop_length] at hr
  exact ⟨by rw [hr];rfl,hx0W⟩
theorem qs7 (x:Option Addr × Nat × Nat) (w:World):(Instr.build zr5 #[(0,.slice x.1 x.2.1 x.2.2)]).run P w=.ok (.agg #[zck x,.int .i64 0,.int .i64 0]) w:=by kernel_rfl
theorem zzq:∀ {l:List Itm} {last:List UInt8},zfm last l=true→∀ i ∈ l,i.kind=2 ∨ i.kind=3
 | [],_,_=>by simp
 | i :: r,last,h=>by
  simp only [zfm,Bool.and_eq_true,Bool.or_eq_true,decide_eq_true_eq] at h
  intro j hj
  rcases List.mem_cons.1 hj with rfl | hj
  ·exact h.1.2
  ·exact zzq h.2 j hj
theorem z4p {s:Rest} {i:Nat}:∀ {M:Nat},i < M→(zyg (zbn i s).2).1 ∈ (zbn M s).1
 | 0,h=>by omega
 | M+1,h=>by
  rw [zbn]
  by_cases e:i=M
  ·subst e;simp
  ·exact List.mem_append.2 (.inl (z4p (by omega)))
theorem qss {s:Rest} (h1:min (nmS s).1 9=2) (h:1024 < (nmS (nmS s).2).1):zan (zak s).1=false:=by
 unfold zak
 rw [if_neg (by omega),if_pos h1]
 unfold zan
 rw [if_neg (show ¬ ((2:Int)=1) by decide),if_pos rfl]
 refine decide_eq_false fun h2=>?_
 have:=h2.2.2.1
 simp only at this
 omega
theorem qtd {s:Rest} (h1:min (nmS s).1 9=3) (h:64 < (nmS (nmS s).2).1):zan (zak s).1=false:=by
 unfold zak
 rw [if_neg (by omega),if_neg (by omega),if_pos h1]
 unfold zan
 rw [if_neg (show ¬ ((3:Int)=1) by decide),if_neg (show ¬ ((3:Int)=2) by decide),if_pos rfl,zio,decide_eq_false (show ¬ (zbn (min (nmS (nmS s).2).1 65) (nmS (nmS s).2).2).1.length≤64 by rw [zn8];omega)]
 simp
theorem qrc {s:Rest} (h1:min (nmS s).1 9=3) {i:Nat} (hi:i < min (nmS (nmS s).2).1 65) (hk:3 < (zyg (zbn i (nmS (nmS s).2).2).2).1.kind):zan (zak s).1=false:=by
 rw [← Bool.not_eq_true]
 intro h
 unfold zak at h
 rw [if_neg (by omega),if_neg (by omega),if_pos h1] at h
 unfold zan at h
 rw [if_neg (show ¬ ((3:Int)=1) by decide),if_neg (show ¬ ((3:Int)=2) by decide),if_pos rfl] at h
 simp only [zio,Bool.and_eq_true] at h
 have:=zzq h.2.1 _ (z4p hi)
 omega
theorem other {s:Rest} (h1:min (nmS s).1 9 ≠ 1) (h2:min (nmS s).1 9 ≠ 2) (h3:min (nmS s).1 9 ≠ 3):zan (zak s).1=false:=by
 unfold zak
 rw [if_neg h1,if_neg h2,if_neg h3]
 unfold zan
 simp only
 rw [if_neg (by omega),if_neg (by omega),if_neg (by omega)]
set_option maxHeartbeats 8000000 in
theorem qjn {w:World} {H:Heap} {a:Option Addr} {n nc:Nat} {L:List UInt8} (hw:w.heap=H) (hL:Cells H a (byteCells L)) (hn:n=L.length) (hcap:n≤nc) (hl:L.length≤1099511627776) :
  qg P zro #[.slice a n nc] w fun e w'=>∃ xp xi,e=.returned (.tuple #[.agg (zbz (zj8 L).1 xp xi).toArray,.bool (decide ((zj8 L).2=0))])∧NodM w'.heap H.size (zj8 L).1 xp xi∧Ext [] H w'.heap:=by
 refine z6f ?_
 unfold zqw
 refine jw hw fun w1 hw1=>?_
 have hx1:Ext [] H w1.heap:=by rw [hw1];exact .push _
 have hd1:w1.heap[H.size]?=some (.cells (zc P zh) zh (0,0)):=by rw [hw1];exact zo
 have s1:=lt_of_get hd1
 refine qx (s:=.any) _ (qs7 (a,n,nc) _) ?_
 refine jw rfl fun w2 hw2=>?_
 have hx2:Ext [] w1.heap w2.heap:=by rw [hw2];exact .push _
 have hr2:w2.heap[w1.heap.size]?=some (.cells #[zck (a,n,nc),.int .i64 0,.int .i64 0] zr5 (0,0)):=by rw [hw2];exact zo
 have s2:=lt_of_get hr2
 refine qx (s:=.any) _ (bN0 _) ?_
 refine qd3 zdo (none,0,0) (none,0,0) rfl fun w4 hw4=>?_
 have hx4:Ext [] w2.heap w4.heap:=by rw [hw4];exact .push _
 have hn4:w4.heap[w2.heap.size]?=some (.cells (zbz zdo (none,0,0) (none,0,0)).toArray zh (0,0)):=by rw [hw4];exact zo
 have s4:=lt_of_get hn4
 have hx04:=(hx1.trans hx2).trans hx4
 have hd4:=(hx2.trans hx4).get hd1 (by simp)
 obtain ⟨F,hI4,hF⟩:∃ F,zsq w4.heap w1.heap.size F (some L)∧∀ c ∈ F,c < H.size:=by
  have hr4:=hx4.get hr2 (by simp)
  rcases id hL with h | ⟨b0,o,c,T,fr,ha,hb,_⟩
  ·have h0:L=[]:=by cases L with | nil=>rfl | cons _ _=>simp [byteCells] at h
   subst h0
   exact ⟨[],⟨(a,n,nc),0,0,[],hr4,by simp,fun h=>absurd rfl h,.inl rfl,hn,hcap,by simp,by simp,rfl,rfl⟩,by simp⟩
  ·have hlt:=lt_of_get hb
   exact ⟨[b0],⟨(a,n,nc),0,0,L,hr4,by simp;omega,fun _ c hc=>by simp [jf,ha] at hc;simp [hc],hL.ext hx04 (by simp),hn,hcap,hl,by simp,rfl,rfl⟩,by simp;exact hlt⟩
 generalize hbe:w1.heap.size=b at *
 generalize hce:w2.heap.size=c5 at *
 have bn:c5 ≠ b:=by omega
 have fn:∀ c ∈ F,c5 ≠ c:=fun c hc=>by have:=hF c hc;omega
 have hdec:zj8 L=if (zak (some L)).2=some []∧zan (zak (some L)).1=true then ((zak (some L)).1,0) else (zdo,21):=rfl
 have bad:∀ {W:World},¬ ((zak (some L)).2=some []∧zan (zak (some L)).1=true)→Ext [] H W.heap→W.heap[H.size]?=some (.cells (zc P zh) zh (0,0)) →
   zay P (Instr.build zh #[]) .any W fun (t:Value)=>zbs P (storeVar zh (⟨H.size,0,none⟩:Addr) t) W fun w2=>ldA P 5 (⟨H.size,0,none⟩:Addr) w2 fun t4 =>
    ∃ xp xi,Ending.returned (.tuple #[.agg t4,.bool false])=.returned (.tuple #[.agg (zbz (zj8 L).1 xp xi).toArray,.bool (decide ((zj8 L).2=0))])∧NodM w2.heap H.size (zj8 L).1 xp xi∧Ext [] H w2.heap:=by
  intro W h hx hd
  refine zkc (R:=fun t4 w2=>∃ xp xi,Ending.returned (.tuple #[.agg t4,.bool false])=.returned (.tuple #[.agg (zbz (zj8 L).1 xp xi).toArray,.bool (decide ((zj8 L).2=0))])∧NodM w2.heap H.size (zj8 L).1 xp xi∧Ext [] H w2.heap) rfl hd fun w' hx'=>?_
  rw [hdec,if_neg h]
  exact ⟨_,_,rfl,.bare rfl rfl,hx.own hx' (fun c hc hlt=>by simp at hc;omega)⟩
 refine zn (qbs rfl hI4) ?_
 rintro e w5 ⟨rfl,hI5,hx5⟩
 refine ⟨((nmS (some L)).1:Int),rfl,?_⟩
 have s5:=hx5.1
 have hn5:=hx5.get hn4 (by simp;exact bn)
 have hd5:=hx5.get hd4 (by simp;omega)
 have hx05:Ext [] H w5.heap:=hx04.own hx5 (fun c hc hlt=>by simp at hc;omega)
 have nil2:∀ {W:World},Mine W.heap w4.heap.size zf 32 (none,0,0) (([]:List (List UInt8)).flatMap Bl.zfb)∧Mine W.heap w4.heap.size ql 34 (none,0,0) (([]:List Itm).flatMap zeg):=⟨.inl ⟨rfl,rfl⟩,.inl ⟨rfl,rfl⟩⟩
 refine Go.Fw.joinP_of (fun _ W=>∃ n' s' xp xi,W.heap[c5]?=some (.cells (zbz n' xp xi).toArray zh (0,0))∧(Mine W.heap w4.heap.size zf 32 xp (n'.parts.flatMap Bl.zfb)∧Mine W.heap w4.heap.size ql 34 xi (n'.items.flatMap zeg))∧zsq W.heap b F s'∧Ext [] H W.heap∧W.heap[H.size]?=some (.cells (zc P zh) zh (0,0)) ∧
  ((n'=(zak (some L)).1∧s'=(zak (some L)).2) ∨ (n'=zdo∧zan (zak (some L)).1=false))) ?_ ?_
 rotate_left
 ·rintro _ W ⟨n',s',xp,xi,h1,h2,h3,h4,hd,hval⟩
  have hNM:NodM W.heap w4.heap.size n' xp xi:=by
   rcases hval with ⟨rfl,_⟩ | ⟨rfl,_⟩
   ·exact ⟨h2.1,h2.2,zur.1,zur.2⟩
   ·exact ⟨h2.1,h2.2,by simp [zdo],by simp [zdo]⟩
  have hnm:∀ i ∈ n'.items,i.name.length≤16:=by
   rcases hval with ⟨rfl,_⟩ | ⟨rfl,_⟩
   ·exact zrd.2.1
   ·simp [zdo]
  have no0:zan zdo=false:=by decide
  have hno:¬ (s'=some []∧zan n'=true)→¬ ((zak (some L)).2=some []∧zan (zak (some L)).1=true):=by
   rcases hval with ⟨rfl,rfl⟩ | ⟨rfl,h⟩
   ·exact id
   ·intro _ h';rw [h] at h';cases h'.2
  refine Go.Fw.joinP_of (fun _ W'=>Ext [] W.heap W'.heap∧s'=some []∧zan n'=true) ?_ ?_
  ·obtain ⟨ec,hld,hec⟩:=h3.err
   refine hld rfl ?_
   cases s' with
   | none=>exact zam (fun _=>bad (hno (by simp)) h4 hd) (fun h=>by have:=hec.1 h;simp at this)
   | some R =>
    refine jk (by rw [hec.2 rfl];rfl) ?_
    refine zn (qk4 rfl h3) ?_
    rintro e w6 ⟨rfl,hw6⟩
    refine ⟨(R.length:Int),rfl,?_⟩
    have h46:Ext [] H w6.heap:=by rw [hw6];exact h4
    have hx6:Ext [] W.heap w6.heap:=by rw [hw6];exact .refl _ _
    have hd6:=hx6.get hd (by simp)
    refine zam (fun h=>bad (hno fun h'=>by have:=h'.1;simp at this;subst this;simp at h) h46 hd6) (fun h=>?_)
    have hR0:R=[]:=List.eq_nil_of_length_eq_zero (by omega)
    refine je rfl (hx6.get h1 (by simp)) rfl ?_
    refine zn (qlz rfl (hNM.nodW.ext hx6) (fun i hi=>by have:=hnm i hi;omega)) ?_
    rintro e w8 ⟨rfl,hx8⟩
    refine ⟨zan n',rfl,?_⟩
    cases hr:zan n' with
    | true=>exact jk rfl ⟨hx6.trans hx8,by rw [hR0],rfl⟩
    | false=>exact vw rfl (bad (hno fun h'=>by rw [hr] at h';cases h'.2) (h46.trans hx8) (hx8.get hd6 (by simp)))
  ·rintro _ W' ⟨hx,hs',hok⟩
   have hn':n'=(zak (some L)).1∧s'=(zak (some L)).2:=by
    rcases hval with h | ⟨rfl,_⟩
    ·exact h
    ·rw [no0] at hok;cases hok
   obtain ⟨rfl,rfl⟩:=hn'
   refine je rfl (hx.get h1 (by simp)) rfl ?_
   refine stN _ xp xi rfl (hx.get hd (by simp)) zcN fun w11 hw11=>?_
   have hx11:Ext [H.size] W'.heap w11.heap:=by rw [hw11];exact Ext.set _ (by simp)
   have hd11:w11.heap[H.size]?=some (.cells (zbz (zak (some L)).1 xp xi).toArray zh (0,0)):=by rw [hw11];exact qp (hx.get hd (by simp))
   refine je rfl hd11 rfl ?_
   rw [hdec,if_pos ⟨hs',hok⟩]
   exact ⟨xp,xi,rfl,(((hNM.ext hx (by simp)).ext hx11 (fun c hc=>by simp at hc;omega)).mono (by omega)),(h4.trans hx).own hx11 (fun c hc hlt=>by simp at hc;omega)⟩
 refine Go.Fw.joinP_of (fun _ W=>∃ n' s' xp xi,W.heap[c5]?=some (.cells (zbz n' xp xi).toArray zh (0,0))∧(Mine W.heap w4.heap.size zf 32 xp (n'.parts.flatMap Bl.zfb)∧Mine W.heap w4.heap.size ql 34 xi (n'.items.flatMap zeg))∧zsq W.heap b F s'∧Ext [] H W.heap∧W.heap[H.size]?=some (.cells (zc P zh) zh (0,0)) ∧
  ((n'=(zak (some L)).1∧s'=(zak (some L)).2) ∨ (n'=zdo∧zan (zak (some L)).1=false))) ?_ (fun _ _ h=>h)
 refine za5 (fun h1=>?_) (fun h1=>?_)
 ·have h1:min (nmS (some L)).1 9=1:=by omega
  have hr:zak (some L)=(⟨1,(txS 64 (nmS (some L)).2).1,0,[],[]⟩,(txS 64 (nmS (some L)).2).2):=by unfold zak;rw [if_pos h1]
  refine zbp rfl hn5 (by simp [zbz]) fun w6 hw6=>?_
  have hx6:Ext [c5] w5.heap w6.heap:=by rw [hw6];exact Ext.set _ (by simp)
  have hn6:w6.heap[c5]?=some (.cells (zbz ⟨1,[],0,[],[]⟩ (none,0,0) (none,0,0)).toArray zh (0,0)):=by rw [hw6];exact qp hn5
  have hI6:=hI5.ext hx6 (by simp;exact bn.symm) (fun c hc h=>by simp at h;exact fn c hc h.symm)
  refine zn (qjv (most:=64) rfl hI6 (by omega)) ?_
  rintro e w7 ⟨rfl,hI7,hx7⟩
  refine ⟨strOf (txS 64 (nmS (some L)).2).1,rfl,?_⟩
  have hn7:=hx7.get hn6 (by simp;exact bn)
  refine zbp rfl hn7 (by simp [zbz]) fun w8 hw8=>?_
  have hx8:Ext [c5] w7.heap w8.heap:=by rw [hw8];exact Ext.set _ (by simp)
  rw [hr]
  refine ⟨_,_,(none,0,0),(none,0,0),by rw [hw8];exact qp hn7,nil2,hI7.ext hx8 (by simp;exact bn.symm) (fun c hc h=>by simp at h;exact fn c hc h.symm),?_,?_,.inl ⟨rfl,rfl⟩⟩
  ·exact ((hx05.own hx6 (fun c hc hlt=>by simp at hc;omega)).own hx7 (fun c hc hlt=>by simp at hc;omega)).own hx8 (fun c hc hlt=>by simp at hc;omega)
  ·exact hx8.get (hx7.get (hx6.get hd5 (by simp;omega)) (by simp;omega)) (by simp;omega)
 refine za5 (fun h2=>?_) (fun h2=>?_)
 ·have h1:min (nmS (some L)).1 9 ≠ 1:=by omega
  have h2:min (nmS (some L)).1 9=2:=by omega
  have hbig:=qss (s:=some L) h2
  have hr0:zak (some L)=(⟨2,[],((min (nmS (nmS (some L)).2).1 1025:Nat):Int),(zed ((min (nmS (nmS (some L)).2).1 1025+63) / 64) (nmS (nmS (some L)).2).2).1,[]⟩,(zed ((min (nmS (nmS (some L)).2).1 1025+63) / 64) (nmS (nmS (some L)).2).2).2):=by unfold zak;rw [if_neg h1,if_pos h2]
  refine zbp rfl hn5 (by simp [zbz]) fun w6 hw6=>?_
  have hx6:Ext [c5] w5.heap w6.heap:=by rw [hw6];exact Ext.set _ (by simp)
  have hn6:w6.heap[c5]?=some (.cells (zbz ⟨2,[],0,[],[]⟩ (none,0,0) (none,0,0)).toArray zh (0,0)):=by rw [hw6];exact qp hn5
  have hI6:=hI5.ext hx6 (by simp;exact bn.symm) (fun c hc h=>by simp at h;exact fn c hc h.symm)
  refine zn (qbs rfl hI6) ?_
  rintro e w7 ⟨rfl,hI7,hx7⟩
  refine ⟨((nmS (nmS (some L)).2).1:Int),rfl,?_⟩
  generalize nmS (nmS (some L)).2=a2 at *
  have hn7:=hx7.get hn6 (by simp;exact bn)
  have hx07:=(hx05.own hx6 (fun c hc hlt=>by simp at hc;omega)).own hx7 (fun c hc hlt=>by simp at hc;omega)
  have hd7:=hx7.get (hx6.get hd5 (by simp;omega)) (by simp;omega)
  refine zq (fun hlt=>bad (fun h=>by rw [hbig (by omega)] at h;cases h.2) hx07 hd7) (fun hge=>?_)
  refine zqc (by omega) (by omega) ?_
  have hmin:min a2.1 1025=a2.1:=by omega
  rw [hmin] at hr0
  generalize hK:a2.1=K at *
  refine zbp rfl hn7 (by simp [zbz]) fun w8 hw8=>?_
  have hx8:Ext [c5] w7.heap w8.heap:=by rw [hw8];exact Ext.set _ (by simp)
  have hn8:w8.heap[c5]?=some (.cells (zbz ⟨2,[],(K:Int),[],[]⟩ (none,0,0) (none,0,0)).toArray zh (0,0)):=by rw [hw8];exact qp hn7
  have hI8:=hI7.ext hx8 (by simp;exact bn.symm) (fun c hc h=>by simp at h;exact fn c hc h.symm)
  have hx08:=hx07.own hx8 (fun c hc hlt=>by simp at hc;omega)
  have hd8:=hx8.get hd7 (by simp;omega)
  have s48:w4.heap.size≤w8.heap.size:=Nat.le_trans hx5.1 (Nat.le_trans hx6.1 (Nat.le_trans hx7.1 hx8.1))
  refine jg (s:=.int .i64) (t:=(K:Int)) rfl hn8 rfl ?_
  refine jd (fun (t:Int) W=>∃ (i:Nat) (xp:Option Addr × Nat × Nat),t=(K:Int) - 64 * (i:Int)∧i≤(K+63) / 64∧W.heap[c5]?=some (.cells (zbz ⟨2,[],(K:Int),(zed i a2.2).1,[]⟩ xp (none,0,0)).toArray zh (0,0))∧Mine W.heap w4.heap.size zf 32 xp ((zed i a2.2).1.flatMap Bl.zfb) ∧
   zsq W.heap b F (zed i a2.2).2∧Ext [] H W.heap∧W.heap[H.size]?=some (.cells (zc P zh) zh (0,0))∧w4.heap.size≤W.heap.size) (fun t _=>(t+64).toNat) ⟨0,(none,0,0),by simp,Nat.zero_le _,hn8,.inl ⟨rfl,rfl⟩,hI8,hx08,hd8,s48⟩ ?_
  rintro _ W ⟨i,xp,rfl,hi,g1,g2,g3,g4,g5,g6⟩
  refine zq (fun hlt=>?_) (fun hge=>?_)
  ·refine jq rfl fun w8 hw8=>?_
   rw [← hw8] at g1 g2 g3 g4 g5 g6
   refine jg (s:=.slc) (t:=xp) rfl g1 rfl ?_
   refine zn (qi6 rfl g3 (fun c hc=>by have:=hF c hc;have:=g4.1;omega)) ?_
   rintro e w9 ⟨rfl,hI9,hx9⟩
   refine ⟨arr (dgS (zed i a2.2).2).1,rfl,?_⟩
   have k1:=hx9.get g1 (by simp;exact bn)
   have k2:=g2.ext hx9 (fun c hc h=>by simp at h;subst h;have:=jc g2 _ hc;omega)
   have s9:=hx9.1
   refine ⟨jg (s:=.slc) (o:=3) (t:=xp) (K:=fun z=>Value.slice z.1 z.2.1 z.2.2=Value.slice xp.1 xp.2.1 xp.2.2) rfl k1 rfl rfl,?_⟩
   refine z0u rfl k2 (by omega) zq1 (by rw [zp0];omega) (fun w10 hx10=>jg (s:=.slc) (o:=3) (t:=xp) (K:=fun z=>Value.slice z.1 z.2.1 z.2.2=Value.slice xp.1 xp.2.1 xp.2.2) rfl (hx10.get k1 (by simp)) rfl rfl) fun xp2 w11 hm11 hx11 hs11=>?_
   have own3:∀ {c:Nat},c < w4.heap.size→c ∉ jf xp:=fun h hc=>by have:=jc g2 _ hc;omega
   have k11:=hx11.get k1 (own3 s4)
   refine zbp rfl k11 (by simp [zbz]) fun w12 hw12=>?_
   have hx12:Ext [c5] w11.heap w12.heap:=by rw [hw12];exact Ext.set _ (by simp)
   have s11:=hx11.1
   have s12:=hx12.1
   refine zbo ((K:Int) - 64 * ((i+1:Nat):Int)) (by omega) (by omega) (by omega) ?_
   refine ⟨⟨i+1,xp2,rfl,by omega,by rw [hw12];exact qp k11,hm11.ext hx12 (fun c hc h=>by simp at h;subst h;have:=jc hm11 _ hc;omega),?_,?_,?_,by omega⟩,by omega⟩
   ·refine (hI9.ext hx11 (own3 (by omega)) fun c hc=>own3 (by have:=hF c hc;omega)).ext hx12 (by simp;exact bn.symm) (fun c hc h=>by simp at h;exact fn c hc h.symm)
   ·exact ((g4.own hx9 (fun c hc hlt=>by simp at hc;omega)).own hx11 (fun c hc hlt=>by have:=jc g2 _ hc;omega)).own hx12 (fun c hc hlt=>by simp at hc;omega)
   ·exact hx12.get (hx11.get (hx9.get g5 (by simp;omega)) (own3 (by omega))) (by simp;omega)
  ·obtain rfl:i=(K+63) / 64:=by omega
   rw [hr0]
   exact ⟨_,_,xp,(none,0,0),g1,⟨g2,.inl ⟨rfl,rfl⟩⟩,g3,g4,g5,.inl ⟨rfl,rfl⟩⟩
 refine za5 (fun h3=>?_) (fun h3=>?_)
 ·have h1:min (nmS (some L)).1 9 ≠ 1:=by omega
  have h2:min (nmS (some L)).1 9 ≠ 2:=by omega
  have h3:min (nmS (some L)).1 9=3:=by omega
  have hbig:=qtd (s:=some L) h3
  have hkd:=@qrc (some L) h3
  have hr0:zak (some L)=(⟨3,[],0,[],(zbn (min (nmS (nmS (some L)).2).1 65) (nmS (nmS (some L)).2).2).1⟩,(zbn (min (nmS (nmS (some L)).2).1 65) (nmS (nmS (some L)).2).2).2):=by unfold zak;rw [if_neg h1,if_neg h2,if_pos h3]
  refine zbp rfl hn5 (by simp [zbz]) fun w6 hw6=>?_
  have hx6:Ext [c5] w5.heap w6.heap:=by rw [hw6];exact Ext.set _ (by simp)
  have hn6:w6.heap[c5]?=some (.cells (zbz ⟨3,[],0,[],[]⟩ (none,0,0) (none,0,0)).toArray zh (0,0)):=by rw [hw6];exact qp hn5
  have hI6:=hI5.ext hx6 (by simp;exact bn.symm) (fun c hc h=>by simp at h;exact fn c hc h.symm)
  refine zn (qbs rfl hI6) ?_
  rintro e w7 ⟨rfl,hI7,hx7⟩
  refine ⟨((nmS (nmS (some L)).2).1:Int),rfl,?_⟩
  generalize nmS (nmS (some L)).2=a2 at *
  have hn7:=hx7.get hn6 (by simp;exact bn)
  have hx07:=(hx05.own hx6 (fun c hc hlt=>by simp at hc;omega)).own hx7 (fun c hc hlt=>by simp at hc;omega)
  have hd7:=hx7.get (hx6.get hd5 (by simp;omega)) (by simp;omega)
  refine zq (fun hlt=>bad (fun h=>by rw [hbig (by omega)] at h;cases h.2) hx07 hd7) (fun hge=>?_)
  have hmin:min a2.1 65=a2.1:=by omega
  rw [hmin] at hr0
  have hkd:∀ {i:Nat},i < a2.1→3 < (zyg (zbn i a2.2).2).1.kind→zan (zak (some L)).1=false:=fun hi hk=>hkd (by omega) hk
  generalize hM:a2.1=M at *
  have s47:w4.heap.size≤w7.heap.size:=Nat.le_trans hx5.1 (Nat.le_trans hx6.1 hx7.1)
  refine jd (fun (t:Int) W=>∃ (i:Nat) (xi:Option Addr × Nat × Nat),t=(i:Int)∧i≤M∧W.heap[c5]?=some (.cells (zbz ⟨3,[],0,[],(zbn i a2.2).1⟩ (none,0,0) xi).toArray zh (0,0))∧Mine W.heap w4.heap.size ql 34 xi ((zbn i a2.2).1.flatMap zeg) ∧
   zsq W.heap b F (zbn i a2.2).2∧Ext [] H W.heap∧W.heap[H.size]?=some (.cells (zc P zh) zh (0,0))∧w4.heap.size≤W.heap.size) (fun t _=>(M - t).toNat) ⟨0,(none,0,0),rfl,Nat.zero_le _,hn7,.inl ⟨rfl,rfl⟩,hI7,hx07,hd7,s47⟩ ?_
  rintro _ W ⟨i,xi,rfl,hi,g1,g2,g3,g4,g5,g6⟩
  refine zqc (by omega) (by omega) ?_
  refine zq (fun hlt=>?_) (fun hge=>?_)
  ·have re:∀ {W':World},W'.heap[c5]?=some (.cells (zbz ⟨3,[],0,[],(zbn i a2.2).1⟩ (none,0,0) xi).toArray zh (0,0))→ld .slc (⟨c5,4,none⟩:Addr) W' fun z=>Value.slice z.1 z.2.1 z.2.2=Value.slice xi.1 xi.2.1 xi.2.2:=fun h=>jg (s:=.slc) (o:=4) (t:=xi) (K:=fun z=>Value.slice z.1 z.2.1 z.2.2=Value.slice xi.1 xi.2.1 xi.2.2) rfl h rfl rfl
   have hkd:=hkd (i:=i) (by omega)
   refine zn (qjv (most:=16) rfl g3 (by omega)) ?_
   rintro e w9 ⟨rfl,hI9,hx9⟩
   refine ⟨strOf (txS 16 (zbn i a2.2).2).1,rfl,?_⟩
   have k9:=hx9.get g1 (by simp;exact bn)
   refine zn (qbs rfl hI9) ?_
   rintro e w10 ⟨rfl,hI10,hx10⟩
   refine ⟨((nmS (txS 16 (zbn i a2.2).2).2).1:Int),rfl,?_⟩
   have k10:=hx10.get k9 (by simp;exact bn)
   have s9:=hx9.1
   have s10:=hx10.1
   have s04:=g4.1
   have hx010:=(g4.own hx9 (fun c hc hlt=>by simp at hc;omega)).own hx10 (fun c hc hlt=>by simp at hc;omega)
   have hd10:=hx10.get (hx9.get g5 (by simp;omega)) (by simp;omega)
   have hkeq:(zyg (zbn i a2.2).2).1.kind=((min (nmS (txS 16 (zbn i a2.2).2).2).1 9:Nat):Int):=rfl
   refine zq (fun hk=>bad (fun h=>by rw [hkd (by rw [hkeq];omega)] at h;cases h.2) hx010 hd10) (fun hk=>?_)
   refine jq rfl fun w26 hw26=>?_
   rw [← hw26] at hI10 k10 hx010 hd10 hx10 s10
   refine zqc (by omega) (by omega) ?_
   refine jg (s:=.slc) (t:=xi) rfl k10 rfl ?_
   refine zn (qi6 rfl hI10 (fun c hc=>by have:=hF c hc;omega)) ?_
   rintro e w11 ⟨rfl,hI11,hx11⟩
   refine ⟨arr (dgS (nmS (txS 16 (zbn i a2.2).2).2).2).1,rfl,?_⟩
   have k11:=hx11.get k10 (by simp;exact bn)
   refine ⟨re k11,?_⟩
   have hmk:min (nmS (txS 16 (zbn i a2.2).2).2).1 9=(nmS (txS 16 (zbn i a2.2).2).2).1:=by omega
   refine qx (s:=.any) (.agg (zeg (zyg (zbn i a2.2).2).1).toArray) (by rw [bT3 _ _ zq1];unfold zeg zyg;rw [Bl.zev zq1,hmk];rfl) ?_
   have hx811:=(hx9.trans hx10).trans hx11
   have g2':=g2.ext hx811 (fun c hc h=>by simp at h;subst h;have:=jc g2 _ hc;omega)
   have s11:=hx11.1
   refine z9j (i:=(zyg (zbn i a2.2).2).1) rfl g2' (by omega) (by rw [zn8];omega) (fun w12 hx12=>re (hx12.get k11 (by simp))) fun xi2 w13 hm13 hx13 hs13=>?_
   have own3:∀ {c:Nat},c < w4.heap.size→c ∉ jf xi:=fun h hc=>by have:=jc g2 _ hc;omega
   have k13:=hx13.get k11 (own3 s4)
   refine zbp rfl k13 (by simp [zbz]) fun w14 hw14=>?_
   have hx14:Ext [c5] w13.heap w14.heap:=by rw [hw14];exact Ext.set _ (by simp)
   have s13:=hx13.1
   have s14:=hx14.1
   refine xk ((i+1:Nat):Int) (by simp) (by omega) (by omega) ?_
   have hI:zsq w11.heap b F (zbn (i+1) a2.2).2:=hI11
   refine ⟨⟨i+1,xi2,rfl,by omega,by rw [hw14];exact qp k13,hm13.ext hx14 (fun c hc h=>by simp at h;subst h;have:=jc hm13 _ hc;omega),?_,?_,?_,by omega⟩,by omega⟩
   ·refine (hI.ext hx13 (own3 (by omega)) fun c hc=>own3 (by have:=hF c hc;omega)).ext hx14 (by simp;exact bn.symm) (fun c hc h=>by simp at h;exact fn c hc h.symm)
   ·exact ((hx010.own hx11 (fun c hc hlt=>by simp at hc;omega)).own hx13 (fun c hc hlt=>by have:=jc g2 _ hc;omega)).own hx14 (fun c hc hlt=>by simp at hc;omega)
   ·exact hx14.get (hx13.get (hx11.get hd10 (by simp;omega)) (own3 (by omega))) (by simp;omega)
  ·obtain rfl:i=M:=by omega
   rw [hr0]
   exact ⟨_,_,(none,0,0),xi,g1,⟨.inl ⟨rfl,rfl⟩,g2⟩,g3,g4,g5,.inl ⟨rfl,rfl⟩⟩
 ·exact ⟨zdo,(nmS (some L)).2,(none,0,0),(none,0,0),hn5,nil2,hI5,hx05,hd5,.inr ⟨rfl,other (by omega) (by omega) (by omega)⟩⟩
set_option maxHeartbeats 4000000 in
theorem qd6 {w:World} {H:Heap} {fp:List Nat} {p:Nat} {q:Int} {r:Bl.SM} {k:List UInt8} {kind:Int} (hw:w.heap=H) (hS:Bl.zdx H fp p q r) (hk:k.length=32) (hn:r.length < 1099511627776) (hlen:∀ L,Bl.zaq r k=some L→L.length < 1099511627776) :
  qg P zrj #[.pointer (some ⟨p,0,none⟩),arr k,.int .i64 kind] w fun e w'=>∃ xp xi,e=.returned (.tuple #[.agg (zbz (zkr (Bl.zaq r k) k kind).1 xp xi).toArray,.int .i64 (zkr (Bl.zaq r k) k kind).2])∧NodM w'.heap H.size (zkr (Bl.zaq r k) k kind).1 xp xi∧Ext [] H w'.heap:=by
 refine qg6 ?_
 unfold z14
 rw [show (arr k).cells=(byteCells k).toArray from rfl]
 refine jw hw fun w1 hw1=>?_
 have hx1:Ext [] H w1.heap:=by rw [hw1];exact .push _
 have hb1:w1.heap[H.size]?=some (.cells (byteCells k).toArray zf (0,0)):=by rw [hw1];exact zo
 have s1:=lt_of_get hb1
 refine jw rfl fun w2 hw2=>?_
 have hx2:Ext [] w1.heap w2.heap:=by rw [hw2];exact .push _
 have hd2:w2.heap[w1.heap.size]?=some (.cells (zc P zh) zh (0,0)):=by rw [hw2];exact zo
 have s2:=lt_of_get hd2
 have hx02:=hx1.trans hx2
 refine je rfl (hx2.get hb1 (by simp)) (by simp [hk]) ?_
 refine zn (Bl.qps (k:=k) rfl (hS.ext hx02 (by simp)) hk hn hlen) ?_
 rintro e w3 ⟨x,rfl,hx3,hgot,hno⟩
 refine ⟨(x,Bl.got (Bl.zaq r k) k),rfl,?_⟩
 have hd3:=hx3.get hd2 (by simp)
 have hx03:=hx02.trans hx3
 refine zam (fun h=>?_) (fun h=>?_)
 ·have hv:zkr (Bl.zaq r k) k kind=(zdo,Bl.got (Bl.zaq r k) k):=by unfold zkr;rw [if_pos h]
  refine zkc rfl hd3 fun w4 hx4=>?_
  rw [hv]
  exact ⟨_,_,rfl,.bare rfl rfl,hx03.own hx4 (fun c hc hlt=>by simp at hc;omega)⟩
 have h:Bl.got (Bl.zaq r k) k=0:=h
 obtain ⟨L,hL,hm⟩:=hgot h
 have hv:zkr (Bl.zaq r k) k kind=if (zj8 L).2 ≠ 0 ∨ (zj8 L).1.kind ≠ kind then (zdo,21) else ((zj8 L).1,0):=by
  unfold zkr;rw [if_neg (by simpa using h),hL];rfl
 have hxl:x.2.1=L.length:=by have:=hm.len;simp at this;omega
 refine zn (qjn (L:=L) rfl hm.cells hxl (zfl hm) (by have:=hlen L hL;omega)) ?_
 rintro e w5 ⟨xp,xi,rfl,hN5,hx5⟩
 refine ⟨(.agg (zbz (zj8 L).1 xp xi).toArray,decide ((zj8 L).2=0)),rfl,?_⟩
 generalize zj8 L=D at *
 have hd5:=hx5.get hd3 (by simp)
 have s3:=hx3.1
 have s5:=hx5.1
 refine qd3 D.1 xp xi rfl fun w7 hw7=>?_
 have hx7:Ext [] w5.heap w7.heap:=by rw [hw7];exact .push _
 have hn7:w7.heap[w5.heap.size]?=some (.cells (zbz D.1 xp xi).toArray zh (0,0)):=by rw [hw7];exact zo
 have hd7:=hx7.get hd5 (by simp)
 have hx07:=(hx03.trans hx5).trans hx7
 have bad:∀ {W':World},(D.2 ≠ 0 ∨ D.1.kind ≠ kind)→Ext [w1.heap.size] w7.heap W'.heap→∃ xp xi,Ending.returned (.tuple #[.agg (zbz zdo (none,0,0) (none,0,0)).toArray,.int .i64 21])=.returned (.tuple #[.agg (zbz (zkr (Bl.zaq r k) k kind).1 xp xi).toArray,.int .i64 (zkr (Bl.zaq r k) k kind).2])∧NodM W'.heap H.size (zkr (Bl.zaq r k) k kind).1 xp xi∧Ext [] H W'.heap:=by
  intro W' h hxb
  rw [hv,if_pos h]
  exact ⟨_,_,rfl,.bare rfl rfl,hx07.own hxb (fun c hc hlt=>by simp at hc;omega)⟩
 refine Go.Fw.joinP_of (fun _ W=>W.heap=w7.heap∧¬ (D.2 ≠ 0 ∨ D.1.kind ≠ kind)) ?_ ?_
 ·refine zdq (p:=¬ D.2=0) (by simp) (fun h1=>?_) (fun h1=>?_)
  ·exact zkc rfl hd7 fun w8 hx8=>bad (.inl h1) hx8
  ·refine jg (s:=.int .i64) (t:=D.1.kind) rfl hn7 rfl ?_
   refine zam (fun h2=>?_) (fun h2=>?_)
   ·exact zkc rfl hd7 fun w8 hx8=>bad (.inr h2) hx8
   ·exact ⟨rfl,fun h=>h.elim (fun h=>h1 h) (fun h=>h h2)⟩
 ·rintro _ W ⟨hW,hok⟩
  rw [← hW] at hn7 hd7
  have hxW:Ext [] H W.heap:=by rw [hW];exact hx07
  refine je rfl hn7 rfl ?_
  refine stN D.1 xp xi rfl hd7 zcN fun w11 hw11=>?_
  have hx11:Ext [w1.heap.size] W.heap w11.heap:=by rw [hw11];exact Ext.set _ (by simp)
  have hd11:w11.heap[w1.heap.size]?=some (.cells (zbz D.1 xp xi).toArray zh (0,0)):=by rw [hw11];exact qp hd7
  refine je rfl hd11 rfl ?_
  rw [hv,if_neg hok]
  refine ⟨xp,xi,rfl,?_,hxW.own hx11 (fun c hc hlt=>by simp at hc;omega)⟩
  have k1:=hN5.ext hx7 (by simp)
  rw [← hW] at k1
  exact (k1.ext hx11 (fun c hc=>by simp at hc;omega)).mono (by omega)
set_option maxHeartbeats 4000000 in
theorem qd0 {w:World} {H:Heap} {fp:List Nat} {p:Nat} {q:Int} {r:Bl.SM} {n:Nod} {xp xi:Option Addr × Nat × Nat} (hw:w.heap=H) (hS:Bl.zdx H fp p q r) (hrn:r.length < 1099511627776) (hlen:∀ k L,Bl.zaq r k=some L→L.length < 1099511627776)
  (hN:NodW H n xp xi) (hpl:n.parts.length≤65536) (hs1:-1099511627776≤n.size) (hs2:n.size≤1099511627776) :
  qg P zoq #[.pointer (some ⟨p,0,none⟩),.agg (zbz n xp xi).toArray] w fun e w'=>e=.returned (.tuple #[.string (strOf (zdr r n).1),.int .i64 (zdr r n).2])∧Ext [] H w'.heap:=by
 refine z3c ?_
 unfold zps
 refine jw hw fun w1 hw1=>?_
 have hx1:Ext [] H w1.heap:=by rw [hw1];exact .push _
 have hb1:w1.heap[H.size]?=some (.cells (zbz n xp xi).toArray zh (0,0)):=by rw [hw1];exact zo
 refine jd (fun (s:ByteArray × Int) W=>∃ (i:Nat) (acc:List UInt8),s=(strOf acc,(i:Int))∧i≤n.parts.length∧zyp (fun k=>zkr (Bl.zaq r k) k 1) n.size i (n.parts.drop i) acc=zdr r n∧Ext [] H W.heap∧acc.length≤64 * i∧W.heap[H.size]?=some (.cells (zbz n xp xi).toArray zh (0,0))) (fun s _=>(n.parts.length - s.2).toNat)
  ⟨0,[],rfl,Nat.zero_le _,rfl,hx1,by simp,hb1⟩ ?_
 rintro _ W ⟨i,acc,rfl,hi,hc,hx,hal,hbW⟩
 have hxl:xp.2.1=n.parts.length:=hN.plen
 refine jg (s:=.slc) (t:=xp) rfl hbW rfl ?_
 refine zq (fun hlt=>?_) (fun hge=>?_)
 ·have hil:i < n.parts.length:=by simp only at hlt;omega
  have hget:=List.getElem?_eq_getElem hil
  have hk32:=hN.p32 _ (List.getElem_mem hil)
  rw [List.drop_eq_getElem_cons hil] at hc
  generalize n.parts[i]=k at hget hk32 hc
  refine jg (s:=.slc) (t:=xp) rfl hbW rfl ?_
  refine zgx (i:=i) Bl.zdp (by omega) rfl (hN.parts.ext hx (by simp)) hxl hget rfl ?_
  rw [Bl.zev hk32]
  refine zn (qd6 (k:=k) rfl (hS.ext hx (by simp)) hk32 hrn (hlen k)) ?_
  rintro e w6 ⟨yp,yi,rfl,hN6,hx6⟩
  refine ⟨(.agg (zbz (zkr (Bl.zaq r k) k 1).1 yp yi).toArray,(zkr (Bl.zaq r k) k 1).2),rfl,?_⟩
  have hgd:=qce (v:=Bl.zaq r k) (k:=k)
  unfold zyp at hc
  generalize zkr (Bl.zaq r k) k 1=D at *
  refine qd3 D.1 yp yi rfl fun w8 hw8=>?_
  have hx8:Ext [] w6.heap w8.heap:=by rw [hw8];exact .push _
  have hn8:w8.heap[w6.heap.size]?=some (.cells (zbz D.1 yp yi).toArray zh (0,0)):=by rw [hw8];exact zo
  have hxW8:=hx6.trans hx8
  refine zam (fun h=>?_) (fun h=>?_)
  ·rw [if_pos h] at hc
   rw [← hc]
   exact ⟨rfl,hx.trans hxW8⟩
  have h:D.2=0:=h
  rw [if_neg (by simpa using h)] at hc
  refine jg (s:=.int .i64) (t:=n.size) rfl (hxW8.get hbW (by simp)) rfl ?_
  refine zff ((64 * i:Nat):Int) (by simp only;omega) (by omega) (by omega) ?_
  refine zbo (n.size - 64 * (i:Int)) (by omega) (by omega) (by omega) ?_
  refine Go.Fw.joinP_of (fun (s:Int) W'=>s=min 64 (n.size - 64 * (i:Int))∧W'=w8) ?_ ?_
  ·exact zq (fun h=>⟨by omega,rfl⟩) (fun h=>⟨by omega,rfl⟩)
  rintro _ W' ⟨rfl,rfl⟩
  refine jg (s:=.str) (t:=strOf D.1.data) rfl hn8 rfl ?_
  refine zam (fun h2=>?_) (fun h2=>?_)
  ·simp only [jl] at h2
   rw [if_pos h2] at hc
   rw [← hc]
   exact ⟨rfl,hx.trans hxW8⟩
  simp only [jl] at h2
  rw [if_neg (by simpa using h2)] at hc
  refine jg (s:=.str) (t:=strOf D.1.data) rfl hn8 rfl ?_
  refine zx1 (by omega) ?_
  refine xk ((i+1:Nat):Int) (by simp) (by omega) (by omega) ?_
  exact ⟨⟨i+1,acc++D.1.data,rfl,by omega,hc,hx.trans hxW8,by simp;omega,hxW8.get hbW (by simp)⟩,by simp only;omega⟩
 ·obtain rfl:i=n.parts.length:=by simp only at hge;omega
  rw [List.drop_length] at hc
  unfold zyp at hc
  rw [← hc]
  exact ⟨rfl,hx⟩
section
variable {g:List UInt8→Int→Nod × Int} {ct:Nod→List UInt8 × Int}
theorem qdv {rec:List Itm→Path→List Fil→List Fil × Int} {names:Path} {it:Itm} {its:List Itm} {out:List Fil} :
  zef g ct rec names (it :: its) out=if (zef g ct rec names [it] out).2 ≠ 0 then ([],(zef g ct rec names [it] out).2) else zef g ct rec names its (zef g ct rec names [it] out).1:=by
 simp only [zef]
 repeat' split
 all_goals simp_all
def qn0 (g:List UInt8→Int→Nod × Int) (ct:Nod→List UInt8 × Int) (x:Path × Itm) (out:List Fil):List Fil × Int:=zef g ct (zl7 g ct (8 - x.1.length)) x.1 [x.2] out
def zwy (g:List UInt8→Int→Nod × Int) (ct:Nod→List UInt8 × Int):List (Path × Itm)→List Fil→List Fil × Int
 | [],out=>(out,0)
 | x :: rest,out=>if (qn0 g ct x out).2 ≠ 0 then ([],(qn0 g ct x out).2) else zwy g ct rest (qn0 g ct x out).1
theorem zw2 {names:Path}:∀ (items:List Itm) (out:List Fil),zef g ct (zl7 g ct (8 - names.length)) names items out=zwy g ct (items.map fun i=>(names,i)) out
 | [],out=>rfl
 | it :: items,out=>by
  rw [qdv,List.map_cons,zwy,← zw2 items]
  rfl
theorem z0e:∀ (A B:List (Path × Itm)) (out:List Fil),zwy g ct (A++B) out=if (zwy g ct A out).2 ≠ 0 then ([],(zwy g ct A out).2) else zwy g ct B (zwy g ct A out).1
 | [],B,out=>by simp [zwy]
 | x :: A,B,out=>by
  rw [List.cons_append,zwy,zwy,z0e A B]
  split
  ·rename_i h;simp [h]
  ·rfl
theorem qay {x:Path × Itm} {rest:List (Path × Itm)} {out:List Fil} :
  zwy g ct (x :: rest) out=if out.length=512 then ([],8) else if 8 < x.1.length+1 then ([],42)
   else if (g x.2.sum x.2.kind).2 ≠ 0 then ([],(g x.2.sum x.2.kind).2)
   else if x.2.kind=3 then zwy g ct (((g x.2.sum x.2.kind).1.items.map fun i=>(x.1++[x.2.name],i))++rest) (out++[⟨vk (x.1++[x.2.name]),true,[]⟩])
   else if (ct (g x.2.sum x.2.kind).1).2 ≠ 0 then ([],(ct (g x.2.sum x.2.kind).1).2)
   else zwy g ct rest (out++[⟨vk (x.1++[x.2.name]),false,(ct (g x.2.sum x.2.kind).1).1⟩]):=by
 rw [zwy,qn0,zef]
 by_cases h1:out.length=512
 ·simp [h1]
 rw [if_neg h1,if_neg h1]
 by_cases h2:8 < x.1.length+1
 ·simp [h2]
 rw [if_neg h2,if_neg h2]
 by_cases h3:(g x.2.sum x.2.kind).2 ≠ 0
 ·simp [h3]
 rw [if_neg h3,if_neg h3]
 by_cases h4:x.2.kind=3
 ·rw [if_pos h4,if_pos h4]
  have hf:8 - x.1.length=(8 - (x.1++[x.2.name]).length)+1:=by simp;omega
  rw [hf,zl7,zw2,z0e]
  generalize zwy g ct ((g x.2.sum x.2.kind).1.items.map fun i=>(x.1++[x.2.name],i)) (out++[⟨vk (x.1++[x.2.name]),true,[]⟩])=Z
  by_cases h5:Z.2 ≠ 0
  ·simp [h5]
  ·rw [if_neg h5,if_neg h5];simp [zef]
 ·rw [if_neg h4,if_neg h4]
  by_cases h5:(ct (g x.2.sum x.2.kind).1).2 ≠ 0
  ·simp [h5]
  ·rw [if_neg h5,if_neg h5];simp [zef]
end
theorem qbb {r:Bl.SM} {root:List UInt8}:zd1 r root=if (gV r root 3).2 ≠ 0 then ([],(gV r root 3).2) else zwy (gV r) (zdr r) ((gV r root 3).1.items.map fun i=>([],i)) []:=by
 unfold zd1
 rw [zl7,← zw2]
 rfl
theorem zsf {g:List UInt8→Int→Nod × Int} {ct:Nod→List UInt8 × Int} {rec:List Itm→Path→List Fil→List Fil × Int} {names:Path} (hr:∀ items names out,(rec items names out).2=0→out <+: (rec items names out).1):∀ (items:List Itm) (out:List Fil),(zef g ct rec names items out).2=0→out <+: (zef g ct rec names items out).1
 | [],out,_=>List.prefix_refl _
 | it :: its,out,h=>by
  rw [zef] at h ⊢
  by_cases h1:out.length=512
  ·rw [if_pos h1] at h;simp at h
  rw [if_neg h1] at h ⊢
  by_cases h2:8 < names.length+1
  ·rw [if_pos h2] at h;simp at h
  rw [if_neg h2] at h ⊢
  by_cases h3:(g it.sum it.kind).2 ≠ 0
  ·rw [if_pos h3] at h;exact absurd h h3
  rw [if_neg h3] at h ⊢
  by_cases h4:it.kind=3
  ·rw [if_pos h4] at h ⊢
   have h6:=hr (g it.sum it.kind).1.items (names++[it.name]) (out++[⟨vk (names++[it.name]),true,[]⟩])
   generalize rec (g it.sum it.kind).1.items (names++[it.name]) (out++[⟨vk (names++[it.name]),true,[]⟩])=Z at *
   by_cases h5:Z.2 ≠ 0
   ·rw [if_pos h5] at h;exact absurd h h5
   ·rw [if_neg h5] at h ⊢
    exact ((List.prefix_append _ _).trans (h6 (by simpa using h5))).trans (zsf hr its _ h)
  ·rw [if_neg h4] at h ⊢
   by_cases h5:(ct (g it.sum it.kind).1).2 ≠ 0
   ·rw [if_pos h5] at h;exact absurd h h5
   ·rw [if_neg h5] at h ⊢
    exact (List.prefix_append _ _).trans (zsf hr its _ h)
theorem qa4 {g:List UInt8→Int→Nod × Int} {ct:Nod→List UInt8 × Int}:∀ (f:Nat) (items:List Itm) (names:Path) (out:List Fil),(zl7 g ct f items names out).2=0→out <+: (zl7 g ct f items names out).1
 | 0,_,_,_,h=>by simp [zl7] at h
 | f+1,items,names,out,h=>zsf (qa4 f) items out h
theorem qfj {g:List UInt8→Int→Nod × Int} {ct:Nod→List UInt8 × Int}:∀ (rest:List (Path × Itm)) (out:List Fil),(zwy g ct rest out).2=0→out <+: (zwy g ct rest out).1
 | [],out,_=>List.prefix_refl _
 | x :: rest,out,h=>by
  rw [zwy] at h ⊢
  have h1:=zsf (g:=g) (ct:=ct) (names:=x.1) (qa4 (g:=g) (ct:=ct) (8 - x.1.length)) [x.2] out
  have h1:(qn0 g ct x out).2=0→out <+: (qn0 g ct x out).1:=h1
  by_cases h2:(qn0 g ct x out).2 ≠ 0
  ·rw [if_pos h2] at h;exact absurd h h2
  ·rw [if_neg h2] at h ⊢
   exact (h1 (by simpa using h2)).trans (qfj rest _ h)
theorem qi9 {g:List UInt8→Int→Nod × Int} {ct:Nod→List UInt8 × Int}:∀ (items:List Itm) (out:List Fil),(zwy g ct (items.map fun i=>(([]:Path),i)) out).2=0→(∀ f ∈ (zwy g ct (items.map fun i=>(([]:Path),i)) out).1,f.dir=false)→(zwy g ct (items.map fun i=>(([]:Path),i)) out).1.length=out.length+items.length:=by
 intro items
 induction items with
 | nil=>intro out _ _;rfl
 | cons it items ih =>
  intro out h hd
  rw [List.map_cons,qay] at h hd ⊢
  simp only at h hd ⊢
  by_cases h1:out.length=512
  ·rw [if_pos h1] at h;simp at h
  rw [if_neg h1] at h hd ⊢
  rw [if_neg (by simp)] at h hd ⊢
  by_cases h3:(g it.sum it.kind).2 ≠ 0
  ·rw [if_pos h3] at h;exact absurd h h3
  rw [if_neg h3] at h hd ⊢
  by_cases h4:it.kind=3
  ·rw [if_pos h4] at h hd ⊢
   have h5:=(qfj _ _ h).subset (a:=⟨vk (([]:Path)++[it.name]),true,[]⟩) (by simp)
   have:=hd _ h5
   cases this
  ·rw [if_neg h4] at h hd ⊢
   by_cases h5:(ct (g it.sum it.kind).1).2 ≠ 0
   ·rw [if_pos h5] at h;exact absurd h h5
   ·rw [if_neg h5] at h hd ⊢
    rw [ih _ h hd];simp;omega
def zqk (L:List Fil):Prop:=(∀ f ∈ L,f.data.length≤1025)∧L.length≤512
theorem zqk.snoc {L:List Fil} {f:Fil} (h:zqk L) (hl:L.length ≠ 512) (hf:f.data.length≤1025):zqk (L++[f]) :=
 ⟨fun x hx=>by
  rcases List.mem_append.1 hx with hx | hx
  ·exact h.1 x hx
  ·simp at hx;subst hx;exact hf,by have:=h.2;simp;omega⟩
theorem zru {g:List UInt8→Int→Nod × Int} {ct:Nod→List UInt8 × Int} {rec:List Itm→Path→List Fil→List Fil × Int} {names:Path} (hct:∀ k kind,(ct (g k kind).1).1.length≤1025) (hr:∀ items names out,zqk out→zqk (rec items names out).1):∀ (items:List Itm) (out:List Fil),zqk out→zqk (zef g ct rec names items out).1
 | [],out,h=>h
 | it :: its,out,h=>by
  have h0:zqk []:=⟨by simp,by simp⟩
  rw [zef]
  by_cases h1:out.length=512
  ·rw [if_pos h1];exact h0
  rw [if_neg h1]
  by_cases h2:8 < names.length+1
  ·rw [if_pos h2];exact h0
  rw [if_neg h2]
  by_cases h3:(g it.sum it.kind).2 ≠ 0
  ·rw [if_pos h3];exact h0
  rw [if_neg h3]
  by_cases h4:it.kind=3
  ·rw [if_pos h4]
   have h6:=hr (g it.sum it.kind).1.items (names++[it.name]) (out++[⟨vk (names++[it.name]),true,[]⟩]) (h.snoc h1 (by simp))
   generalize rec (g it.sum it.kind).1.items (names++[it.name]) (out++[⟨vk (names++[it.name]),true,[]⟩])=Z at *
   by_cases h5:Z.2 ≠ 0
   ·rw [if_pos h5];exact h0
   ·rw [if_neg h5];exact zru hct hr its _ h6
  ·rw [if_neg h4]
   by_cases h5:(ct (g it.sum it.kind).1).2 ≠ 0
   ·rw [if_pos h5];exact h0
   ·rw [if_neg h5];exact zru hct hr its _ (h.snoc h1 (hct _ _))
theorem zzw {g:List UInt8→Int→Nod × Int} {ct:Nod→List UInt8 × Int} (hct:∀ k kind,(ct (g k kind).1).1.length≤1025):∀ (f:Nat) (items:List Itm) (names:Path) (out:List Fil),zqk out→zqk (zl7 g ct f items names out).1
 | 0,_,_,_,_=>⟨by simp [zl7],by simp [zl7]⟩
 | f+1,items,names,out,h=>zru hct (zzw hct f) items out h
theorem z95 {g:List UInt8→Nod × Int} {size:Int}:∀ (ps:List (List UInt8)) (i:Nat) (acc:List UInt8),((zyp g size i ps acc).1.length:Int)≤acc.length+max 0 (size - 64 * i)
 | [],i,acc=>by simp only [zyp];omega
 | p :: ps,i,acc=>by
  unfold zyp
  split
  ·simp only [List.length_nil];omega
  ·split
   ·simp only [List.length_nil];omega
   ·rename_i h
    have h:((g p).1.data.length:Int)=min 64 (size - 64 * i):=by simpa using h
    have ih:=z95 (g:=g) (size:=size) ps (i+1) (acc++(g p).1.data)
    simp only [List.length_append] at ih
    omega
theorem qkn {r:Bl.SM} {k:List UInt8} {kind:Int}:(zdr r (gV r k kind).1).1.length≤1025:=by
 have h1:=z95 (g:=fun k=>zkr (Bl.zaq r k) k 1) (size:=(gV r k kind).1.size) (gV r k kind).1.parts 0 []
 have h2:(gV r k kind).1.size≤1025:=zn4.2.2.1
 have h3:((zdr r (gV r k kind).1).1.length:Int)≤_:=h1
 simp only [List.length_nil] at h3
 omega
theorem zzl {r:Bl.SM} {root:List UInt8}:zqk (zd1 r root).1:=by
 unfold zd1
 split
 ·exact ⟨by simp,by simp⟩
 ·exact zzw (fun k kind=>qkn) _ _ _ _ ⟨by simp,by simp⟩
theorem zug:∀ {L:List Fil} {n:Nat},(∀ f ∈ L,f.data.length≤n)→(L.flatMap (·.data)).length≤n * L.length
 | [],n,_=>by simp
 | f :: L,n,h=>by
  have h1:=h f (by simp)
  have h2:=zug (L:=L) (n:=n) fun x hx=>h x (by simp [hx])
  simp only [List.flatMap_cons,List.length_append,List.length_cons,Nat.mul_add,Nat.mul_one]
  omega
theorem qns {v:Option (List UInt8)} {k:List UInt8} (h:(zkr v k 3).2=0):(zkr v k 3).1.items.length≤64:=by
 unfold zkr at h ⊢
 split
 ·rename_i h1;rw [if_pos h1] at h;exact absurd h h1
 ·rename_i h1
  rw [if_neg h1] at h
  split
  ·simp [zdo]
  ·rename_i h2
   have h3:(zj8 (v.getD [])).2=0:=Decidable.byContradiction fun h'=>h2 (.inl h')
   have h4:(zj8 (v.getD [])).1.kind=3:=Decidable.byContradiction fun h'=>h2 (.inr h')
   generalize v.getD []=L at *
   unfold zj8 at h3 h4 ⊢
   split at h3
   ·rename_i h5
    rw [if_pos h5] at h4 ⊢
    have h6:=h5.2
    simp only at h4
    unfold zan at h6
    rw [if_neg (by rw [h4];decide),if_neg (by rw [h4];decide),if_pos h4] at h6
    simp only [zio,Bool.and_eq_true,decide_eq_true_eq] at h6
    exact h6.2.2
   ·simp at h3
theorem qj1 {r:Bl.SM} {root:List UInt8} (h:(zd1 r root).2=0) (hd:∀ f ∈ (zd1 r root).1,f.dir=false):(zd1 r root).1.length≤64:=by
 rw [qbb] at h hd ⊢
 by_cases h0:(gV r root 3).2 ≠ 0
 ·rw [if_pos h0] at h;exact absurd h h0
 ·rw [if_neg h0] at h hd ⊢
  have:=qi9 _ _ h hd
  have h00:(gV r root 3).2=0:=by simpa using h0
  have h6:(gV r root 3).1.items.length≤64:=qns h00
  simp at this
  omega
theorem qi0 {r s:Bl.SM} (h:∀ k,Bl.zaq r k=Bl.zaq s k) (root:List UInt8):zd1 r root=zd1 s root:=by
 have h1:gV r=gV s:=by funext k kind;unfold gV;rw [h]
 have h2:zdr r=zdr s:=by
  funext n;unfold zdr
  have:(fun k=>zkr (Bl.zaq r k) k 1)=fun k=>zkr (Bl.zaq s k) k 1:=by funext k;rw [h]
  rw [this]
 unfold zd1
 rw [h1,h2]
abbrev TQ:=(Option Addr × Nat × Nat) × (Path × Itm)
def zx7 (y:TQ):List Value:=zck y.1 :: zeg y.2.2
theorem zkk (y:TQ):(zx7 y).length=35:=by simp [zx7,zat]
theorem z6h {y:TQ}:zc2 (zx7 y):=by
 intro v hv
 simp only [zx7,List.mem_cons] at hv
 rcases hv with rfl | hv
 ·rfl
 ·exact zyv v hv
theorem uSQ:P.underlying zbm=some (.slice za9):=by kernel_rfl
theorem szQ:(P.info? za9).map (·.size)=some 35:=by kernel_rfl
theorem EQ:Elem P za9 35 80:=zno (z:=.agg ([Value.slice none 0 0,Value.string .empty,Value.int .i64 0]++byteCells (List.replicate 32 0)).toArray) (by kernel_rfl) rfl
theorem bQ' (x:Option Addr × Nat × Nat) (s:ByteArray) (n:Int) (a0 a1 a2 a3 a4 a5 a6 a7 a8 a9 a10 a11 a12 a13 a14 a15 a16 a17 a18 a19 a20 a21 a22 a23 a24 a25 a26 a27 a28 a29 a30 a31:UInt8) (w:World):(Instr.build za9 #[(0,.slice x.1 x.2.1 x.2.2),(1,.agg ([Value.string s,Value.int .i64 n]++byteCells [a0,a1,a2,a3,a4,a5,a6,a7,a8,a9,a10,a11,a12,a13,a14,a15,a16,a17,a18,a19,a20,a21,a22,a23,a24,a25,a26,a27,a28,a29,a30,a31]).toArray)]).run P w=.ok (.agg ([zck x,Value.string s,Value.int .i64 n]++byteCells [a0,a1,a2,a3,a4,a5,a6,a7,a8,a9,a10,a11,a12,a13,a14,a15,a16,a17,a18,a19,a20,a21,a22,a23,a24,a25,a26,a27,a28,a29,a30,a31]).toArray) w:=by kernel_rfl
theorem bQ (x:Option Addr × Nat × Nat) (p:Path) {i:Itm} (h:i.sum.length=32) (w:World):(Instr.build za9 #[(0,.slice x.1 x.2.1 x.2.2),(1,.agg (zeg i).toArray)]).run P w=.ok (.agg (zx7 (x,(p,i))).toArray) w:=by
 obtain ⟨nm,kd,sm⟩:=i
 unfold zx7 zeg
 simp only at h ⊢
 rw [Bl.zev h]
 match sm,h with
 | [a0,a1,a2,a3,a4,a5,a6,a7,a8,a9,a10,a11,a12,a13,a14,a15,a16,a17,a18,a19,a20,a21,a22,a23,a24,a25,a26,a27,a28,a29,a30,a31],_=>exact bQ' x (strOf nm) kd a0 a1 a2 a3 a4 a5 a6 a7 a8 a9 a10 a11 a12 a13 a14 a15 a16 a17 a18 a19 a20 a21 a22 a23 a24 a25 a26 a27 a28 a29 a30 a31 w
def QOk (H:Heap) (y:TQ):Prop:=Mine H 0 qc 1 y.1 (strRow (y.2.1++[y.2.2.name]))∧y.2.2.sum.length=32
def zi5 (H:Heap) (x:Option Addr × Nat × Nat) (ps:List (Path × Itm)):Prop :=
 ∃ ys:List TQ,Cells H x.1 (ys.flatMap zx7)∧x.2.1=ys.length∧x.2.1≤x.2.2∧ys.map (·.2)=ps∧(∀ y ∈ ys,QOk H y)∧(ys ≠ []→∀ c ∈ jf x,∃ cs fr,H[c]?=some (.cells cs za9 fr))
theorem zi5.len {H:Heap} {x:Option Addr × Nat × Nat} {ps:List (Path × Itm)} (h:zi5 H x ps):x.2.1=ps.length:=by
 obtain ⟨ys,_,h2,_,h4,_⟩:=h
 rw [← h4];simpa using h2
theorem zi5.nil {H:Heap}:zi5 H (none,0,0) []:=⟨[],.inl rfl,rfl,Nat.le_refl _,rfl,by simp,by simp⟩
theorem zi5.ext {H H':Heap} {x o:Option Addr × Nat × Nat} {ps:List (Path × Itm)} {B:Nat} {vs:List Value} (h:zi5 H x ps) (ho:Mine H B zl 3 o vs) (hx:Ext (jf o) H H'):zi5 H' x ps:=by
 obtain ⟨ys,h1,h2,h3,h4,h5,h6⟩:=h
 have hno:ys ≠ []→∀ c ∈ jf x,c ∉ jf o:=by
  intro hys c hc hco
  obtain ⟨cs,fr,hg⟩:=h6 hys c hc
  rcases ho with ⟨rfl,_⟩ | ⟨b2,c2,hx2,_,hg2,_⟩
  ·simp [jf] at hco
  ·simp [jf,hx2] at hco
   subst hco
   rw [hg] at hg2
   simp only [Option.some.injEq,Obj.cells.injEq] at hg2
   exact absurd hg2.2.1 (by decide)
 refine ⟨ys,h1.ext hx (fun a ha hne=>hno (fun h=>hne (by rw [h];rfl)) _ (by simp [jf,ha])),h2,h3,h4,fun y hy=>⟨(h5 y hy).1.ext hx (zeo (h5 y hy).1 ho (by decide)),(h5 y hy).2⟩,fun hys c hc=>?_⟩
 obtain ⟨cs,fr,hg⟩:=h6 hys c hc
 exact ⟨cs,fr,hx.get hg (hno hys c hc)⟩
theorem zi5.ext0 {H H':Heap} {x:Option Addr × Nat × Nat} {ps:List (Path × Itm)} (h:zi5 H x ps) (hx:Ext [] H H'):zi5 H' x ps :=
 h.ext (o:=(none,0,0)) (B:=0) (vs:=[]) (.inl ⟨rfl,rfl⟩) (by simpa [jf] using hx)
theorem qhb (ys:List TQ):(ys.flatMap zx7).length=ys.length * 35:=by rw [qj zx7 zkk]
theorem qr1 {w:World} {H:Heap} {B:Nat} {x:Option Addr × Nat × Nat} {ys:List TQ} {y:TQ} (hw:w.heap=H) (hm:Mine H B za9 35 x (ys.flatMap zx7)) (hBs:B≤H.size) (hlen:ys.length≤1073741824) {K:(Option Addr × Nat × Nat)→World→Prop}
  (hK:∀ x' w',Mine w'.heap B za9 35 x' ((ys++[y]).flatMap zx7)→Ext (jf x) H w'.heap→(∀ c ∈ jf x',c ∈ jf x ∨ H.size≤c)→K x' w') :
  zaf P (Instr.buildSlice zbm 1 #[(0,.agg (zx7 y).toArray)]) .slc w fun (t27:(Option Addr × Nat × Nat)) w_13 =>
  zaf P (Builtin.append_ #[zbm,zbm] zbm #[(Value.slice x.1 x.2.1 x.2.2),(Value.slice t27.1 t27.2.1 t27.2.2)]) .slc w_13 K:=by
 have hlx:x.2.1=ys.length:=by have:=hm.len;rw [qhb] at this;omega
 refine zae (s:=.slc) (some ⟨w.heap.size,0,none⟩,1,1) _ (zd7 EQ uSQ (v:=.agg (zx7 y).toArray) (by simp [Value.cells,zkk]) (by omega) (by omega)) ?_
 subst hw
 have hxp:Ext [] w.heap (w.heap.push (.cells (Value.agg (zx7 y).toArray).cells za9)):=.push _
 refine zcf (bts:=80) (n:=1) (us:=zx7 y) (H:=w.heap.push (.cells (Value.agg (zx7 y).toArray).cells za9)) EQ (by omega) uSQ (za4 uSQ) rfl (hm.ext hxp (by simp)) (by simp;omega)
  (Src.slc rfl (.inr ⟨w.heap.size,0,_,_,_,rfl,zo,by simp [ze5],by simp [ze5,List.take_of_length_le]⟩) (by rw [zkk])) z6h (by omega) ?_
 intro x' w4 hm4 hl4 hx4 hs4
 refine hK x' w4 (by rw [List.flatMap_append,List.flatMap_singleton];exact hm4) ((hxp.mono (by simp)).trans hx4) (fun c hc=>?_)
 rcases hs4 c hc with h | h
 ·exact .inl h
 ·right;have:=hxp.1;omega
theorem qra {i:Itm} {c:Array Value} {o:Nat} (hs:o+34≤c.size) (hc:∀ j,j < 34→c[o+j]?=(zeg i)[j]?):c.extract o (o+34)=(zeg i).toArray:=by
 apply Array.ext_getElem?
 intro j
 rw [Array.getElem?_extract]
 by_cases hj:j < 34
 ·rw [if_pos (by omega),hc j hj];simp
 ·rw [if_neg (by omega),Array.getElem?_eq_none (by simp [zat];omega)]
theorem z1u {H:Heap} {B sz:Nat} {T:TypeId} {x:Option Addr × Nat × Nat} {vs:List Value} (h:Mine H B T sz x vs):∀ c ∈ jf x,∃ cs fr,H[c]?=some (.cells cs T fr):=by
 intro c hc
 rcases h with ⟨rfl,_⟩ | ⟨b,cs,hx,_,hg,_⟩
 ·simp [jf] at hc
 ·simp [jf,hx] at hc
  subst hc
  exact ⟨cs,_,hg⟩
set_option maxHeartbeats 8000000 in
theorem qk8 {w:World} {H:Heap} {nx rx:Option Addr × Nat × Nat} {names:Path} {n:Nod} {xp xi:Option Addr × Nat × Nat} {ps:List (Path × Itm)} (hw:w.heap=H) (hM:Cells H nx.1 (strRow names)) (hl:nx.2.1=names.length) (hnl:names.length≤1073741824) (hN:NodW H n xp xi) (hil:n.items.length≤65) (hR:zi5 H rx ps) (hps:ps.length≤1073741) :
  qg P zou #[.slice nx.1 nx.2.1 nx.2.2,.agg (zbz n xp xi).toArray,.slice rx.1 rx.2.1 rx.2.2] w fun e w'=>∃ x',e=.returned (zck x')∧zi5 w'.heap x' ((n.items.map fun i=>(names,i))++ps)∧Ext [] H w'.heap:=by
 refine qcf ?_
 unfold ztj
 refine jw hw fun w1 hw1=>?_
 have hx1:Ext [] H w1.heap:=by rw [hw1];exact .push _
 have hb1:w1.heap[H.size]?=some (.cells (zbz n xp xi).toArray zh (0,0)):=by rw [hw1];exact zo
 have hxil:xi.2.1=n.items.length:=hN.ilen
 refine jd (fun (s:(Option Addr × Nat × Nat) × Int) W=>∃ (i:Nat) (ys:List TQ),s.2=(i:Int)∧i≤n.items.length∧ys.map (·.2)=(n.items.take i).map (fun j=>(names,j))∧Ext [] H W.heap∧W.heap[H.size]?=some (.cells (zbz n xp xi).toArray zh (0,0))∧Mine W.heap w1.heap.size za9 35 s.1 (ys.flatMap zx7)∧(∀ y ∈ ys,QOk W.heap y)∧w1.heap.size≤W.heap.size) (fun s _=>(n.items.length - s.2).toNat)
  ⟨0,[],rfl,Nat.zero_le _,by simp,hx1,hb1,.inl ⟨rfl,rfl⟩,by simp,Nat.le_refl _⟩ ?_
 rintro ⟨o,_⟩ W ⟨i,ys,rfl,hi,hy,hx,hbW,hmo,hok,hsz⟩
 simp only at hmo
 have sb:=lt_of_get hb1
 have hyl:ys.length=i:=by have:=congrArg List.length hy;simp at this;omega
 refine jg (s:=.slc) (t:=xi) rfl hbW rfl ?_
 refine zq (fun hlt=>?_) (fun hge=>?_)
 ·have hilt:i < n.items.length:=by simp only at hlt;omega
  have hget:=List.getElem?_eq_getElem hilt
  have h32:=hN.i32 _ (List.getElem_mem hilt)
  have htake:(n.items.take (i+1)).map (fun j=>(names,j))=(n.items.take i).map (fun j=>(names,j))++[(names,n.items[i])]:=by rw [List.take_add_one,hget,List.map_append];rfl
  generalize n.items[i]=it at hget h32 htake
  refine qrf rfl fun w3 hx3 hm3=>?_
  have l3:=(zbg hm3 W.heap.size (by simp [jf])).1
  refine qo2 (xs:=[]) (ys:=names) rfl hm3 hx3.1 (hM.ext (hx.trans hx3) (by simp)) hl (by simp;omega) fun x19 w4 hm4 hx4=>?_
  rw [List.nil_append] at hm4
  have hxW4:Ext [] W.heap w4.heap:=hx3.own hx4 (fun c hc hlt=>by simp [jf] at hc;omega)
  refine jq rfl fun w5 hw5=>?_
  rw [← hw5] at hxW4 hm4
  have hx05:=hx.trans hxW4
  have hb5:=hxW4.get hbW (by simp)
  refine jg (s:=.slc) (t:=xi) rfl hb5 rfl ?_
  have hC5:=hN.items.ext hx05 (by simp)
  refine Bl.zb8 (i:=i) zat (by omega) hC5 hxil hget rfl fun ba oa ca Ta fra _ hba hsa hca _=>?_
  refine jg (s:=.str) (t:=strOf it.name) rfl hba (hca 0 (by omega)) ?_
  refine jg (s:=.slc) (t:=xi) rfl hb5 rfl ?_
  refine Bl.zb8 (i:=i) zat (by omega) hC5 hxil hget rfl fun bz oz cz Tz frz hbk2 hbz hsz2 hcz _=>?_
  refine zmy rfl hbz hsz2 ?_
  rw [qra hsz2 hcz]
  have re1:∀ {W':World},Ext [] w5.heap W'.heap→ldA P 34 (⟨bz,oz,none⟩:Addr) W' fun t=>(Value.agg t)=(Value.agg (zeg it).toArray):=fun h=>zmy (K:=fun t=>(Value.agg t)=(Value.agg (zeg it).toArray)) rfl (h.get hbz (by simp)) hsz2 (by rw [qra hsz2 hcz])
  have re2:∀ {W':World},Ext [] w5.heap W'.heap→ld .slc (⟨H.size,4,none⟩:Addr) W' fun z=>Value.slice z.1 z.2.1 z.2.2=Value.slice xi.1 xi.2.1 xi.2.2:=fun h=>jg (s:=.slc) (o:=4) (t:=xi) (K:=fun z=>Value.slice z.1 z.2.1 z.2.2=Value.slice xi.1 xi.2.1 xi.2.2) rfl (h.get hb5 (by simp)) rfl rfl
  refine qmn it.name rfl fun a6 w6 hx6 hc6=>?_
  refine ⟨re1 hx6,re2 hx6,?_⟩
  have s6:=hx6.1
  have s5:=hxW4.1
  refine qo2 (xs:=names) (ys:=[it.name]) rfl (hm4.ext hx6 (by simp)) (by omega) hc6 rfl (by simp;omega) fun x29 w7 hm7 hx7=>?_
  have g4:=jc hm4
  have hx57:Ext [] W.heap w7.heap:=(hxW4.trans hx6).own hx7 (fun c hc hlt=>by have:=g4 c hc;omega)
  have hlt5:∀ c ∈ jf x19,W.heap.size≤c:=fun c hc=>g4 c hc
  have nba:bz ∉ jf x19:=fun h=>by
   have h1:=hlt5 _ h
   obtain ⟨cs,fr,hg⟩:=z1u hm4 _ h
   have h2:=hx05.1
   rcases hN.items with h' | ⟨b',o',c',T',fr',ha',hb',_⟩
   ·have:=congrArg List.length h'
    rw [qj zeg zat] at this
    simp at this;omega
   ·have hbz':bz=b':=by rw [ha'] at hbk2;simpa using hbk2.symm
    have:=lt_of_get hb'
    have:=hx.1
    omega
  have nb5:H.size ∉ jf x19:=fun h=>by have:=hlt5 _ h;have:=hx.1;omega
  have hbz7:=hx7.get (hx6.get hbz (by simp)) nba
  have hb7:=hx7.get (hx6.get hb5 (by simp)) nb5
  refine ⟨zmy (K:=fun t=>(Value.agg t)=(Value.agg (zeg it).toArray)) rfl hbz7 hsz2 (by rw [qra hsz2 hcz]),jg (s:=.slc) (o:=4) (t:=xi) (K:=fun z=>Value.slice z.1 z.2.1 z.2.2=Value.slice xi.1 xi.2.1 xi.2.2) rfl hb7 rfl rfl,?_⟩
  refine qx (s:=.any) _ (bQ x29 names h32 _) ?_
  have hmo7:=hmo.ext hx57 (by simp)
  refine qr1 (y:=(x29,(names,it))) rfl hmo7 (by have:=hx57.1;omega) (by omega) fun x37 w9 hm9 hx9 hs9=>?_
  refine xk ((i+1:Nat):Int) (by simp) (by omega) (by omega) ?_
  have go:=jc hmo
  have hxW9:Ext [] H w9.heap:=(hx.trans hx57).own hx9 (fun c hc hlt=>by have:=go c hc;have:=hx.1;omega)
  refine ⟨⟨i+1,ys++[(x29,(names,it))],rfl,by omega,by rw [List.map_append,hy,htake];rfl,hxW9,hx9.get (hx57.get hbW (by simp)) (fun h=>by have:=go _ h;omega),hm9,fun y hy'=>?_,by have:=hx57.1;have:=hx9.1;omega⟩,by simp only;omega⟩
  rcases List.mem_append.1 hy' with h | h
  ·have h1:=hok y h
   exact ⟨(h1.1.ext hx57 (by simp)).ext hx9 (zeo (h1.1.ext hx57 (by simp)) hmo7 (by decide)),h1.2⟩
  ·simp only [List.mem_singleton] at h
   subst h
   have h1:=hm7.mono (Nat.zero_le _)
   exact ⟨h1.ext hx9 (zeo h1 hmo7 (by decide)),h32⟩
 ·obtain rfl:i=n.items.length:=by simp only at hge;omega
  rw [List.take_length] at hy
  have hRW:=hR.ext0 hx
  have hrl:=hRW.len
  obtain ⟨zs,z1,z2,z3,z4,z5,z6⟩:=hRW
  have hzl:zs.length=ps.length:=by rw [← z4];simp
  have hol:o.2.1=ys.length:=by have:=hmo.len;rw [qhb] at this;omega
  refine zcf (bts:=80) (n:=zs.length) (us:=zs.flatMap zx7) EQ (by omega) uSQ (za4 uSQ) rfl hmo hsz (Src.slc rfl z1 (by rw [qhb]) |> fun h=>by rw [z2];exact h) (by
   intro v hv
   obtain ⟨y,_,hy⟩:=List.mem_flatMap.1 hv
   exact z6h v hy) (by omega) fun x' w' hm' hl' hx' hs'=>?_
  have go:=jc hmo
  refine ⟨x',rfl,⟨ys++zs,by rw [List.flatMap_append];exact hm'.cells,by have:=hm'.len;rw [List.length_append,qhb,qhb] at this;simp;omega,zfl hm',by rw [List.map_append,hy,z4],fun y hy'=>?_,fun _ c hc=>z1u hm' c hc⟩,hx.own hx' (fun c hc hlt=>by have:=go c hc;have:=hx1.1;omega)⟩
  rcases List.mem_append.1 hy' with h | h
  ·exact ⟨(hok y h).1.ext hx' (zeo (hok y h).1 hmo (by decide)),(hok y h).2⟩
  ·exact ⟨(z5 y h).1.ext hx' (zeo (z5 y h).1 hmo (by decide)),(z5 y h).2⟩
theorem zcQ:(zc P za9).size=35:=by kernel_rfl
theorem qsu:P.cellsOf za9=35:=by kernel_rfl
theorem qsg {w:World} {H:Heap} (i:TQ) (hw:w.heap=H) {K:Nat→World→Prop} (hK:∀ w',w'.heap=H.push (.cells (zx7 i).toArray za9 (0,0))→K H.size w') :
  zbj (zc P za9) za9 w fun b w1=>zbs P (storeVar za9 (⟨b,0,none⟩:Addr) (.agg (zx7 i).toArray)) w1 fun w2=>K b w2 :=
 qhl (v:=.agg (zx7 i).toArray) (by rw [qsu];simp [Value.cells,zkk]) (by rw [zcQ];simp [Value.cells,zkk]) (by simp [Value.cells,zkk]) (by simpa [Value.cells] using z6h) hw hK
theorem qtb (s d:ByteArray) (w:World):(Instr.build zl #[(0,.string s),(2,.string d)]).run P w=.ok (.agg #[.string s,.bool false,.string d]) w:=by kernel_rfl
theorem qow {y:TQ}:(zx7 y).toArray.extract 3 35=(Bl.zfb y.2.2.sum).toArray:=by
 apply Array.toList_inj.1
 have:=Bl.zdp y.2.2.sum
 simp [zx7,zeg,List.take_of_length_le,this]
theorem qny:∀ (l:Path),(∀ x ∈ l,x.length≤16)→tlen l≤16 * l.length:=by
 intro l
 induction l with
 | nil=>intro _;simp [tlen]
 | cons x l ihl =>
  intro h
  have h1:=h x (by simp)
  have h2:=ihl fun y hy=>h y (by simp [hy])
  simp only [tlen,List.map_cons,List.sum_cons,List.length_cons] at *
  omega
theorem zi5.tail {H:Heap} {x:Option Addr × Nat × Nat} {p:Path × Itm} {ps:List (Path × Itm)} (h:zi5 H x (p :: ps)):∃ x',(∀ w,(Instr.sliceAt zbm (.slice x.1 x.2.1 x.2.2) (some (.int .i64 1)) none none).run P w=.ok (zck x') w)∧zi5 H x' ps:=by
 obtain ⟨ys,h1,h2,h3,h4,h5,h6⟩:=h
 cases ys with
 | nil=>simp at h4
 | cons y ys =>
  simp only [List.map_cons,List.cons.injEq] at h4
  simp only [List.length_cons] at h2
  refine ⟨(if x.2.2=1 then x.1 else x.1.map (·.add (1 * 35)),x.2.1 - 1,x.2.2 - 1),fun w=>zaw (a:=x.1) (len:=x.2.1) (cap:=x.2.2) (l:=1) (h:=x.2.1) uSQ szQ (.yes (k:=.i64) (i:=(1:Int)) rfl) .no (by omega) h3,ys,?_,by show x.2.1 - 1=_;omega,by show x.2.1 - 1≤x.2.2 - 1;omega,h4.2,fun z hz=>h5 z (by simp [hz]),fun _ c hc=>h6 (by simp) c ?_⟩
  ·by_cases hc:x.2.2=1
   ·have:ys=[]:=List.eq_nil_of_length_eq_zero (by omega)
    subst this
    exact .inl rfl
   ·simp only [if_neg hc]
    have:=h1.part 35 (ys.length * 35) (by rw [qhb];simp;omega)
    rw [List.flatMap_cons,List.drop_left' (by rw [zkk]),List.take_of_length_le (by rw [qhb];omega)] at this
    exact this
  ·by_cases hc':x.2.2=1
   ·simpa [jf,hc'] using hc
   ·simp only [jf,if_neg hc'] at hc ⊢
    cases hx:x.1 with
    | none=>rw [hx] at hc;simp at hc
    | some a=>rw [hx] at hc;simpa [Addr.add] using hc
set_option maxHeartbeats 16000000 in
theorem qml {w:World} {H:Heap} {fp:List Nat} {p:Nat} {q:Int} {r:Bl.SM} {root:List UInt8} (hw:w.heap=H) (hS:Bl.zdx H fp p q r) (hrn:r.length < 1099511627776) (h32:root.length=32) (hlen:∀ k L,Bl.zaq r k=some L→L.length < 1099511627776) :
  qg P zwk #[.pointer (some ⟨p,0,none⟩),arr root] w fun e w'=>∃ x',e=.returned (.tuple #[zck x',.int .i64 (zd1 r root).2])∧Ext [] H w'.heap∧((zd1 r root).2=0→Mine w'.heap H.size zl 3 x' ((zd1 r root).1.flatMap zbf)):=by
 refine qd5 ?_
 unfold zxm
 rw [show (arr root).cells=(byteCells root).toArray from rfl]
 refine jw hw fun w1 hw1=>?_
 have hx1:Ext [] H w1.heap:=by rw [hw1];exact .push _
 have hb1:w1.heap[H.size]?=some (.cells (byteCells root).toArray zf (0,0)):=by rw [hw1];exact zo
 have s1:=lt_of_get hb1
 refine je rfl hb1 (by simp [h32]) ?_
 refine zn (qd6 (k:=root) (kind:=3) rfl (hS.ext hx1 (by simp)) h32 hrn (hlen root)) ?_
 rintro e w2 ⟨yp,yi,rfl,hN2,hx2⟩
 refine ⟨(.agg (zbz (gV r root 3).1 yp yi).toArray,(gV r root 3).2),rfl,?_⟩
 have hit:=zn4 (v:=Bl.zaq r root) (k:=root) (kind:=3)
 have hN2:NodM w2.heap w1.heap.size (gV r root 3).1 yp yi:=hN2
 have hit1:(gV r root 3).1.items.length≤65:=hit.1
 have hit2:∀ i ∈ (gV r root 3).1.items,i.name.length≤16:=hit.2.1
 rw [qbb]
 generalize gV r root 3=D at *
 refine qd3 D.1 yp yi rfl fun w4 hw4=>?_
 have hx4:Ext [] w2.heap w4.heap:=by rw [hw4];exact .push _
 have hb4:w4.heap[w2.heap.size]?=some (.cells (zbz D.1 yp yi).toArray zh (0,0)):=by rw [hw4];exact zo
 have hx04:=(hx1.trans hx2).trans hx4
 refine zam (fun h=>?_) (fun h=>?_)
 ·have h:D.2 ≠ 0:=h
  rw [if_pos h]
  exact ⟨(none,0,0),rfl,hx04,fun h0=>absurd h0 h⟩
 have h:D.2=0:=h
 rw [if_neg (by simpa using h)]
 refine je rfl hb4 rfl ?_
 have hN4:=hN2.ext hx4 (by simp)
 refine zn (qk8 (nx:=(none,0,0)) (rx:=(none,0,0)) (names:=[]) (ps:=[]) rfl (.inl rfl) rfl (by simp) hN4.nodW hit1 .nil (by simp)) ?_
 rintro e w5 ⟨x24,rfl,hT5,hx5⟩
 refine ⟨x24,rfl,?_⟩
 rw [List.append_nil] at hT5
 generalize hres:zwy (gV r) (zdr r) (D.1.items.map fun i=>([],i)) []=res
 have hx05:=hx04.trans hx5
 refine jd (fun (s:(Option Addr × Nat × Nat) × (Option Addr × Nat × Nat)) W=>∃ (L:List Fil) (ps:List (Path × Itm)),zwy (gV r) (zdr r) ps L=res∧Ext [] H W.heap∧Mine W.heap H.size zl 3 s.1 (L.flatMap zbf)∧zi5 W.heap s.2 ps∧L.length≤512∧ps.length≤65 * (L.length+1)∧∀ x ∈ ps,x.1.length≤8∧(∀ y ∈ x.1,y.length≤16)∧x.2.name.length≤16) (fun s _=>513 - s.1.2.1)
  ⟨[],_,hres,hx05,.inl ⟨rfl,rfl⟩,hT5,by simp,by simp;exact hit1,by
   intro x hx
   obtain ⟨i,hi,rfl⟩:=List.mem_map.1 hx
   exact ⟨by simp,by simp,hit2 i hi⟩⟩ ?_
 rintro ⟨o,rs⟩ W ⟨L,ps,hrun,hx,hmo,hT,hL,hpl,hgood⟩
 simp only at hmo hT
 have hol:o.2.1=L.length:=by have:=hmo.len;rw [z3l] at this;omega
 have hrl:=hT.len
 have sW:=hx.1
 refine zq (fun hpos=>?_) (fun hz=>?_)
 rotate_left
 ·have hps:ps=[]:=List.eq_nil_of_length_eq_zero (by simp only at hz;omega)
  subst hps
  rw [zwy] at hrun
  rw [← hrun]
  exact ⟨o,rfl,hx,fun _=>hmo⟩
 cases ps with
 | nil=>exfalso;simp only at hpos;simp at hrl;omega
 | cons x ps =>
 obtain ⟨nm,it⟩:=x
 rw [qay] at hrun
 simp only at hrun
 obtain ⟨g1,g2,g3⟩:=hgood (nm,it) (by simp)
 have g1:nm.length≤8:=g1
 have g2:∀ y ∈ nm,y.length≤16:=g2
 have g3:it.name.length≤16:=g3
 refine Go.Fw.joinP_of (fun (s:(Option Addr × Nat × Nat) × (Option Addr × Nat × Nat)) W'=>∃ (L':List Fil) (ps':List (Path × Itm)),zwy (gV r) (zdr r) ps' L'=res∧Ext [] H W'.heap∧Mine W'.heap H.size zl 3 s.1 (L'.flatMap zbf)∧zi5 W'.heap s.2 ps'∧L'.length=L.length+1∧L'.length≤512∧ps'.length≤65 * (L'.length+1)∧∀ x ∈ ps',x.1.length≤8∧(∀ y ∈ x.1,y.length≤16)∧x.2.name.length≤16) ?_ ?_
 rotate_left
 ·rintro ⟨o',rs'⟩ W' ⟨L',ps',k1,k2,k3,k4,k5,k6,k7,k8⟩
  have hol':o'.2.1=L'.length:=by have:=Mine.len k3;rw [z3l] at this;simp only at this;omega
  exact ⟨⟨L',ps',k1,k2,k3,k4,k6,k7,k8⟩,by simp only;omega⟩
 obtain ⟨ys,t1,t2,t3,t4,t5,t6⟩:=id hT
 cases ys with
 | nil=>simp at t4
 | cons y ys =>
 simp only [List.map_cons,List.cons.injEq] at t4
 obtain ⟨t4,t4'⟩:=t4
 have hyok:=t5 y (by simp)
 obtain ⟨ny,y2⟩:=y
 simp only at t4
 subst t4
 refine zgx (i:=0) zkk (by omega) rfl t1 t2 (List.getElem?_cons_zero) rfl ?_
 refine qsg (ny,(nm,it)) rfl fun w8 hw8=>?_
 have hx8:Ext [] W.heap w8.heap:=by rw [hw8];exact .push _
 have hb8:w8.heap[W.heap.size]?=some (.cells (zx7 (ny,(nm,it))).toArray za9 (0,0)):=by rw [hw8];exact zo
 have s8:=hx8.1
 refine zq (fun h512=>?_) (fun h512=>?_)
 ·rw [if_pos (by simp only at h512;omega)] at hrun
  rw [← hrun]
  exact ⟨(none,0,0),rfl,hx.trans hx8,fun h0=>by simp at h0⟩
 have h512:L.length ≠ 512:=by simp only at h512;omega
 rw [if_neg h512] at hrun
 have hnyl:ny.2.1=nm.length+1:=by have:=Mine.len hyok.1;simp at this;omega
 refine jg (s:=.slc) (t:=ny) rfl hb8 rfl ?_
 refine zq (fun h8=>?_) (fun h8=>?_)
 ·rw [if_pos (by omega)] at hrun
  rw [← hrun]
  exact ⟨(none,0,0),rfl,hx.trans hx8,fun h0=>by simp at h0⟩
 rw [if_neg (by omega)] at hrun
 have hit32:it.sum.length=32:=hyok.2
 refine zmy rfl hb8 (by simp [zkk]) ?_
 rw [show (zx7 (ny,(nm,it))).toArray.extract 3 (3+32)=(Bl.zfb it.sum).toArray from qow,Bl.zev hit32]
 refine jg (s:=.int .i64) (t:=it.kind) rfl hb8 rfl ?_
 have hx08:=hx.trans hx8
 have hS5:Bl.zdx w8.heap fp p q r:=hS.ext hx08 (by simp)
 refine zn (qd6 (k:=it.sum) (kind:=it.kind) rfl hS5 hit32 hrn (hlen _)) ?_
 rintro e w9 ⟨zp,zi,rfl,hN9,hx9⟩
 refine ⟨(.agg (zbz (gV r it.sum it.kind).1 zp zi).toArray,(gV r it.sum it.kind).2),rfl,?_⟩
 have hik:=zn4 (v:=Bl.zaq r it.sum) (k:=it.sum) (kind:=it.kind)
 have hN9:NodM w9.heap w8.heap.size (gV r it.sum it.kind).1 zp zi:=hN9
 have hik:(gV r it.sum it.kind).1.items.length≤65∧(∀ i ∈ (gV r it.sum it.kind).1.items,i.name.length≤16)∧(gV r it.sum it.kind).1.size≤1025∧0≤(gV r it.sum it.kind).1.size∧(gV r it.sum it.kind).1.parts.length≤65536:=hik
 generalize gV r it.sum it.kind=E at *
 refine qd3 E.1 zp zi rfl fun w11 hw11=>?_
 have hx11:Ext [] w9.heap w11.heap:=by rw [hw11];exact .push _
 have hn11:w11.heap[w9.heap.size]?=some (.cells (zbz E.1 zp zi).toArray zh (0,0)):=by rw [hw11];exact zo
 have hx811:=hx9.trans hx11
 have hb11:=hx811.get hb8 (by simp)
 have hx011:=hx08.trans hx811
 have hxW11:=hx8.trans hx811
 refine zam (fun h3=>?_) (fun h3=>?_)
 ·have h3:E.2 ≠ 0:=h3
  rw [if_pos h3] at hrun
  rw [← hrun]
  exact ⟨(none,0,0),rfl,hx011,fun h0=>absurd h0 h3⟩
 have h3:E.2=0:=h3
 rw [if_neg (by simpa using h3)] at hrun
 have hN11:=hN9.ext hx11 (by simp)
 refine jg (s:=.int .i64) (t:=it.kind) rfl hb11 rfl ?_
 have hshow:∀ {w':World},Ext [] W.heap w'.heap→qg P zij #[.slice ny.1 ny.2.1 ny.2.2] w' fun e w''=>e=.returned (.string (strOf (vk (nm++[it.name]))))∧w''=w':=by
  intro w' hx'
  have hall:∀ x ∈ nm++[it.name],x.length≤16:=fun x hx=>by
   rcases List.mem_append.1 hx with h | h
   ·exact g2 x h
   ·simp at h;subst h;exact g3
  have:=qny (nm++[it.name]) hall
  refine qkp rfl (hyok.1.cells.ext hx' (by simp)) (by simp [hnyl]) ?_
  simp at this ⊢
  omega
 have hmo11:=hmo.ext hxW11 (by simp)
 have hT11:=hT.ext0 hxW11
 have s9:=hx9.1
 have s11:=hx11.1
 refine za5 (fun h4=>?_) (fun h4=>?_)
 ·rw [if_pos h4] at hrun
  refine jg (s:=.slc) (t:=ny) rfl hb11 rfl ?_
  refine zn (hshow hxW11) ?_
  rintro e w12 ⟨rfl,rfl⟩
  refine ⟨strOf (vk (nm++[it.name])),rfl,?_⟩
  refine qx (s:=.any) (.agg (zbf ⟨vk (nm++[it.name]),true,[]⟩).toArray) (bFd _ _ _) ?_
  refine z6d rfl hmo11 hx011.1 (by omega) fun x14 w14 hm14 hx14 hs14=>?_
  refine jq rfl fun w15 hw15=>?_
  rw [← hw15] at hm14 hx14
  have nob:∀ {b:Nat} {c:Array Value} {T:TypeId},w12.heap[b]?=some (.cells c T (0,0))→T ≠ zl→b ∉ jf o:=by
   intro b c T hg hne hb
   obtain ⟨cs,fr,hg2⟩:=z1u hmo11 b hb
   rw [hg] at hg2
   simp only [Option.some.injEq,Obj.cells.injEq] at hg2
   exact hne hg2.2.1
  have hb15:=hx14.get hb11 (nob hb11 (by decide))
  have hn15:=hx14.get hn11 (nob hn11 (by decide))
  refine jg (s:=.slc) (t:=ny) rfl hb15 rfl ?_
  refine je rfl hn15 rfl ?_
  have hT15:=hT11.ext hmo11 hx14
  obtain ⟨x67,hcut,hT67⟩:=hT15.tail
  refine qx (s:=.slc) x67 (hcut _) ?_
  have hny15:Mine w15.heap 0 qc 1 ny (strRow (nm++[it.name])):=(hyok.1.ext hxW11 (by simp)).ext hx14 (zeo (hyok.1.ext hxW11 (by simp)) hmo11 (by decide))
  have go:=jc hmo
  have hN15:NodW w15.heap E.1 zp zi:=(hN11.ext hx14 (fun c hc=>by have:=(zbg hmo c hc).1;omega)).nodW
  refine zn (qk8 (nx:=ny) (rx:=x67) (names:=nm++[it.name]) (ps:=ps) rfl hny15.cells (by simp [hnyl]) (by simp;omega) hN15 hik.1 hT67 (by simp at hpl;omega)) ?_
  rintro e w16 ⟨x68,rfl,hT16,hx16⟩
  refine ⟨x68,rfl,?_⟩
  refine ⟨L++[⟨vk (nm++[it.name]),true,[]⟩],_,hrun,?_,hm14.ext hx16 (by simp),hT16,by simp,by simp;omega,?_,?_⟩
  ·exact (hx011.own hx14 (fun c hc hlt=>by have:=go c hc;omega)).trans hx16
  ·simp at hpl ⊢;have:=hik.1;omega
  ·intro x hx
   rcases List.mem_append.1 hx with h | h
   ·obtain ⟨i,hi,rfl⟩:=List.mem_map.1 h
    refine ⟨by simp;omega,fun y hy=>?_,hik.2.1 i hi⟩
    rcases List.mem_append.1 hy with h' | h'
    ·exact g2 y h'
    ·simp at h';subst h';exact g3
   ·exact hgood x (by simp [h])
 ·rw [if_neg h4] at hrun
  refine je rfl hn11 rfl ?_
  refine zn (qd0 rfl (hS.ext hx011 (by simp)) hrn hlen hN11.nodW hik.2.2.2.2 (by omega) (by omega)) ?_
  rintro e w17 ⟨rfl,hx17⟩
  refine ⟨(strOf (zdr r E.1).1,(zdr r E.1).2),rfl,?_⟩
  have hx017:=hx011.trans hx17
  refine zam (fun h5=>?_) (fun h5=>?_)
  ·have h5:(zdr r E.1).2 ≠ 0:=h5
   rw [if_pos h5] at hrun
   rw [← hrun]
   exact ⟨(none,0,0),rfl,hx017,fun h0=>absurd h0 h5⟩
  have h5:(zdr r E.1).2=0:=h5
  rw [if_neg (by simpa using h5)] at hrun
  refine jg (s:=.slc) (t:=ny) rfl (hx17.get hb11 (by simp)) rfl ?_
  refine zn (hshow (hxW11.trans hx17)) ?_
  rintro e w18 ⟨rfl,rfl⟩
  refine ⟨strOf (vk (nm++[it.name])),rfl,?_⟩
  refine qx (s:=.any) (.agg (zbf ⟨vk (nm++[it.name]),false,(zdr r E.1).1⟩).toArray) (qtb _ _ _) ?_
  have hmo18:=hmo11.ext hx17 (by simp)
  refine z6d rfl hmo18 hx017.1 (by omega) fun x20 w20 hm20 hx20 hs20=>?_
  have hT20:=(hT11.ext0 hx17).ext hmo18 hx20
  obtain ⟨x87,hcut,hT87⟩:=hT20.tail
  refine qx (s:=.slc) x87 (hcut _) ?_
  have go:=jc hmo
  exact ⟨L++[⟨vk (nm++[it.name]),false,(zdr r E.1).1⟩],ps,hrun,hx017.own hx20 (fun c hc hlt=>by have:=go c hc;omega),hm20,hT87,by simp,by simp;omega,by simp at hpl ⊢;omega,fun x hx=>hgood x (by simp [hx])⟩
def npm (D:List UInt8):Nat:=(D.length+1023) / 1024
def zj9 (D:List UInt8) (j:Nat):List UInt8:=(D.drop (1024 * j)).take 1024
def zm7 (y:Option Addr × Nat × Nat) (D:List UInt8) (j:Nat):Option Addr × Nat × Nat:=(if 1024 * j+min 1024 (D.length - 1024 * j)=1024 * j then y.1 else y.1.map (·.add (1024 * j * 1)),(1024 * j+min 1024 (D.length - 1024 * j)) - 1024 * j,(1024 * j+min 1024 (D.length - 1024 * j)) - 1024 * j)
theorem zr9 {D:List UInt8} {j:Nat}:(zj9 D j).length=min 1024 (D.length - 1024 * j):=by simp [zj9]
theorem z5c {D:List UInt8} {j:Nat}:j < npm D ↔ 1024 * j < D.length:=by unfold npm;omega
theorem z9y {H:Heap} {y:Option Addr × Nat × Nat} {D:List UInt8} {j:Nat} (h:Cells H y.1 (byteCells D)) (hj:j < npm D):Cells H (zm7 y D j).1 (byteCells (zj9 D j)):=by
 have hj':=z5c.1 hj
 have h1:=h.part (1024 * j) (min 1024 (D.length - 1024 * j)) (by simp;omega)
 rw [zga,ze9] at h1
 have h2:zj9 D j=(D.drop (1024 * j)).take (min 1024 (D.length - 1024 * j)):=by
  unfold zj9
  by_cases h64:1024≤D.length - 1024 * j
  ·rw [Nat.min_eq_left h64]
  ·rw [Nat.min_eq_right (by omega),List.take_of_length_le (by simp;omega),List.take_of_length_le (by simp)]
 rw [h2]
 unfold zm7
 simp only
 rw [if_neg (by omega),Nat.mul_one]
 exact h1
theorem qgt {w:World} {H:Heap} {b c:Nat} {y:Option Addr × Nat × Nat} {D:List UInt8} (hw:w.heap=H) (hb:H[b]?=some (.cells #[zck y] zk (0,0))) (hc:H[c]?=some (.cells #[.int .i64 1024] zds (0,0))) (hy:y.2.1=D.length) (hcap:y.2.1≤y.2.2) (hD:D.length≤1099511627776) :
  qnl P (.func (.func za2) #[] #[.pointer (some ⟨b,0,none⟩),.pointer (some ⟨c,0,none⟩)]) (fun ys=>ys=List.range (npm D)) (fun pre j=>j=pre.length∧j < npm D) (fun j=>#[zck (zm7 y D j)]) [b,c] w:=by
 refine ⟨_,_,rfl,fun l I J w1 M hx1 hMM hst h0 hY=>?_⟩
 have hx1:=hw ▸ hx1
 have hb1:=hx1.get hb (by simp)
 have hc1:=hx1.get hc (by simp)
 have hbl:=lt_of_get hb1
 have hcl:=lt_of_get hc1
 refine ze7 ?_
 unfold zb4
 refine jd (fun s W=>∃ i:Nat,s=((1024 * i:Nat):Int)∧i≤npm D∧I (List.range i) W∧w1.heap.size≤W.heap.size∧W.heap[b]?=some (.cells #[zck y] zk (0,0))∧W.heap[c]?=some (.cells #[.int .i64 1024] zds (0,0))) (fun s _=>(1024 * npm D+1024 - s).toNat)
  ⟨0,rfl,Nat.zero_le _,h0,Nat.le_refl _,hb1,hc1⟩ ?_
 rintro _ W ⟨i,rfl,hi,hI,hsz,hbW,hcW⟩
 simp only [xq]
 refine jg (s:=.slc) (t:=y) rfl hbW rfl ?_
 refine zq (fun hil=>?_) (fun hil=>?_)
 ·have hil:i < npm D:=z5c.2 (by omega)
  have hil':=z5c.1 hil
  refine jq rfl fun w2 hw2=>?_
  have hx02:Ext [] W.heap w2.heap:=by rw [hw2];exact .refl _ _
  have hb2:=hx02.get hbW (by simp)
  have hc2:=hx02.get hcW (by simp)
  refine jg (s:=.int .i64) (t:=(1024:Int)) rfl hc2 rfl ?_
  refine jg (s:=.slc) (t:=y) rfl hb2 rfl ?_
  refine qx (s:=.slc) (if y.2.2=1024 * i then y.1 else y.1.map (·.add (1024 * i * 1)),y.2.1 - 1024 * i,y.2.2 - 1024 * i) (zaw uS8 sz8 (.yes rfl) .no (by omega) hcap) ?_
  refine qx (s:=.int .i64) ((min 1024 (D.length - 1024 * i):Nat):Int) (by
   rw [run_min_int2]
   refine congrArg (fun z=>Result.ok (Value.int .i64 z) _) ?_
   simp only
   split <;> omega) ?_
  refine jg (s:=.slc) (t:=y) rfl hb2 rfl ?_
  refine xk ((1024 * i+min 1024 (D.length - 1024 * i):Nat):Int) (by omega) (by omega) (by omega) ?_
  refine xk ((1024 * i+min 1024 (D.length - 1024 * i):Nat):Int) (by omega) (by omega) (by omega) ?_
  refine qx (s:=.slc) (zm7 y D i) (z5r uS8 sz8 (by omega) (Nat.le_refl _) (by omega)) ?_
  refine ztt ((hY (List.range i) i w2 ⟨by simp,hil⟩ (hst _ _ _ hI (.new hsz hx02))).mono ?_)
  have hs2:W.heap.size≤w2.heap.size:=hx02.1
  rintro e W2 ⟨hK,⟨rfl,hI2⟩ | ⟨rfl,hJ2⟩⟩
  ·refine ⟨true,rfl,?_⟩
   refine jk rfl ?_
   have hb3:=hK.get hb2 hbl (fun h=>(hMM _ h).2 (by simp))
   have hc3:=hK.get hc2 hcl (fun h=>(hMM _ h).2 (by simp))
   refine jg (s:=.int .i64) (t:=(1024:Int)) rfl hc3 rfl ?_
   refine xk ((1024 * (i+1):Nat):Int) (by omega) (by omega) (by omega) ?_
   refine ⟨⟨i+1,rfl,by omega,?_,?_,hb3,hc3⟩,by omega⟩
   ·rw [List.range_succ];exact hI2
   ·exact Nat.le_trans (Nat.le_trans hsz hs2) hK.1
  ·refine ⟨false,rfl,?_⟩
   exact vw rfl ⟨⟨_,rfl⟩,.inr hJ2⟩
 ·have hil:i=npm D:=by
   have:¬ i < npm D:=fun h=>by have:=z5c.1 h;omega
   omega
  refine ⟨⟨_,rfl⟩,.inl ⟨List.range (npm D),rfl,?_⟩⟩
  rw [← hil];exact hI
theorem qmf {w:World} {H:Heap} {y:Option Addr × Nat × Nat} {D:List UInt8} (hw:w.heap=H) (hy:y.2.1=D.length) (hcap:y.2.1≤y.2.2) (hD:D.length≤1099511627776) :
  qg P zbt #[.slice y.1 y.2.1 y.2.2,.int .i64 1024] w fun e w'=>∃ gv b c,e=.returned gv∧H.size≤b∧H.size≤c∧b < w'.heap.size∧c < w'.heap.size∧Ext [] H w'.heap ∧
   qnl P gv (fun ys=>ys=List.range (npm D)) (fun pre j=>j=pre.length∧j < npm D) (fun j=>#[zck (zm7 y D j)]) [b,c] w':=by
 refine zfr ?_
 unfold zcs
 refine jw hw fun w1 hw1=>?_
 have hx1:Ext [] H w1.heap:=by rw [hw1];exact .push _
 have hb1:w1.heap[H.size]?=some (.cells #[zck y] zk (0,0)):=by rw [hw1];exact zo
 refine jw rfl fun w2 hw2=>?_
 have hx2:Ext [] w1.heap w2.heap:=by rw [hw2];exact .push _
 have hc2:w2.heap[w1.heap.size]?=some (.cells #[.int .i64 1024] zds (0,0)):=by rw [hw2];exact zo
 have hb2:=hx2.get hb1 (by simp)
 refine zab ?_
 refine jg (s:=.int .i64) (t:=(1024:Int)) rfl hc2 rfl ?_
 refine jk rfl ?_
 refine qx (s:=.any) (.func (.func za2) #[] #[.pointer (some ⟨H.size,0,none⟩),.pointer (some ⟨w1.heap.size,0,none⟩)]) (by simp [Instr.makeFunc];rfl) ?_
 have hs1:=hx1.1
 exact ⟨_,H.size,w1.heap.size,rfl,Nat.le_refl _,hs1,lt_of_get hb2,lt_of_get hc2,hx1.trans hx2,qgt rfl hb2 hc2 hy hcap hD⟩
theorem qfv {f g:Fil}:f=g ↔ f.path=g.path∧f.dir=g.dir∧f.data=g.data:=by
 cases f;cases g;simp
theorem qpm {f g:Fil} {w:World}:(Op.equalIn 10000 zl (.agg (zbf f).toArray) (.agg (zbf g).toArray)).run P w=.ok (decide (f=g)) w:=by
 rw [run_equalIn_agg w 9999 zl _ _ uFl qpu]
 have hf:=fFl
 generalize (P.fieldsOf zl).toList=fs at hf
 have hl:fs.length=3:=by simpa using congrArg List.length hf
 obtain ⟨f0,f1,f2,rfl⟩:∃ a b c,fs=[a,b,c]:=by
  match fs,hl with
  | [a,b,c],_=>exact ⟨a,b,c,rfl⟩
 simp only [List.map_cons,List.map_nil,List.cons.injEq,Prod.mk.injEq,and_true] at hf
 obtain ⟨⟨n0,t0,o0⟩,⟨n1,t1,o1⟩,n2,t2,o2⟩:=hf
 have e0:∀ (f:Fil) w,(part f0.type (zbf f).toArray f0.offset).run P w=.ok (.string (strOf f.path)) w:=fun f w=>by rw [t0,o0];exact qha (by kernel_rfl) rfl
 have e1:∀ (f:Fil) w,(part f1.type (zbf f).toArray f1.offset).run P w=.ok (.bool f.dir) w:=fun f w=>by rw [t1,o1];exact qha (by kernel_rfl) rfl
 have e2:∀ (f:Fil) w,(part f2.type (zbf f).toArray f2.offset).run P w=.ok (.string (strOf f.data)) w:=fun f w=>by rw [t2,o2];exact qha (by kernel_rfl) rfl
 have q0:(Op.equalIn 9999 f0.type (.string (strOf f.path)) (.string (strOf g.path))).run P w=.ok (decide (f.path=g.path)) w:=by rw [t0,run_equalIn_string w 9998 _ _ _ zwa,zaj,zaj,qmg]
 have q1:(Op.equalIn 9999 f1.type (.bool f.dir) (.bool g.dir)).run P w=.ok (decide (f.dir=g.dir)) w:=by rw [t1,run_equalIn_bool' w 9998 _ _ _ qjz];congr 1
 have q2:(Op.equalIn 9999 f2.type (.string (strOf f.data)) (.string (strOf g.data))).run P w=.ok (decide (f.data=g.data)) w:=by rw [t2,run_equalIn_string w 9998 _ _ _ zwa,zaj,zaj,qmg]
 have fin:∀ {b:Bool},(Op.eqFields 9999 (zbf f).toArray (zbf g).toArray [f0,f1,f2]).run P w=.ok b w→b=decide (f=g)→(Op.eqFields 9999 (zbf f).toArray (zbf g).toArray [f0,f1,f2]).run P w=.ok (decide (f=g)) w:=fun h e=>by rw [h,e]
 by_cases h0:f.path=g.path
 ·rw [decide_eq_true h0] at q0
  by_cases h1:f.dir=g.dir
  ·rw [decide_eq_true h1] at q1
   by_cases h2:f.data=g.data
   ·rw [decide_eq_true h2] at q2
    refine fin (b:=true) ?_ (by simp [qfv,h0,h1,h2])
    simp only [Op.eqFields,n0,n1,n2,ne_eq,String.reduceEq,not_false_eq_true,if_true,Sem.run_bind,e0,e1,e2,Result.andThen_ok,q0,q1,q2,Bool.not_true,Bool.false_eq_true,if_false,Sem.run_pure]
   ·rw [decide_eq_false h2] at q2
    refine fin (b:=false) ?_ (by simp [qfv,h2])
    simp only [Op.eqFields,n0,n1,n2,ne_eq,String.reduceEq,not_false_eq_true,if_true,Sem.run_bind,e0,e1,e2,Result.andThen_ok,q0,q1,q2,Bool.not_true,Bool.not_false,Bool.false_eq_true,if_false,Sem.run_pure]
  ·rw [decide_eq_false h1] at q1
   refine fin (b:=false) ?_ (by simp [qfv,h1])
   simp only [Op.eqFields,n0,n1,n2,ne_eq,String.reduceEq,not_false_eq_true,if_true,Sem.run_bind,e0,e1,e2,Result.andThen_ok,q0,q1,Bool.not_true,Bool.not_false,Bool.false_eq_true,if_false,Sem.run_pure]
 ·rw [decide_eq_false h0] at q0
  refine fin (b:=false) ?_ (by simp [qfv,h0])
  simp only [Op.eqFields,n0,n1,n2,ne_eq,String.reduceEq,not_false_eq_true,if_true,Sem.run_bind,e0,e1,e2,Result.andThen_ok,q0,Bool.not_false,Bool.false_eq_true,if_false,Sem.run_pure]
theorem qnc {x y:Operand} {f g:Fil} {w:World}:(eqM .neq zl x y (.agg (zbf f).toArray) (.agg (zbf g).toArray)).run P w=.ok (.bool (!decide (f=g))) w:=by
 simp only [eqM,Sem.run_bind,run_eqGuard_agg w .neq zl x y _ _ qnd,Result.andThen_ok,run_neq_struct w,qpm]
theorem qlw {f:Fil} {c:Array Value} {o:Nat} (hs:o+3≤c.size) (hc:∀ j,j < 3→c[o+j]?=(zbf f)[j]?):c.extract o (o+3)=(zbf f).toArray:=by
 apply Array.ext_getElem?
 intro j
 rw [Array.getElem?_extract]
 by_cases hj:j < 3
 ·rw [if_pos (by omega),hc j hj];simp
 ·rw [if_neg (by omega),Array.getElem?_eq_none (by simp [zba];omega)]
theorem qk9 {w:World} {H:Heap} {a b:Option Addr} {n nc m mc:Nat} {L M:List Fil} (hw:w.heap=H) (hA:Cells H a (L.flatMap zbf)) (hn:n=L.length) (hB:Cells H b (M.flatMap zbf)) (hm:m=M.length) (hL:L.length≤1099511627776) :
  qg P zlm #[.slice a n nc,.slice b m mc] w fun e w'=>e=.returned (.bool (decide (L=M)))∧w'.heap=H:=by
 subst hn hm
 refine zxs ?_
 unfold zpz
 refine zam (fun h=>⟨by rw [decide_eq_false (fun e=>h (by rw [e]))],hw⟩) (fun h=>?_)
 have h:L.length=M.length:=by omega
 refine jd (fun (s:Int) W=>∃ i:Nat,s=(i:Int)∧i≤L.length∧L.take i=M.take i∧W.heap=H) (fun s _=>(L.length - s).toNat) ⟨0,rfl,Nat.zero_le _,by simp,hw⟩ ?_
 rintro _ W ⟨i,rfl,hi,ht,hW⟩
 refine zq (fun hlt=>?_) (fun hge=>?_)
 ·have hil:i < L.length:=by omega
  have hget:=List.getElem?_eq_getElem hil
  have hget2:=List.getElem?_eq_getElem (show i < M.length by omega)
  generalize L[i]=f at hget
  generalize M[i]=g at hget2
  refine jq hW fun W1 hW1=>?_
  refine Bl.zb8 (i:=i) zba (by omega) hA rfl hget rfl fun ba oa ca Ta fra _ hba hsa hca _=>?_
  refine Bl.zb8 (i:=i) zba (by omega) hB rfl hget2 rfl fun b2 o2 c2 T2 fr2 _ hb2 hs2 hc2 _=>?_
  refine zmy hW1 hba hsa ?_
  rw [qlw hsa hca]
  refine zmy hW1 hb2 hs2 ?_
  rw [qlw hs2 hc2]
  refine qx (s:=.bool) (!decide (f=g)) qnc ?_
  by_cases e:f=g
  ·refine jk (by simp [e]) ?_
   refine xk ((i+1:Nat):Int) (by simp) (by omega) (by omega) ?_
   exact ⟨⟨i+1,rfl,by omega,by rw [List.take_add_one,List.take_add_one,ht,hget,hget2,e],hW1⟩,by omega⟩
  ·refine vw (by simp [e]) ⟨?_,hW1⟩
   rw [decide_eq_false fun h0=>e ?_]
   rw [h0,hget2] at hget
   exact (Option.some.inj hget).symm
 ·rw [List.take_of_length_le (by omega),List.take_of_length_le (by omega)] at ht
  exact ⟨by rw [decide_eq_true ht],hW⟩
def qgu (j:Nat):List UInt8:=[47,112,UInt8.ofNat (48+j / 10),UInt8.ofNat (48+j % 10)]
def z8h (S:List UInt8) (k:Nat):List Fil:=(List.range k).map fun j=>⟨qgu j,false,zj9 S j⟩
def zl6 (S:List UInt8):List Fil:=z8h S (npm S)
theorem z5m {S:List UInt8} {k:Nat}:z8h S (k+1)=z8h S k++[⟨qgu k,false,zj9 S k⟩]:=by simp [z8h,List.range_succ]
theorem zrf {S:List UInt8} {k:Nat}:(z8h S k).length=k:=by simp [z8h]
theorem zze {S:List UInt8}:(zl6 S).length=npm S:=zrf
theorem qgx {S:List UInt8}:∀ f ∈ zl6 S,f.dir=false∧f.data.length≤1024:=by
 intro f hf
 obtain ⟨j,_,rfl⟩:=List.mem_map.1 hf
 exact ⟨rfl,by rw [zr9];omega⟩
def zcy (L:List Fil):List UInt8:=L.flatMap (·.data)
theorem enc1 {n:Nat} (h:n < 128):Utf8.encode (n:Int)=strOf [UInt8.ofNat n]:=by
 unfold Utf8.encode
 have hv:Utf8.valid (n:Int)=true:=by unfold Utf8.valid;simp;left;omega
 simp only [hv,if_true,Int.toNat_natCast,h]
 rfl
theorem qni {a:Int} {K:Int→Prop} (h1:0≤a) (h2:a < 2147483648) (hK:K a):cvI .i32 a K:=by
 refine ⟨a,?_,hK⟩
 have hm:a % 4294967296=a:=by omega
 unfold IntKind.wrap
 simp [IntKind.bits,IntKind.signed,hm]
 omega
theorem zsv {w:World} {i:Nat} (hi:i < 800):qg P zua #[.int .i64 (i:Int)] w fun e w'=>e=.returned (.string (strOf (qgu i)))∧w'=w:=by
 refine qcg ?_
 unfold zt4
 refine z0n i 10 rfl rfl (by omega) (by omega) ?_
 refine xk ((48+i / 10:Nat):Int) (by omega) (by omega) (by omega) ?_
 refine qni (by omega) (by omega) ?_
 refine zae (s:=.str) (strOf [UInt8.ofNat (48+i / 10)]) w (by rw [run_convert_int_string w z6w qc .i32 _ (by kernel_rfl) zwa,enc1 (by omega)];rfl) ?_
 refine zx1 (A:=[47,112]) (by simp) ?_
 refine z4z i 10 rfl rfl (by omega) ?_
 refine xk ((48+i % 10:Nat):Int) (by omega) (by omega) (by omega) ?_
 refine qni (by omega) (by omega) ?_
 refine zae (s:=.str) (strOf [UInt8.ofNat (48+i % 10)]) w (by rw [run_convert_int_string w z6w qc .i32 _ (by kernel_rfl) zwa,enc1 (by omega)];rfl) ?_
 refine zx1 (by simp) ?_
 exact ⟨rfl,rfl⟩
theorem qnx (s d:ByteArray) (w:World):(Instr.build zl #[(0,.string s),(2,.string d)]).run P w=.ok (.agg #[.string s,.bool false,.string d]) w:=by kernel_rfl
theorem qsm:zc P zu=#[.slice none 0 0]:=by kernel_rfl
theorem qjg {w:World} {H:Heap} {B:Nat} {x:Option Addr × Nat × Nat} {T:List Fil} {i:Fil} {Q:World→Prop} (hw:w.heap=H) (hm:Mine H B zl 3 x (T.flatMap zbf)) (hBs:B≤H.size) (hlen:T.length≤1073741824) (hQ:∀ w',Ext [] H w'.heap→Q w') {K:(Option Addr × Nat × Nat)→World→Prop}
  (hK:∀ x' w',Mine w'.heap B zl 3 x' ((T++[i]).flatMap zbf)→Ext (jf x) H w'.heap→(∀ c ∈ jf x',c ∈ jf x ∨ H.size≤c)→K x' w') :
  zaf P (Instr.buildSlice zu 1 #[(0,.agg (zbf i).toArray)]) .slc w fun (t27:(Option Addr × Nat × Nat)) w_13=>Q w_13 ∧
  zaf P (Builtin.append_ #[zu,zu] zu #[(Value.slice x.1 x.2.1 x.2.2),(Value.slice t27.1 t27.2.1 t27.2.2)]) .slc w_13 K:=by
 have hlx:x.2.1=T.length:=by have:=hm.len;rw [z3l] at this;omega
 refine zae (s:=.slc) (some ⟨w.heap.size,0,none⟩,1,1) _ (zd7 EFi uFs (v:=.agg (zbf i).toArray) (by simp [Value.cells,zba]) (by omega) (by omega)) ?_
 subst hw
 have hxp:Ext [] w.heap (w.heap.push (.cells (Value.agg (zbf i).toArray).cells zl)):=.push _
 refine ⟨hQ _ hxp,?_⟩
 refine zcf (bts:=40) (n:=1) (us:=zbf i) (H:=w.heap.push (.cells (Value.agg (zbf i).toArray).cells zl)) EFi (by omega) uFs (za4 uFs) rfl (hm.ext hxp (by simp)) (by simp;omega)
  (Src.slc rfl (.inr ⟨w.heap.size,0,_,_,_,rfl,zo,by simp [ze5],by simp [ze5,List.take_of_length_le]⟩) (by rw [zba])) zva (by omega) ?_
 intro x' w4 hm4 hl4 hx4 hs4
 refine hK x' w4 (by rw [List.flatMap_append,List.flatMap_singleton];exact hm4) ((hxp.mono (by simp)).trans hx4) (fun c hc=>?_)
 rcases hs4 c hc with h | h
 ·exact .inl h
 ·right;have:=hxp.1;omega
set_option maxHeartbeats 8000000 in
theorem qfi {w:World} {H:Heap} {y:Option Addr × Nat × Nat} {S:List UInt8} (hw:w.heap=H) (hy:Cells H y.1 (byteCells S)) (hyl:y.2.1=S.length) (hyc:y.2.1≤y.2.2) (hS:npm S≤800) :
  qg P zmc #[.slice y.1 y.2.1 y.2.2] w fun e w'=>∃ x,e=.returned (zck x)∧Mine w'.heap H.size zl 3 x ((zl6 S).flatMap zbf)∧Ext [] H w'.heap:=by
 have hSl:S.length≤819200:=by unfold npm at hS;omega
 refine z7x ?_
 unfold zr1
 refine jw hw fun w1 hw1=>?_
 have hx1:Ext [] H w1.heap:=by rw [hw1];exact .push _
 have hb1:w1.heap[H.size]?=some (.cells #[zck (none,0,0)] zu (0,0)):=by rw [hw1,qsm];exact zo
 have s1:=lt_of_get hb1
 refine zn (qmf rfl hyl hyc (by omega)) ?_
 rintro e w2 ⟨gv,b,c,rfl,hbge,hcge,hblt,hclt,hx2,hseq⟩
 refine ⟨gv,rfl,?_⟩
 have s2:=hx2.1
 have hx02:=hx1.trans hx2
 have hb2:=hx2.get hb1 (by simp)
 have hy2:=hy.ext hx02 (by simp)
 refine qge (α:=Nat) (shs:=[.slc]) (tv:=zm7 y S) (fp:=[b,c]) hseq [H.size] (fun m hm=>by simp at hm;subst hm;exact ⟨by omega,by simp;omega⟩) (fun m hm=>by simp at hm;omega)
  (fun pre W=>∃ x,Ext [] H W.heap∧w2.heap.size≤W.heap.size∧W.heap[H.size]?=some (.cells #[zck x] zu (0,0))∧Mine W.heap w2.heap.size zl 3 x ((z8h S pre.length).flatMap zbf)∧Cells W.heap y.1 (byteCells S)∧pre.length≤npm S)
  (fun _=>False) (fun _ _=>False) ?_ (fun _ _ h _=>h.elim) (fun _ _ _ h _=>h.elim) ?_ ?_ ?_ (fun _ h=>h.elim) (fun _ _ h=>h.elim)
 ·rintro pre W W' ⟨x,h1,h2,h3,h4,h5,h6⟩ hBe
  exact ⟨x,hBe.ext (by omega) h1,Nat.le_trans h2 hBe.size,hBe.cells h3,hBe.mine h4,hBe.own h5,h6⟩
 ·exact ⟨(none,0,0),hx02,Nat.le_refl _,hb2,.inl ⟨rfl,rfl⟩,hy2,Nat.zero_le _⟩
 ·rintro pre k W ⟨rfl,hk⟩ ⟨x,h1,h2,h3,h4,h5,h6⟩ hsz beg kc kr kx hbeg
  refine hbeg W _ (.refl _ _) fun W2 hB2 hs2 hkc _ _=>?_
  have h1:=hB2.ext (show H.size≤w2.heap.size by omega) h1
  have h3:=hB2.cells h3
  have h4:=hB2.mine h4
  have h5:=hB2.own h5
  generalize hk2:pre.length=k at *
  have xlt:=zbg h4
  have hxl:x.2.1=k:=by have:=h4.len;rw [z3l,zrf] at this;omega
  refine jq rfl fun w5 hw5=>?_
  rw [← hw5] at h1 h3 h4 h5 hs2 hkc xlt
  have hpc:∀ {W':World},Ext [] w5.heap W'.heap→(convert zk qc (Value.slice (zm7 y S k).1 (zm7 y S k).2.1 (zm7 y S k).2.2)).run P W'=.ok (.string (strOf (zj9 S k))) W':=fun hx=>zph uS8 u8 zwa rfl (z9y (h5.ext hx (by simp)) hk) (by rw [zr9];unfold zm7;simp only;omega)
  refine jg (s:=.slc) (t:=x) rfl h3 rfl ?_
  refine jg (s:=.slc) (t:=x) rfl h3 rfl ?_
  refine qx (s:=.str) _ (hpc (.refl _ _)) ?_
  rw [hxl]
  refine zn (zsv (by omega)) ?_
  rintro e w6 ⟨rfl,rfl⟩
  refine ⟨strOf (qgu k),rfl,?_⟩
  have re:∀ {W':World},Ext [] w6.heap W'.heap→ld .slc (⟨H.size,0,none⟩:Addr) W' fun z=>Value.slice z.1 z.2.1 z.2.2=Value.slice x.1 x.2.1 x.2.2:=fun h=>jg (s:=.slc) (o:=0) (t:=x) (K:=fun z=>Value.slice z.1 z.2.1 z.2.2=Value.slice x.1 x.2.1 x.2.2) rfl (h.get h3 (by simp)) rfl rfl
  refine ⟨qx (s:=.str) _ (hpc (.refl _ _)) rfl,by rw [← hxl];exact re (.refl _ _),?_⟩
  refine qx (s:=.any) (.agg (zbf ⟨qgu k,false,zj9 S k⟩).toArray) (qnx _ _ _) ?_
  have hsW:w2.heap.size≤w6.heap.size:=by omega
  have h4':Mine w6.heap w2.heap.size zl 3 (x.1,k,x.2.2) ((z8h S k).flatMap zbf):=by rw [show (x.1,k,x.2.2)=x from by rw [← hxl]];exact h4
  refine qjg rfl h4' hsW (by rw [zrf];omega) (fun w' hx=>by rw [← hxl];exact re hx) fun x8 w8 hm8 hx8 hs8=>?_
  have hno:H.size ∉ jf x:=fun h=>by have:=jc h4 _ h;omega
  have h38:=hx8.get h3 hno
  refine zbp rfl h38 (by simp) fun w9 hw9=>?_
  have hx9:Ext [H.size] w8.heap w9.heap:=by rw [hw9];exact Ext.set _ (by simp)
  have s8:=hx8.1
  have s9:=hx9.1
  have hxA:Ext (H.size :: jf x) w6.heap w9.heap:=(hx8.mono fun m hm=>by simp;exact .inr hm).trans (hx9.mono fun m hm=>by simp at hm;simp [hm])
  have go:=jc h4
  refine hkc w9 (.of hxA (fun m hm=>?_) (fun m hm=>?_)) ⟨x8,?_,by omega,by rw [hw9];exact qp h38,?_,?_,by simp;omega⟩
  ·simp only [List.mem_cons] at hm
   rcases hm with rfl | hm
   ·left;simp
   ·right;exact ⟨go m hm,(xlt m hm).2⟩
  ·simp only [List.mem_singleton] at hm
   subst hm;omega
  ·exact h1.own hxA (fun m hm hlt=>by
    simp only [List.mem_cons] at hm
    rcases hm with rfl | hm
    ·omega
    ·have:=go m hm;omega)
  ·rw [List.length_append,List.length_singleton,hk2,z5m]
   exact hm8.ext hx9 (fun m hm h=>by simp at h;subst h;have:=jc hm8 _ hm;omega)
  ·refine h5.ext hxA fun a ha hne h=>?_
   rcases hy with h' | ⟨b',o',c',T',fr',ha',hb',_⟩
   ·exact hne (by rw [h'])
   ·rw [ha'] at ha
    simp only [Option.some.injEq] at ha
    subst ha
    have:=lt_of_get hb'
    simp only [List.mem_cons] at h
    rcases h with h | h
    ·omega
    ·have:=go _ h;omega
 ·rintro xs W rfl ⟨x,h1,h2,h3,h4,h5,h6⟩ hDf
  simp only [List.length_range] at h4
  refine jg (s:=.slc) (t:=x) rfl h3 rfl ?_
  refine ⟨hDf,fun w19 hw19=>?_⟩
  have hBs19:Beside w2.heap.size W w19:=by rw [hw19];exact .put (Nat.le_refl _) hDf (by intro _ _ _ h;cases h)
  exact ⟨x,rfl,(hBs19.mine h4).mono (by omega),hBs19.ext (by omega) h1⟩
theorem ss0 (w:World):(Instr.sliceAt qc (Value.string (ByteArray.mk #[48,49,50,51,52,53,54,55,56,57])) (some (Value.int .i64 0)) (some (Value.int .i64 1)) none).run P w=.ok (.string (ByteArray.mk #[48])) w:=by kernel_rfl
theorem ss1 (w:World):(Instr.sliceAt qc (Value.string (ByteArray.mk #[48,49,50,51,52,53,54,55,56,57])) (some (Value.int .i64 1)) (some (Value.int .i64 2)) none).run P w=.ok (.string (ByteArray.mk #[49])) w:=by kernel_rfl
theorem ss2 (w:World):(Instr.sliceAt qc (Value.string (ByteArray.mk #[48,49,50,51,52,53,54,55,56,57])) (some (Value.int .i64 2)) (some (Value.int .i64 3)) none).run P w=.ok (.string (ByteArray.mk #[50])) w:=by kernel_rfl
theorem ss3 (w:World):(Instr.sliceAt qc (Value.string (ByteArray.mk #[48,49,50,51,52,53,54,55,56,57])) (some (Value.int .i64 3)) (some (Value.int .i64 4)) none).run P w=.ok (.string (ByteArray.mk #[51])) w:=by kernel_rfl
theorem ss4 (w:World):(Instr.sliceAt qc (Value.string (ByteArray.mk #[48,49,50,51,52,53,54,55,56,57])) (some (Value.int .i64 4)) (some (Value.int .i64 5)) none).run P w=.ok (.string (ByteArray.mk #[52])) w:=by kernel_rfl
theorem ss5 (w:World):(Instr.sliceAt qc (Value.string (ByteArray.mk #[48,49,50,51,52,53,54,55,56,57])) (some (Value.int .i64 5)) (some (Value.int .i64 6)) none).run P w=.ok (.string (ByteArray.mk #[53])) w:=by kernel_rfl
theorem ss6 (w:World):(Instr.sliceAt qc (Value.string (ByteArray.mk #[48,49,50,51,52,53,54,55,56,57])) (some (Value.int .i64 6)) (some (Value.int .i64 7)) none).run P w=.ok (.string (ByteArray.mk #[54])) w:=by kernel_rfl
theorem ss7 (w:World):(Instr.sliceAt qc (Value.string (ByteArray.mk #[48,49,50,51,52,53,54,55,56,57])) (some (Value.int .i64 7)) (some (Value.int .i64 8)) none).run P w=.ok (.string (ByteArray.mk #[55])) w:=by kernel_rfl
theorem ss8 (w:World):(Instr.sliceAt qc (Value.string (ByteArray.mk #[48,49,50,51,52,53,54,55,56,57])) (some (Value.int .i64 8)) (some (Value.int .i64 9)) none).run P w=.ok (.string (ByteArray.mk #[56])) w:=by kernel_rfl
theorem ss9 (w:World):(Instr.sliceAt qc (Value.string (ByteArray.mk #[48,49,50,51,52,53,54,55,56,57])) (some (Value.int .i64 9)) (some (Value.int .i64 10)) none).run P w=.ok (.string (ByteArray.mk #[57])) w:=by kernel_rfl
theorem qfm {i:Nat} (hi:i < 10) (w:World):(Instr.sliceAt qc (Value.string (ByteArray.mk #[48,49,50,51,52,53,54,55,56,57])) (some (Value.int .i64 (i:Int))) (some (Value.int .i64 ((i+1:Nat):Int))) none).run P w=.ok (.string (strOf [UInt8.ofNat (48+i)])) w:=by
 match i,hi with
 | 0,_=>exact ss0 w
 | 1,_=>exact ss1 w
 | 2,_=>exact ss2 w
 | 3,_=>exact ss3 w
 | 4,_=>exact ss4 w
 | 5,_=>exact ss5 w
 | 6,_=>exact ss6 w
 | 7,_=>exact ss7 w
 | 8,_=>exact ss8 w
 | 9,_=>exact ss9 w
set_option maxHeartbeats 4000000 in
theorem qim {w:World} {H:Heap} {y:Option Addr × Nat × Nat} {S:List UInt8} (hw:w.heap=H) (hy:Cells H y.1 (byteCells S)) (hyl:y.2.1=S.length) (hyc:y.2.1≤y.2.2) (hS:npm S≤100) :
  qg P ztd #[.slice y.1 y.2.1 y.2.2] w fun e w'=>∃ x,e=.returned (zck x)∧Mine w'.heap H.size zl 3 x ((zl6 S).flatMap zbf)∧Ext [] H w'.heap:=by
 have hSl:S.length≤102400:=by unfold npm at hS;omega
 refine qaq ?_
 unfold zs7
 refine jd (fun (s:(Option Addr × Nat × Nat) × Int) W=>∃ k:Nat,s.2=((1024 * k:Nat):Int)∧k≤npm S∧Mine W.heap H.size zl 3 s.1 ((z8h S k).flatMap zbf)∧Ext [] H W.heap) (fun s _=>(S.length+1024 - s.2).toNat)
  ⟨0,rfl,Nat.zero_le _,.inl ⟨rfl,rfl⟩,by rw [hw];exact .refl _ _⟩ ?_
 rintro ⟨x,_⟩ W ⟨k,rfl,hk,hm,hx⟩
 simp only at hm
 have hxl:x.2.1=k:=by have:=hm.len;rw [z3l,zrf] at this;omega
 refine zq (fun hlt=>?_) (fun hge=>?_)
 ·have hlt:1024 * k < S.length:=by simp only at hlt;omega
  have hkl:=z5c.2 hlt
  refine jq rfl fun w2 hw2=>?_
  rw [← hw2] at hm hx
  refine z0n k 10 (by simp only [hxl]) rfl (by omega) (by omega) ?_
  refine z0n k 10 (by simp only [hxl]) rfl (by omega) (by omega) ?_
  refine xk ((k / 10+1:Nat):Int) (by omega) (by omega) (by omega) ?_
  refine z4z k 10 (by simp only [hxl]) rfl (by omega) ?_
  refine z4z k 10 (by simp only [hxl]) rfl (by omega) ?_
  refine xk ((k % 10+1:Nat):Int) (by omega) (by omega) (by omega) ?_
  refine xk ((1024 * (k+1):Nat):Int) (by simp only;omega) (by omega) (by omega) ?_
  refine qx (s:=.str) _ (qfm (i:=k / 10) (by omega) _) ?_
  refine zx1 (A:=[47,112]) (by simp) ?_
  refine qx (s:=.str) _ (qfm (i:=k % 10) (by omega) _) ?_
  refine zx1 (by simp) ?_
  refine qx (s:=.int .i64) ((min S.length (1024 * (k+1)):Nat):Int) (by
   rw [run_min_int2]
   refine congrArg (fun z=>Result.ok (Value.int .i64 z) _) ?_
   rw [hyl]
   split <;> omega) ?_
  have hlen:min S.length (1024 * (k+1)) - 1024 * k=(zj9 S k).length:=by rw [zr9];omega
  refine qx (s:=.slc) (if y.2.2=1024 * k then y.1 else y.1.map (·.add (1024 * k * 1)),min S.length (1024 * (k+1)) - 1024 * k,y.2.2 - 1024 * k) (zaw (a:=y.1) (len:=y.2.1) (cap:=y.2.2) (l:=1024 * k) (h:=min S.length (1024 * (k+1))) uS8 sz8 (.yes rfl) (.yes rfl) (by omega) (by omega)) ?_
  have hpc:Cells w2.heap (if y.2.2=1024 * k then y.1 else y.1.map (·.add (1024 * k * 1))) (byteCells (zj9 S k)):=by
   have h1:=(hy.ext hx (by simp)).part (1024 * k) (zj9 S k).length (by rw [zr9];simp;omega)
   rw [zga,ze9] at h1
   have h2:(S.drop (1024 * k)).take (zj9 S k).length=zj9 S k:=by
    unfold zj9
    rw [List.length_take]
    by_cases h:1024≤(S.drop (1024 * k)).length
    ·rw [Nat.min_eq_left h]
    ·rw [Nat.min_eq_right (by omega),List.take_length,List.take_of_length_le (by omega)]
   rw [h2] at h1
   rw [if_neg (by omega),Nat.mul_one]
   exact h1
  refine qx (s:=.str) _ (zph uS8 u8 zwa rfl hpc hlen) ?_
  refine qx (s:=.any) (.agg (zbf ⟨qgu k,false,zj9 S k⟩).toArray) (qnx _ _ _) ?_
  refine z6d rfl hm hx.1 (by rw [zrf];omega) fun x8 w8 hm8 hx8 hs8=>?_
  refine xk ((1024 * (k+1):Nat):Int) (by simp only;omega) (by omega) (by omega) ?_
  have go:=jc hm
  exact ⟨⟨k+1,rfl,by omega,by rw [z5m];exact hm8,hx.own hx8 (fun c hc hlt=>by have:=go c hc;omega)⟩,by simp only;omega⟩
 ·have hk2:k=npm S:=by
   have:¬ k < npm S:=fun h=>by have:=z5c.1 h;simp only at hge;omega
   omega
  subst hk2
  exact ⟨x,rfl,hm,hx⟩
theorem qm2 {w:World} {H:Heap} {a b:Option Addr} {n nc m mc:Nat} {L M:List Fil} (hw:w.heap=H) (hA:Cells H a (L.flatMap zbf)) (hn:n=L.length) (hB:Cells H b (M.flatMap zbf)) (hm:m=M.length) (hL:L.length≤1099511627776) :
  qg P zb6 #[.slice a n nc,.slice b m mc] w fun e w'=>e=.returned (.bool (decide (L=M)))∧w'.heap=H:=by
 subst hn hm
 refine zgr ?_
 unfold zb7
 refine zam (fun h=>⟨by rw [decide_eq_false (fun e=>h (by rw [e]))],hw⟩) (fun h=>?_)
 have h:L.length=M.length:=by omega
 refine jd (fun (s:Int) W=>∃ i:Nat,s=(i:Int)∧i≤L.length∧L.take i=M.take i∧W.heap=H) (fun s _=>(L.length - s).toNat) ⟨0,rfl,Nat.zero_le _,by simp,hw⟩ ?_
 rintro _ W ⟨i,rfl,hi,ht,hW⟩
 refine zq (fun hlt=>?_) (fun hge=>?_)
 ·have hil:i < L.length:=by omega
  have hget:=List.getElem?_eq_getElem hil
  have hget2:=List.getElem?_eq_getElem (show i < M.length by omega)
  generalize L[i]=f at hget
  generalize M[i]=g at hget2
  refine jq hW fun W1 hW1=>?_
  refine Bl.zb8 (i:=i) zba (by omega) hA rfl hget rfl fun ba oa ca Ta fra _ hba hsa hca _=>?_
  refine Bl.zb8 (i:=i) zba (by omega) hB rfl hget2 rfl fun b2 o2 c2 T2 fr2 _ hb2 hs2 hc2 _=>?_
  refine zmy hW1 hba hsa ?_
  rw [qlw hsa hca]
  refine zmy hW1 hb2 hs2 ?_
  rw [qlw hs2 hc2]
  refine qx (s:=.bool) (!decide (f=g)) qnc ?_
  by_cases e:f=g
  ·refine jk (by simp [e]) ?_
   refine xk ((i+1:Nat):Int) (by simp) (by omega) (by omega) ?_
   exact ⟨⟨i+1,rfl,by omega,by rw [List.take_add_one,List.take_add_one,ht,hget,hget2,e],hW1⟩,by omega⟩
  ·refine vw (by simp [e]) ⟨?_,hW1⟩
   rw [decide_eq_false fun h0=>e ?_]
   rw [h0,hget2] at hget
   exact (Option.some.inj hget).symm
 ·rw [List.take_of_length_le (by omega),List.take_of_length_le (by omega)] at ht
  exact ⟨by rw [decide_eq_true ht],hW⟩
noncomputable def zpx (S:List UInt8):Int:=if 65536 < S.length then 2 else zc0 (zl6 S)
def zgk (r:Bl.SM) (root:List UInt8):List UInt8 × Int :=
 if (zd1 r root).2 ≠ 0 then ([],(zd1 r root).2) else if zl6 (zcy (zd1 r root).1)=(zd1 r root).1 then (zcy (zd1 r root).1,0) else ([],21)
theorem qee {r s:Bl.SM} (h:∀ k,Bl.zaq r k=Bl.zaq s k) (root:List UInt8):zgk r root=zgk s root:=by
 unfold zgk;rw [qi0 h]
theorem qde {r:Bl.SM} {root:List UInt8} (h0:(zd1 r root).2=0) (h:65536 < (zcy (zd1 r root).1).length):zl6 (zcy (zd1 r root).1) ≠ (zd1 r root).1:=by
 intro e
 have hd:∀ f ∈ (zd1 r root).1,f.dir=false∧f.data.length≤1024:=by
  rw [← e];exact qgx
 have h1:=qj1 h0 fun f hf=>(hd f hf).1
 have h2:=zug (L:=(zd1 r root).1) (n:=1024) fun f hf=>(hd f hf).2
 unfold zcy at h
 have:1024 * (zd1 r root).1.length≤1024 * 64:=Nat.mul_le_mul_left _ h1
 omega
theorem zxt {L:List Fil} {i:Nat} {f:Fil} (h:L[i]?=some f):zcy (L.take (i+1))=zcy (L.take i)++f.data:=by
 unfold zcy
 rw [List.take_add_one,h]
 simp
theorem zok {L:List Fil} (h:zqk L) (i:Nat):(zcy (L.take i)).length≤524800:=by
 have h1:=zug (L:=L.take i) (n:=1025) fun f hf=>h.1 f (List.mem_of_mem_take hf)
 have h2:=h.2
 have h3:(L.take i).length≤512:=by simp;omega
 have:1025 * (L.take i).length≤1025 * 512:=Nat.mul_le_mul_left _ h3
 unfold zcy
 omega
set_option maxHeartbeats 4000000 in
theorem qqq {w:World} {H:Heap} {fp:List Nat} {p:Nat} {q:Int} {r:Bl.SM} {c:Nat} {y:Option Addr × Nat × Nat} {S:List UInt8} (hw:w.heap=H) (hS:Bl.Store H fp p q r c) (hfp:∀ b ∈ fp,b < H.size) (hRo:Bl.Rounds H) (h0:0 ∉ fp)
  (hy:Cells H y.1 (byteCells S)) (hyl:y.2.1=S.length) (hyc:y.2.1≤y.2.2) (hb:Bl.total r < 1000000000000) (hq:0≤q) (hq2:q≤9223372036854775807) (hlen:∀ k L,Bl.zaq r k=some L→L.length < 1099511627776) :
  qg P zul #[.pointer (some ⟨p,0,none⟩),.slice y.1 y.2.1 y.2.2] w fun e w'=>∃ code d r' c' fp',e=.returned (.tuple #[arr d,.int .i64 code])∧d.length=32∧Bl.Store w'.heap fp' p q r' c'∧Ext fp H w'.heap∧(∀ b ∈ fp',b < w'.heap.size)∧(∀ b ∈ fp',b ∈ fp ∨ H.size≤b) ∧
   z0y (zpx S) q r (zl3 (zl6 S)) code d r'∧Bl.total r'≤Bl.total r+4096 * (1+18 * 64):=by
 refine qca ?_
 unfold ztx
 refine jw hw fun w1 hw1=>?_
 have hx1:Ext [] H w1.heap:=by rw [hw1];exact .push _
 have hd1:w1.heap[H.size]?=some (.cells (zc P zf) zf (0,0)):=by rw [hw1];exact zo
 have s1:=lt_of_get hd1
 refine jk rfl ?_
 refine zq (fun h=>?_) (fun h=>?_)
 ·refine zsg rfl hd1 fun w2 hx2=>?_
  have hx02:Ext [] H w2.heap:=hx1.own hx2 fun c hc hlt=>by simp at hc;omega
  have hcode:zpx S=2:=by unfold zpx;rw [if_pos (by omega)]
  refine ⟨2,Bl.nought,r,c,fp,rfl,Bl.zeq,hS.ext hx02 (by simp),hx02.mono (by simp),fun b hb=>by have:=hfp b hb;have:=hx02.1;omega,fun b hb=>.inl hb,?_,by omega⟩
  rw [hcode]
  exact ⟨fun _=>⟨rfl,rfl,rfl⟩,fun h=>by cases h⟩
 have hcode:zpx S=zc0 (zl6 S):=by unfold zpx;rw [if_neg (by omega)]
 have hn:npm S≤64:=by unfold npm;omega
 refine zn (qfi rfl (hy.ext hx1 (by simp)) hyl hyc (by omega)) ?_
 rintro e w4 ⟨x,rfl,hm4,hx4⟩
 refine ⟨x,rfl,?_⟩
 have hxl:x.2.1=(zl6 S).length:=by have:=hm4.len;rw [z3l] at this;omega
 have hx04:=hx1.trans hx4
 have hfl:(zl6 S).length≤64:=by rw [zze];exact hn
 refine zn (qf2 (L:=zl6 S) rfl (hS.ext hx04 (by simp)) (fun b hb=>by have:=hfp b hb;have:=hx04.1;omega) (hRo.ext hx04 (by simp)) h0 hm4.cells hxl (by omega) hb hq hq2 hlen) ?_
 rintro e w5 ⟨code,d,r',c',fp',rfl,hd,hS5,hx5,hf5a,hf5b,hP,ht⟩
 refine ⟨(arr d,code),rfl,?_⟩
 have hno:H.size ∉ fp:=fun h=>by have:=hfp _ h;omega
 have s4:=hx4.1
 have hd5:=hx5.get (hx4.get hd1 (by simp)) hno
 refine z9a hd rfl hd5 zcD fun w6 hw6=>?_
 have hx6:Ext [H.size] w5.heap w6.heap:=by rw [hw6];exact Ext.set _ (by simp)
 have hd6:w6.heap[H.size]?=some (.cells (byteCells d).toArray zf (0,0)):=by rw [hw6];exact qp hd5
 refine je rfl hd6 (by simp [hd]) ?_
 have hno':H.size ∉ fp':=fun h=>by
  rcases hf5b _ h with h | h
  ·exact hno h
  ·omega
 refine ⟨code,d,r',c',fp',rfl,hd,hS5.ext hx6 (fun b hb h=>by simp at h;subst h;exact hno' hb),?_,fun b hb=>by have:=hf5a b hb;have:=hx6.1;omega,fun b hb=>?_,by rw [hcode];exact hP,?_⟩
 ·exact ((hx04.mono (by simp)).trans hx5).own hx6 (fun c hc hlt=>by simp at hc;omega)
 ·rcases hf5b b hb with h | h
  ·exact .inl h
  ·right;have:=hx04.1;omega
 ·omega
set_option maxHeartbeats 4000000 in
theorem qfd {w:World} {H:Heap} {fp:List Nat} {p:Nat} {q:Int} {r:Bl.SM} {c:Nat} {root:List UInt8} (hw:w.heap=H) (hS:Bl.Store H fp p q r c) (hR:Bl.Rounds H) (hfp:∀ b ∈ fp,b < H.size) (h32:root.length=32) (hlen:∀ k L,Bl.zaq r k=some L→L.length < 1099511627776) :
  qg P zkm #[.pointer (some ⟨p,0,none⟩),arr root] w fun e w'=>∃ y,e=.returned (.tuple #[zck y,.int .i64 (zgk r root).2])∧Cells w'.heap y.1 (byteCells (zgk r root).1)∧y.2.1=(zgk r root).1.length∧Ext [] H w'.heap:=by
 refine z3r ?_
 unfold zox
 rw [show (arr root).cells=(byteCells root).toArray from rfl]
 refine jw hw fun w1 hw1=>?_
 have hx1:Ext [] H w1.heap:=by rw [hw1];exact .push _
 have hb1:w1.heap[H.size]?=some (.cells (byteCells root).toArray zf (0,0)):=by rw [hw1];exact zo
 refine je rfl hb1 (by simp [h32]) ?_
 refine zn (qjk (root:=root) rfl (hS.ext hx1 (by simp)) (hR.ext hx1 (by simp)) (fun b hb=>by have:=hfp b hb;have:=hx1.1;omega) h32 hlen) ?_
 rintro e w2 ⟨x,rfl,hx2,hres⟩
 refine ⟨(x,(zd1 r root).2),rfl,?_⟩
 have hsm:=zzl (r:=r) (root:=root)
 have hv:zgk r root=if (zd1 r root).2 ≠ 0 then ([],(zd1 r root).2) else if zl6 (zcy (zd1 r root).1)=(zd1 r root).1 then (zcy (zd1 r root).1,0) else ([],21):=rfl
 rw [hv]
 generalize zd1 r root=V at *
 have hx02:=hx1.trans hx2
 refine zam (fun h=>?_) (fun h=>?_)
 ·have h:V.2 ≠ 0:=h
  rw [if_pos h]
  exact ⟨(none,0,0),rfl,.inl rfl,rfl,hx02⟩
 have h:V.2=0:=h
 rw [if_neg (by simpa using h)]
 have hm2:=hres h
 have hxl:x.2.1=V.1.length:=by have:=hm2.len;rw [z3l] at this;omega
 have s2:=hx02.1
 have hl:=hsm.2
 refine jd (fun (s:(Option Addr × Nat × Nat) × Int) W=>∃ i:Nat,s.2=(i:Int)∧i≤V.1.length∧Ext [] w2.heap W.heap∧Mine W.heap w2.heap.size xu 1 s.1 (byteCells (zcy (V.1.take i)))) (fun s _=>(V.1.length - s.2).toNat)
  ⟨0,rfl,Nat.zero_le _,.refl _ _,.inl ⟨rfl,rfl⟩⟩ ?_
 rintro ⟨o,_⟩ W ⟨i,rfl,hi,hxW,hmo⟩
 simp only at hmo
 have hmW:=hm2.ext hxW (by simp)
 refine zq (fun hlt=>?_) (fun hge=>?_)
 ·have hil:i < V.1.length:=by simp only at hlt;omega
  have hget:=List.getElem?_eq_getElem hil
  have hdat:=hsm.1 _ (List.getElem_mem hil)
  generalize V.1[i]=f at hget hdat
  refine zgx (i:=i) zba (by omega) rfl hmW.cells hxl hget rfl ?_
  refine qr0 f rfl fun w5 hw5=>?_
  have hx5:Ext [] W.heap w5.heap:=by rw [hw5];exact .push _
  have hb5:w5.heap[W.heap.size]?=some (.cells (zbf f).toArray zl (0,0)):=by rw [hw5];exact zo
  refine jg (s:=.str) (t:=strOf f.data) rfl hb5 rfl ?_
  have hst:=zok hsm i
  have hW1:=hxW.1
  have h51:=hx5.1
  refine qoh rfl (hmo.ext hx5 (by simp)) (by omega) (by omega) fun x6 w6 hm6 hx6 hs6=>?_
  have go:=jc hmo
  refine xk ((i+1:Nat):Int) (by simp) (by omega) (by omega) ?_
  exact ⟨⟨i+1,rfl,by omega,(hxW.trans hx5).own hx6 (fun c hc hlt=>by have:=go c hc;omega),by rw [zxt hget];exact hm6⟩,by simp only;omega⟩
 ·obtain rfl:i=V.1.length:=by simp only at hge;omega
  rw [List.take_length] at hmo
  have hst:=zok hsm V.1.length
  rw [List.take_length] at hst
  have hol:o.2.1=(zcy V.1).length:=by have:=hmo.len;simp at this;omega
  refine zn (qfi rfl hmo.cells hol (zfl hmo) (by unfold npm;omega)) ?_
  rintro e w7 ⟨x7,rfl,hm7,hx7⟩
  refine ⟨x7,rfl,?_⟩
  have hx7l:x7.2.1=(zl6 (zcy V.1)).length:=by have:=hm7.len;rw [z3l] at this;omega
  refine zn (qm2 rfl hm7.cells hx7l (hmW.ext hx7 (by simp)).cells hxl (by rw [zze];unfold npm;omega)) ?_
  rintro e w8 ⟨rfl,hw8⟩
  refine ⟨decide (zl6 (zcy V.1)=V.1),rfl,?_⟩
  have hx08:Ext [] H w8.heap:=by rw [hw8];exact (hx02.trans hxW).trans hx7
  by_cases he:zl6 (zcy V.1)=V.1
  ·refine jk (by simp [he]) ?_
   rw [if_pos he]
   exact ⟨o,rfl,by rw [hw8];exact (hmo.ext hx7 (by simp)).cells,hol,hx08⟩
  ·refine vw (by simp [he]) ?_
   rw [if_neg he]
   exact ⟨(none,0,0),rfl,.inl rfl,rfl,hx08⟩
set_option maxHeartbeats 4000000 in
theorem qkx {w:World} {H:Heap} {fp:List Nat} {p:Nat} {q:Int} {r:Bl.SM} {root:List UInt8} (hw:w.heap=H) (hS:Bl.zdx H fp p q r) (hrn:r.length < 1099511627776) (h32:root.length=32) (hlen:∀ k L,Bl.zaq r k=some L→L.length < 1099511627776) :
  qg P zr3 #[.pointer (some ⟨p,0,none⟩),arr root] w fun e w'=>∃ y,e=.returned (.tuple #[zck y,.int .i64 (zgk r root).2])∧Cells w'.heap y.1 (byteCells (zgk r root).1)∧y.2.1=(zgk r root).1.length∧Ext [] H w'.heap:=by
 refine z7k ?_
 unfold zq5
 rw [show (arr root).cells=(byteCells root).toArray from rfl]
 refine jw hw fun w1 hw1=>?_
 have hx1:Ext [] H w1.heap:=by rw [hw1];exact .push _
 have hb1:w1.heap[H.size]?=some (.cells (byteCells root).toArray zf (0,0)):=by rw [hw1];exact zo
 refine je rfl hb1 (by simp [h32]) ?_
 refine zn (qml (root:=root) rfl (hS.ext hx1 (by simp)) hrn h32 hlen) ?_
 rintro e w2 ⟨x,rfl,hx2,hres⟩
 refine ⟨(x,(zd1 r root).2),rfl,?_⟩
 have hsm:=zzl (r:=r) (root:=root)
 have hlong:=qde (r:=r) (root:=root)
 have hv:zgk r root=if (zd1 r root).2 ≠ 0 then ([],(zd1 r root).2) else if zl6 (zcy (zd1 r root).1)=(zd1 r root).1 then (zcy (zd1 r root).1,0) else ([],21):=rfl
 rw [hv]
 generalize zd1 r root=V at *
 have hx02:=hx1.trans hx2
 refine zam (fun h=>?_) (fun h=>?_)
 ·have h:V.2 ≠ 0:=h
  rw [if_pos h]
  exact ⟨(none,0,0),rfl,.inl rfl,rfl,hx02⟩
 have h:V.2=0:=h
 rw [if_neg (by simpa using h)]
 have hm2:=hres h
 have hxl:x.2.1=V.1.length:=by have:=hm2.len;rw [z3l] at this;omega
 have s2:=hx02.1
 have hl:=hsm.2
 refine jd (fun (s:(Option Addr × Nat × Nat) × Int) W=>∃ i:Nat,s.2=(i:Int)∧i≤V.1.length∧Ext [] w2.heap W.heap∧Mine W.heap w2.heap.size xu 1 s.1 (byteCells (zcy (V.1.take i)))) (fun s _=>(V.1.length - s.2).toNat)
  ⟨0,rfl,Nat.zero_le _,.refl _ _,.inl ⟨rfl,rfl⟩⟩ ?_
 rintro ⟨o,_⟩ W ⟨i,rfl,hi,hxW,hmo⟩
 simp only at hmo
 have hmW:=hm2.ext hxW (by simp)
 refine zq (fun hlt=>?_) (fun hge=>?_)
 ·have hil:i < V.1.length:=by simp only at hlt;omega
  have hget:=List.getElem?_eq_getElem hil
  have hdat:=hsm.1 _ (List.getElem_mem hil)
  generalize V.1[i]=f at hget hdat
  refine Bl.zb8 (i:=i) zba (by omega) hmW.cells hxl hget rfl fun ba oa ca Ta fra _ hba hsa hca _=>?_
  simp only [jv]
  refine jg (s:=.str) (t:=strOf f.data) rfl hba (hca 2 (by omega)) ?_
  have hst:=zok hsm i
  have hW1:=hxW.1
  refine qoh rfl hmo (by omega) (by omega) fun x6 w6 hm6 hx6 hs6=>?_
  have go:=jc hmo
  refine xk ((i+1:Nat):Int) (by simp) (by omega) (by omega) ?_
  exact ⟨⟨i+1,rfl,by omega,hxW.own hx6 (fun c hc hlt=>by have:=go c hc;omega),by rw [zxt hget];exact hm6⟩,by omega⟩
 ·obtain rfl:i=V.1.length:=by simp only at hge;omega
  rw [List.take_length] at hmo
  have hol:o.2.1=(zcy V.1).length:=by have:=hmo.len;simp at this;omega
  refine Go.Fw.joinP_of (fun _ W'=>Ext [] W.heap W'.heap∧zl6 (zcy V.1)=V.1) ?_ ?_
  ·refine zq (fun h5=>?_) (fun h5=>?_)
   ·rw [if_neg (hlong h (by simp only at h5;omega))]
    exact ⟨(none,0,0),rfl,.inl rfl,rfl,hx02.trans hxW⟩
   have h5:(zcy V.1).length≤65536:=by simp only at h5;omega
   refine zn (qim rfl hmo.cells hol (zfl hmo) (by unfold npm;omega)) ?_
   rintro e w7 ⟨x7,rfl,hm7,hx7⟩
   refine ⟨x7,rfl,?_⟩
   have hx7l:x7.2.1=(zl6 (zcy V.1)).length:=by have:=hm7.len;rw [z3l] at this;omega
   refine zn (qk9 rfl hm7.cells hx7l (hmW.ext hx7 (by simp)).cells hxl (by rw [zze];unfold npm;omega)) ?_
   rintro e w8 ⟨rfl,hw8⟩
   refine ⟨decide (zl6 (zcy V.1)=V.1),rfl,?_⟩
   have hx8:Ext [] W.heap w8.heap:=by rw [hw8];exact hx7
   by_cases he:zl6 (zcy V.1)=V.1
   ·exact jk (by simp [he]) ⟨hx8,he⟩
   ·refine vw (by simp [he]) ?_
    rw [if_neg he]
    exact ⟨(none,0,0),rfl,.inl rfl,rfl,(hx02.trans hxW).trans hx8⟩
  ·rintro _ W' ⟨hx',he⟩
   rw [if_pos he]
   exact ⟨o,rfl,(hmo.ext hx' (by simp)).cells,hol,(hx02.trans hxW).trans hx'⟩
def fQ:Fil:=⟨[47,112,48,48],false,[115,116,97,116,101]⟩
theorem qsf:zb1 fQ.path=([[112,48,48]],0):=by decide +kernel
theorem nmQ:nm fQ=[[112,48,48]]:=by unfold nm;rw [qsf]
def LQ:List Fil:=[fQ]
theorem qrj:ziu LQ=[fQ]:=by decide +kernel
theorem qp5:za3 LQ=0:=by decide +kernel
theorem qsh:¬ z4b LQ:=by
 rintro ⟨i,hi,h⟩
 match i,hi with
 | 0,_=>simp [LQ,nmQ] at h
theorem qsi:¬ qkq LQ:=by
 rintro ⟨f,hf,h1,h2⟩
 simp only [LQ,List.mem_cons,List.not_mem_nil,or_false] at hf
 subst hf
 simp [nmQ] at h1
theorem qq8:¬ z2o LQ:=by
 rintro ⟨f,hf,g,hg,h1,h2⟩
 simp only [LQ,List.mem_cons,List.not_mem_nil,or_false] at hf hg
 subst hf hg
 simp [nmQ] at h1
theorem qs9:¬ qke LQ:=by
 rintro ⟨f,hf,h⟩
 have:(kids LQ (nm f).dropLast).length≤1:=List.length_filter_le _ _
 omega
theorem qsr:zc0 LQ=0:=by rw [qae qp5,qeo qsh qsi qq8 qs9]
def nCQ:Nod:=zmb [115,116,97,116,101]
def nFQ:Nod:=⟨2,[],5,[Sha.sum (zkl nCQ)],[]⟩
def nRQ:Nod:=⟨3,[],0,[],[⟨[112,48,48],2,Sha.sum (zkl nFQ)⟩]⟩
theorem qp6:zhp fQ.data=[zkl nCQ,zkl nFQ]∧ze1 fQ.data=Sha.sum (zkl nFQ):=⟨rfl,rfl⟩
theorem qrt:kids [fQ] []=[fQ]:=by decide +kernel
theorem qqr:zl3 LQ=([zkl nCQ,zkl nFQ,zkl nRQ],Sha.sum (zkl nRQ)):=by
 rw [zi7,qrj]
 rw [show (9:Nat)=8+1 from rfl,zcx,qrt,zk1,zhj]
 simp only [List.map_cons,List.map_nil,zq8,zh6,nmQ,show fQ.dir=false from rfl,Bool.false_eq_true,if_false,qp6.1,qp6.2,List.flatten_cons,List.flatten_nil,List.append_nil]
 rfl
def bCQ:List UInt8:=[1,5,115,116,97,116,101]
def bFQ:List UInt8:=[2,5,21,201,22,198,169,195,100,209,230,194,125,43,135,72,113,37,79,88,52,230,110,27,171,7,194,95,10,177,80,226,62,146]
def bRQ:List UInt8:=[3,1,3,112,48,48,2,251,45,54,166,55,165,183,140,212,224,16,66,238,255,15,97,184,51,86,250,170,194,238,48,196,248,74,250,31,39,229,172]
def dCQ:List UInt8:=[21,201,22,198,169,195,100,209,230,194,125,43,135,72,113,37,79,88,52,230,110,27,171,7,194,95,10,177,80,226,62,146]
def dFQ:List UInt8:=[251,45,54,166,55,165,183,140,212,224,16,66,238,255,15,97,184,51,86,250,170,194,238,48,196,248,74,250,31,39,229,172]
def dRQ:List UInt8:=[37,208,150,139,137,174,216,182,112,54,48,94,149,215,180,90,123,184,18,120,104,63,233,189,175,208,51,139,5,193,184,97]
theorem sCQ:Sha.sum bCQ=dCQ:=by rw [Sha.sum_eq];kernel_rfl
theorem sFQ:Sha.sum bFQ=dFQ:=by rw [Sha.sum_eq];kernel_rfl
theorem sRQ:Sha.sum bRQ=dRQ:=by rw [Sha.sum_eq];kernel_rfl
theorem eCQ:zkl nCQ=bCQ:=by kernel_rfl
theorem eFQ:zkl nFQ=bFQ:=by
 rw [show nFQ=⟨2,[],5,[dCQ],[]⟩ from by unfold nFQ;rw [eCQ,sCQ]];kernel_rfl
theorem eRQ:zkl nRQ=bRQ:=by
 rw [show nRQ=⟨3,[],0,[],[⟨[112,48,48],2,dFQ⟩]⟩ from by unfold nRQ;rw [eFQ,sFQ]];kernel_rfl
theorem qru:zl3 LQ=([bCQ,bFQ,bRQ],dRQ):=by rw [qqr,eCQ,eFQ,eRQ,sRQ]
theorem vCQ:zj8 bCQ=(⟨1,[115,116,97,116,101],0,[],[]⟩,0):=by kernel_rfl
theorem vFQ:zj8 bFQ=(⟨2,[],5,[dCQ],[]⟩,0):=by kernel_rfl
theorem vRQ:zj8 bRQ=(⟨3,[],0,[],[⟨[112,48,48],2,dFQ⟩]⟩,0):=by kernel_rfl
theorem qnk:Bl.fresh [bCQ,bFQ,bRQ]=[(dCQ,bCQ),(dFQ,bFQ),(dRQ,bRQ)]:=by
 have h1:(Bl.zv8 [] dCQ).isSome=false:=by decide +kernel
 have h2:(Bl.zv8 [(dCQ,bCQ)] dFQ).isSome=false:=by decide +kernel
 have h3:(Bl.zv8 [(dCQ,bCQ),(dFQ,bFQ)] dRQ).isSome=false:=by decide +kernel
 simp only [Bl.fresh,List.foldl_cons,List.foldl_nil,Bl.zw6,sCQ,sFQ,sRQ,h1,h2,h3,Bool.false_eq_true,if_false,List.nil_append,List.cons_append]
theorem qr4 {code:Int} {r':Bl.SM} (h:Bl.zz9 65536 [] [bCQ,bFQ,bRQ] code r'):code=0∧∀ k,Bl.zaq r' k=if k=dCQ then some bCQ else if k=dFQ then some bFQ else if k=dRQ then some bRQ else none:=by
 obtain ⟨_,_,h3⟩:=h
 have hl:¬ Bl.long [bCQ,bFQ,bRQ]:=by
  rintro ⟨L,hL,h⟩
  simp only [List.mem_cons,List.not_mem_nil,or_false] at hL
  rcases hL with rfl | rfl | rfl <;> revert h <;> decide +kernel
 have hx:¬ (65536:Int) < ((Bl.total []:Nat):Int)+((Bl.extra [] (Bl.fresh [bCQ,bFQ,bRQ]):Nat):Int):=by
  rw [qnk];decide +kernel
 obtain ⟨h0,hv⟩:=h3 hl hx
 rw [qnk] at hv
 refine ⟨h0,fun k=>?_⟩
 rw [hv]
 by_cases k1:k=dCQ
 ·subst k1;decide +kernel
 ·by_cases k2:k=dFQ
  ·subst k2;decide +kernel
  ·by_cases k3:k=dRQ
   ·subst k3;decide +kernel
   ·have g1:(dCQ == k)=false:=beq_eq_false_iff_ne.2 fun e=>k1 e.symm
    have g2:(dFQ == k)=false:=beq_eq_false_iff_ne.2 fun e=>k2 e.symm
    have g3:(dRQ == k)=false:=beq_eq_false_iff_ne.2 fun e=>k3 e.symm
    simp [Bl.zv8,List.find?_cons,g1,g2,g3,k1,k2,k3,Bl.z5h,Bl.zaq,zcu]
theorem qsj:dFQ ≠ dCQ:=by decide +kernel
theorem qsy:dRQ ≠ dCQ:=by decide +kernel
theorem qsp:dRQ ≠ dFQ:=by decide +kernel
theorem qqz {r:Bl.SM} (h1:Bl.zaq r dCQ=some bCQ) (h2:Bl.zaq r dFQ=some bFQ) (h3:Bl.zaq r dRQ=some bRQ):zd1 r dRQ=(LQ,0):=by
 have gC:=qn4 (kind:=1) h1 sCQ vCQ rfl
 have gF:=qn4 (kind:=2) h2 sFQ vFQ rfl
 have gR:=qn4 (kind:=3) h3 sRQ vRQ rfl
 have cF:zdr r ⟨2,[],5,[dCQ],[]⟩=([115,116,97,116,101],0):=by
  unfold zdr
  have gC':zkr (Bl.zaq r dCQ) dCQ 1=(⟨1,[115,116,97,116,101],0,[],[]⟩,0):=gC
  simp [zyp,gC'];decide
 have p1:vk [[112,48,48]]=[47,112,48,48]:=by decide +kernel
 have w9:zl7 (gV r) (zdr r) 9 [⟨[112,48,48],2,dFQ⟩] [] []=zef (gV r) (zdr r) (zl7 (gV r) (zdr r) 8) [] [⟨[112,48,48],2,dFQ⟩] []:=rfl
 unfold zd1
 rw [gR]
 simp only [ne_eq,not_true_eq_false,if_false,w9]
 simp [zef,gF,cF,p1,fQ,LQ]
theorem qor:zl6 [115,116,97,116,101]=LQ:=by decide +kernel
theorem qrk:zpx [115,116,97,116,101]=0:=by
 unfold zpx
 rw [if_neg (by decide),qor,qsr]
theorem bs5 (w:World):(Instr.buildSlice zk 5 #[(0,(Value.int .u8 115)),(1,(Value.int .u8 116)),(2,(Value.int .u8 97)),(3,(Value.int .u8 116)),(4,(Value.int .u8 101))]).run P w=.ok (.slice (some ⟨w.heap.size,0,none⟩) 5 5) { w with heap:=w.heap.push (.cells (byteCells [115,116,97,116,101]).toArray xu) }:=by kernel_rfl
theorem qs1 {w:World} {H:Heap} (hw:w.heap=H) {K:(Option Addr × Nat × Nat)→World→Prop}
  (hK:∀ w',Cells w'.heap (some ⟨H.size,0,none⟩) (byteCells [115,116,97,116,101])→Ext [] H w'.heap→H.size < w'.heap.size→K (some ⟨H.size,0,none⟩,5,5) w') :
  zaf P (Instr.buildSlice zk 5 #[(0,(Value.int .u8 115)),(1,(Value.int .u8 116)),(2,(Value.int .u8 97)),(3,(Value.int .u8 116)),(4,(Value.int .u8 101))]) .slc w fun t w1=>zaf P (convert zk zk (.slice t.1 t.2.1 t.2.2)) .slc w1 K:=by
 subst hw
 refine zae (s:=.slc) (some ⟨w.heap.size,0,none⟩,5,5) _ (bs5 w) ?_
 obtain ⟨w',h1,hcm,h2⟩:=qqe (P:=P) (w:={ w with heap:=w.heap.push (.cells (byteCells [115,116,97,116,101]).toArray xu) }) (l:=5) (c:=5) (o:=0) uS8 u8 rfl zo
 refine zae (s:=.slc) (some ⟨w.heap.size,0,none⟩,5,5) w' h1 ?_ hcm
 refine hK w' ?_ (by rw [h2];exact (Ext.push _).set_own (.inl (Nat.le_refl _))) (by rw [h2];simp)
 rw [h2]
 exact .inr ⟨w.heap.size,0,_,_,_,rfl,qp zo,by simp [byteCells],by simp [byteCells]⟩
theorem qsn (f:Fil) (w:World):(Instr.buildSlice zu 1 #[(0,.agg (zbf f).toArray)]).run P w=.ok (.slice (some ⟨w.heap.size,0,none⟩) 1 1) { w with heap:=w.heap.push (.cells ([f].flatMap zbf).toArray zl) }:=by kernel_rfl
theorem qou {r:Bl.SM} (h1:Bl.zaq r dCQ=some bCQ) (h2:Bl.zaq r dFQ=some bFQ) (h3:Bl.zaq r dRQ=some bRQ):zgk r dRQ=([115,116,97,116,101],0):=by
 unfold zgk
 rw [qqz h1 h2 h3]
 have:zcy LQ=[115,116,97,116,101]:=by decide +kernel
 simp only [this,qor]
 rfl
set_option maxHeartbeats 4000000 in
theorem qk5 {w:World} {H:Heap} (hw:w.heap=H) (hR:Bl.Rounds H):qg P zt2 #[] w fun e w'=>e=.returned (.bool true)∧Ext [] H w'.heap:=by
 have hH0:0 < H.size:=by obtain ⟨_,_,_,h,_⟩:=hR;exact lt_of_get h
 refine qai ?_
 unfold ztp
 refine zn (Bl.qiz 65536 hw) ?_
 rintro e w1 ⟨p,fp,rfl,hS1,hx1,hfp1⟩
 refine ⟨some ⟨p,0,none⟩,rfl,?_⟩
 rw [show max (65536:Int) 0=65536 from by decide] at hS1
 refine qs1 rfl fun w2 hc2 hx2 hs2=>?_
 have hx02:=hx1.trans hx2
 have s1:=hx1.1
 have s2:=hx2.1
 have hS2:=hS1.ext hx2 (by simp)
 refine zn (qqq (y:=(some ⟨w1.heap.size,0,none⟩,5,5)) (S:=[115,116,97,116,101]) rfl hS2 (fun b hb=>by have:=(hfp1 b hb).2;omega) (hR.ext hx02 (by simp)) (fun h=>by have:=(hfp1 0 h).1;omega) hc2 rfl (Nat.le_refl _) (by simp [Bl.total]) (by decide) (by decide) (by intro k L h;simp [Bl.zaq,zcu] at h)) ?_
 rintro e w3 ⟨c1,d1,r3,k3,fp3,rfl,hd1,hS3,hx3,hf3a,hf3b,hP3,ht3⟩
 obtain ⟨hP,hd⟩:=hP3.2 qrk
 rw [qor,qru] at hP hd
 obtain ⟨rfl,hv⟩:=qr4 hP
 rw [if_pos rfl] at hd
 have hd:d1=dRQ:=hd
 subst hd
 have v1:Bl.zaq r3 dCQ=some bCQ:=by rw [hv,if_pos rfl]
 have v2:Bl.zaq r3 dFQ=some bFQ:=by rw [hv,if_neg qsj,if_pos rfl]
 have v3:Bl.zaq r3 dRQ=some bRQ:=by rw [hv,if_neg qsy,if_neg qsp,if_pos rfl]
 refine ⟨(arr dRQ,0),rfl,?_⟩
 have hx03:Ext [] H w3.heap:=hx02.own hx3 (fun c hc hlt=>by have:=(hfp1 c hc).1;omega)
 have s3:=hx3.1
 have hlen3:∀ k L,Bl.zaq r3 k=some L→L.length < 1099511627776:=fun k L hv=>by
  have:=qdu hS3.ok hv
  have tz:Bl.total ([]:Bl.SM)=0:=rfl
  rw [tz] at ht3
  omega
 refine qoj hd1 rfl fun w5 hw5=>?_
 have hx5:Ext [] w3.heap w5.heap:=by rw [hw5];exact .push _
 have hb5:w5.heap[w3.heap.size]?=some (.cells (byteCells dRQ).toArray zf (0,0)):=by rw [hw5];exact zo
 refine je rfl hb5 (by simp [hd1]) ?_
 have hx05:=hx03.trans hx5
 have s5:=hx5.1
 refine zn (qfd (root:=dRQ) rfl (hS3.ext hx5 (by simp)) (hR.ext hx05 (by simp)) (fun b hb=>by have:=hf3a b hb;omega) hd1 hlen3) ?_
 rintro e w6 ⟨y6,rfl,hc6,hl6,hx6⟩
 rw [qou v1 v2 v3] at hc6 hl6 ⊢
 refine ⟨(y6,0),rfl,?_⟩
 have hx06:=hx05.trans hx6
 have hx36:=hx5.trans hx6
 refine je rfl (hx6.get hb5 (by simp)) (by simp [hd1]) ?_
 refine zn (qjk (root:=dRQ) rfl (hS3.ext hx36 (by simp)) (hR.ext hx06 (by simp)) (fun b hb=>by have:=hf3a b hb;have:=hx36.1;omega) hd1 hlen3) ?_
 rintro e w7 ⟨x7,rfl,hx7,hw7⟩
 rw [qqz v1 v2 v3] at hw7 ⊢
 have hm7:=hw7 rfl
 refine ⟨(x7,0),rfl,?_⟩
 have hx07:=hx06.trans hx7
 refine vw rfl (vw rfl ?_)
 refine qx (s:=.str) _ (zph (L:=[115,116,97,116,101]) uS8 u8 zwa rfl (hc6.ext hx7 (by simp)) hl6) ?_
 refine vw (zhz.2 rfl) (vw rfl ?_)
 refine qx (s:=.any) (.agg (zbf fQ).toArray) (qnx _ _ _) ?_
 refine zae (s:=.slc) (some ⟨w7.heap.size,0,none⟩,1,1) _ (qsn fQ w7) ?_
 generalize hw9:({ w7 with heap:=w7.heap.push (.cells ([fQ].flatMap zbf).toArray zl) }:World)=w9
 have hh9:w9.heap=w7.heap.push (.cells ([fQ].flatMap zbf).toArray zl):=by rw [← hw9]
 have hx9:Ext [] w7.heap w9.heap:=by rw [hh9];exact .push _
 have hc9:Cells w9.heap (some ⟨w7.heap.size,0,none⟩) ([fQ].flatMap zbf):=.inr ⟨w7.heap.size,0,_,_,_,rfl,by rw [hh9];exact zo,by simp,by simp [zbf]⟩
 have hl7:x7.2.1=1:=by have:=hm7.len;rw [z3l] at this;simp [LQ] at this;omega
 refine zn (ql4 (L:=LQ) rfl (hm7.ext hx9 (by simp)).cells hl7 hc9 rfl (by decide)) ?_
 rintro e w12 ⟨rfl,hw12⟩
 exact ⟨true,rfl,rfl,by rw [hw12];exact hx07.trans hx9⟩
set_option maxHeartbeats 8000000 in
theorem qjd {w:World} {H:Heap} {a:Option Addr} {n nc:Nat} {L:List Fil} (hw:w.heap=H) (hR:Bl.Rounds H) (hL:Cells H a (L.flatMap zbf)) (hn:n=L.length) (hm:L.length≤9223372036854775807) :
  qg P zq2 #[.slice a n nc] w fun e w'=>e=.returned (.bool true)∧Ext [] H w'.heap:=by
 refine zx9 ?_
 unfold zkv
 refine zn (qk5 hw hR) ?_
 rintro e w1 ⟨rfl,hx1⟩
 refine ⟨true,rfl,jk rfl ?_⟩
 have hL1:=hL.ext hx1 (by simp)
 subst hn
 refine jd (fun (s:Int × Int) W=>∃ j:Nat,s.2=(j:Int)∧j≤L.length∧W.heap=w1.heap) (fun s _=>(L.length - s.2).toNat) ⟨0,rfl,Nat.zero_le _,rfl⟩ ?_
 rintro ⟨t,_⟩ W2 ⟨j,rfl,hj,hW2⟩
 refine zq (fun hlt2=>?_) (fun hge2=>?_)
 ·have hjl:j < L.length:=by simp only at hlt2;omega
  have hget:=List.getElem?_eq_getElem hjl
  generalize L[j]=f at hget
  refine Bl.zb8 (i:=j) zba (by omega) hL1 rfl hget rfl fun ba oa ca Ta fra _ hba hsa hca _=>?_
  simp only [jv]
  refine jg (s:=.str) (t:=strOf f.data) hW2 hba (hca 2 (by omega)) ?_
  refine ⟨_,rfl,?_⟩
  refine ⟨_,rfl,?_⟩
  refine xk ((j+1:Nat):Int) (by simp) (by omega) (by omega) ?_
  exact ⟨⟨j+1,rfl,by omega,hW2⟩,by omega⟩
 have hx2:Ext [] H W2.heap:=by rw [hW2];exact hx1
 refine zab ?_
 refine zq (fun _=>⟨rfl,hx2⟩) (fun _=>?_)
 refine zq (fun _=>⟨rfl,hx2⟩) (fun h80=>?_)
 have hL80:L.length≤80:=by omega
 have hR3:=hR.ext hx2 (by simp)
 have hH0:0 < W2.heap.size:=by obtain ⟨_,_,_,h,_⟩:=hR3;exact lt_of_get h
 refine zn (Bl.qiz 16777216 rfl) ?_
 rintro e w5 ⟨p,fp,rfl,hS5,hx5,hfp5⟩
 refine ⟨some ⟨p,0,none⟩,rfl,?_⟩
 refine zn (Bl.qqx 16777216 rfl) ?_
 rintro e w6 ⟨p2,rfl,hT6,hx6,hp2a,hp2b⟩
 refine ⟨some ⟨p2,0,none⟩,rfl,?_⟩
 rw [show max (16777216:Int) 0=16777216 from by decide] at hS5 hT6
 have s5:=hx5.1
 have s6:=hx6.1
 have hx06:=(hx2.trans hx5).trans hx6
 have hS6:=hS5.ext hx6 (by simp)
 refine zn (qf2 (L:=L) (nc:=nc) rfl hS6 (fun b hb=>by have:=(hfp5 b hb).2;omega) (hR.ext hx06 (by simp)) (fun h=>by have:=(hfp5 0 h).1;omega) (hL.ext hx06 (by simp)) rfl (by omega) (by simp [Bl.total]) (by decide) (by decide) (by intro k L h;simp [Bl.zaq,zcu] at h)) ?_
 rintro e w9 ⟨c1,d1,r9,k9,fp9,rfl,hd1,hS9,hx9,hf9a,hf9b,hP9,ht9⟩
 refine ⟨(arr d1,c1),rfl,?_⟩
 have s9:=hx9.1
 have fp9ge:∀ b ∈ fp9,(W2.heap.size≤b∧b < w5.heap.size) ∨ (w6.heap.size≤b∧b < w9.heap.size):=fun b hb=>by
  rcases hf9b b hb with h | h
  ·exact .inl (hfp5 b h)
  ·exact .inr ⟨h,hf9a b hb⟩
 have hx09:Ext [] H w9.heap:=hx06.own hx9 (fun c hc hlt=>by have:=(hfp5 c hc).1;have:=hx2.1;omega)
 refine qoj hd1 rfl fun w11 hw11=>?_
 have hx11:Ext [] w9.heap w11.heap:=by rw [hw11];exact .push _
 have hb11:w11.heap[w9.heap.size]?=some (.cells (byteCells d1).toArray zf (0,0)):=by rw [hw11];exact zo
 have s11:=lt_of_get hb11
 have hx011:=hx09.trans hx11
 have hT9:=hT6.ext hx9 (fun b hb h=>by simp at hb;subst hb;have:=(hfp5 _ h).2;omega)
 have hT11:=hT9.ext hx11 (by simp)
 refine zn (qm3 (L:=L) (nc:=nc) rfl hT11 (fun b hb=>by simp at hb;omega) (hL.ext hx011 (by simp)) rfl (by omega) (by simp [Bl.total]) (by simp) (by decide) (by decide) (by simp)) ?_
 rintro e w12 ⟨c2,d2,r12,fp12,rfl,hd2,hT12,hx12,hf12a,hf12b,hP12,hn12,ht12,hl12⟩
 refine ⟨(arr d2,c2),rfl,?_⟩
 obtain ⟨rfl,rfl,hview⟩:=qly hP9 hP12 (fun _=>rfl) rfl
 have s12:=hx12.1
 have hx012:Ext [] H w12.heap:=hx011.own hx12 (fun c hc hlt=>by simp at hc;have:=hx2.1;omega)
 refine qoj hd2 rfl fun w14 hw14=>?_
 have hx14:Ext [] w12.heap w14.heap:=by rw [hw14];exact .push _
 have hb14:w14.heap[w12.heap.size]?=some (.cells (byteCells d1).toArray zf (0,0)):=by rw [hw14];exact zo
 have s14:=lt_of_get hb14
 have hb14a:w14.heap[w9.heap.size]?=some (.cells (byteCells d1).toArray zf (0,0)):=hx14.get (hx12.get hb11 (by simp;omega)) (by simp)
 have hx914:Ext [p2] w9.heap w14.heap:=((hx11.mono (by simp)).trans hx12).trans (hx14.mono (by simp))
 have hS14:=hS9.ext hx914 (fun b hb h=>by simp at h;subst h;rcases fp9ge _ hb with h | h <;> omega)
 have hT14:=hT12.ext hx14 (by simp)
 have hx014:=hx012.trans hx14
 refine zab ?_
 refine je rfl hb14a (by simp [hd1]) ?_
 refine je rfl hb14 (by simp [hd1]) ?_
 refine qx (s:=.bool) _ (zy2 Bl.u27 Bl.u5 Bl.c5 Bl.g27 hd1 hd1) ?_
 refine jk (by simp) ?_
 refine jk (by simp) ?_
 refine zam (fun _=>⟨rfl,hx014⟩) (fun h0=>?_)
 have tz:Bl.total ([]:Bl.SM)=0:=rfl
 rw [tz] at ht9 ht12
 refine je rfl hb14a (by simp [hd1]) ?_
 refine zn (qfd (root:=d1) rfl hS14 (hR.ext hx014 (by simp)) (fun b hb=>by rcases fp9ge b hb with h | h <;> omega) hd1 (fun k v hv=>by have:=qdu hS14.ok hv;omega)) ?_
 rintro e w15 ⟨y,rfl,hcy,hyl,hx15⟩
 refine ⟨(y,(zgk r9 d1).2),rfl,?_⟩
 have hT15:=hT14.ext hx15 (by simp)
 refine je rfl (hx15.get hb14 (by simp)) (by simp [hd1]) ?_
 have hrl:r12.length < 1099511627776:=by simp at hn12;omega
 refine zn (qkx (root:=d1) rfl hT15 hrl hd1 (fun k v hv=>by rw [← hview] at hv;have:=qdu hS14.ok hv;omega)) ?_
 rintro e w16 ⟨z,rfl,hcz,hzl,hx16⟩
 refine ⟨(z,(zgk r12 d1).2),rfl,?_⟩
 rw [← qee hview] at hcz hzl ⊢
 refine qx (s:=.str) _ (zph uS8 u8 zwa rfl (hcy.ext hx16 (by simp)) hyl) ?_
 refine qx (s:=.str) _ (zph uS8 u8 zwa rfl hcz hzl) ?_
 refine vw (qof.2 rfl) ?_
 exact ⟨by simp,(hx014.trans hx15).trans hx16⟩
end Go.Proofs.YtbmegmbnlajbbaaGreatDoor
