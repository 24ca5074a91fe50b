/- Part 8 of the texts below the card, joined. -/
import Derived.Test.YtbmegmbnlajbbaaGreatDoorTRpg
import Derived.Test.YtbmegmbnlajbbaaGreatDoorRows
namespace Go.Proofs.YtbmegmbnlajbbaaGreatDoor
open Go Go.Fw Go.Proofs Go.Sort
theorem uMt:P.underlying ji=some (.map zf zbl):=by kernel_rfl
abbrev RSt:=List Pr×List (List UInt8)
def qdy (b8 b3 b9 b10 b11:Nat):Value:=.func (.func zfd) #[] #[.pointer (some ⟨b8,0,none⟩),.pointer (some ⟨b3,0,none⟩),.pointer (some ⟨b9,0,none⟩),.pointer (some ⟨b10,0,none⟩),.pointer (some ⟨b11,0,none⟩)]
def qdu (H:Heap) (cf:List Nat) (b8 b9 b10:Nat) (st:RSt):Prop:=
 ∃ (m clk:Nat) (l:ML Pr Int) (m2 clk2:Nat) (l2:ML (List UInt8) Int) (x:Option Addr×Nat×Nat),H[b8]?=some (.cells #[.map (some m)] zbb (0,0))/\H[m]?=some (.map (ents prV (vl iv l)) clk)/\MOk (fun p:Pr=>p.1.length=32) l clk/\(∀ p,zbk l p=if p∈st.1 then some 1 else none) /\
  H[b9]?=some (.cells #[.map (some m2)] ji (0,0))/\H[m2]?=some (.map (ents arr (vl iv l2)) clk2)/\MOk (fun L:List UInt8=>L.length=32) l2 clk2/\(∀ d,zbk l2 d=if d∈st.2 then some 1 else none) /\
  H[b10]?=some (.cells #[zb2 x] zo (0,0))/\Mine H 0 zf 32 x (st.2.flatMap Bl.zat)/\m≠m2/\(b8∈cf/\b9∈cf/\b10∈cf/\m∈cf/\m2∈cf)/\(∀ b∈jk x,b∈cf)/\∀ d∈st.2,d.length=32
theorem qdu.ext {H H':Heap}{cf M:List Nat}{b8 b9 b10:Nat}{st:RSt}(h:qdu H cf b8 b9 b10 st) (hx:Ext M H H') (hM:∀ b∈cf,b∉M):qdu H' cf b8 b9 b10 st:=by
 obtain⟨m,clk,l,m2,clk2,l2,x,h1,h2,h3,h4,h5,h6,h7,h8,h9,h10,h11,⟨i1,i2,i3,i4,i5⟩,h12,h13⟩:=h
 exact⟨m,clk,l,m2,clk2,l2,x,hx.get h1 (hM _ i1),hx.get h2 (hM _ i4),h3,h4,hx.get h5 (hM _ i2),hx.get h6 (hM _ i5),h7,h8,hx.get h9 (hM _ i3),h10.ext hx (fun b hb=>hM b (h12 b hb)),h11,⟨i1,i2,i3,i4,i5⟩,h12,h13⟩
def qhm (H:Heap) (b8 b3 b9 b10 b11 pS:Nat):Prop:=H[b3]?=some (.cells #[.pointer (some ⟨pS,0,none⟩)] zds (0,0))/\H[b11]?=some (.cells #[qdy b8 b3 b9 b10 b11] zda (0,0))
theorem qhm.ext {H H':Heap}{M:List Nat}{b8 b3 b9 b10 b11 pS:Nat}(h:qhm H b8 b3 b9 b10 b11 pS) (hx:Ext M H H') (h3:b3∉M) (h11:b11∉M):qhm H' b8 b3 b9 b10 b11 pS:=⟨hx.get h.1 h3,hx.get h.2 h11⟩
def z2l (H:Heap) (cf:List Nat) (b8 b9 b10:Nat) (t:RSt) (c:Int) (e:Ending) (w':World):Prop:=
 e=.returned (.int .i64 c)/\Ext cf H w'.heap/\(c=0->∃ cf',qdu w'.heap cf' b8 b9 b10 t/\(∀ b∈cf',b < w'.heap.size)/\∀ b∈cf',b∈cf\/H.size<=b)
def qjp (fp:List Nat) (pS:Nat) (q:Int) (r:Bl.SM) (k b8 b3 b9 b10 b11:Nat) (n:Nat):Prop:=
 ∀ {w:World}{H:Heap}{cf:List Nat}{s t:RSt}{c:Int}{p:Pr},w.heap=H->qdu H cf b8 b9 b10 s->qhm H b8 b3 b9 b10 b11 pS->(∀ b∈cf,b < H.size)->b3∉cf->b11∉cf->Bl.Store H fp pS q r k->(∀ b∈fp,b < H.size/\b∉cf)->Bl.Rounds H->0∉cf->p.1.length=32 ->
  Run (zcb (Bl.vw r)) n [p] s t c->s.2.length+n<=1000000000->zy P zfd #[prV p,.pointer (some ⟨b8,0,none⟩),.pointer (some ⟨b3,0,none⟩),.pointer (some ⟨b9,0,none⟩),.pointer (some ⟨b10,0,none⟩),.pointer (some ⟨b11,0,none⟩)] w (z2l H cf b8 b9 b10 t c)
theorem zvu {v:List UInt8->Option (List UInt8)}:∀ {n:Nat}{todo:List Pr}{s t:RSt}{c:Int},Run (zcb v) n todo s t c->t.2.length<=s.2.length+n:=by
 have h1:∀ (s:RSt) (p:Pr),(zcb v s p).1.2.length<=s.2.length+1:=by
  intro s p
  unfold zcb;repeat' split
  all_goals simp
 intro n todo s t c h
 induction h with
 | nil=>omega
 | stop h0=>exact h1 _ _
 | step h0 _ ih=>
  rename_i n p todo s t c _
  have:=h1 s p
  omega
theorem Run.one {σ:Type}{stp:σ->Pr->σ×List Pr×Int}{n:Nat}{p:Pr}{s t:σ}{c:Int}(h:Run stp n [p] s t c) (h0:(stp s p).2.1=[]):t=(stp s p).1/\c=(stp s p).2.2:=by
 rcases h.cons_c with⟨_,_,h2,h3⟩ | ⟨n',_,h2,h3⟩
 ·exact⟨h2,h3⟩
 ·rw [h0] at h3
  obtain⟨_,h4,h5⟩:=h3.nil_c
  exact⟨h4,by rw [h5,h2]⟩
set_option maxHeartbeats 64000000 in
theorem z8z {fp:List Nat}{pS:Nat}{q:Int}{r:Bl.SM}{k b8 b3 b9 b10 b11:Nat}(hlen:∀ k L,Bl.vw r k=some L->L.length < 1099511627776):∀ n,qjp fp pS q r k b8 b3 b9 b10 b11 n:=by
 intro n
 induction n using Nat.strongRecOn with
 | ind n ih=>
 intro w H cf s t c p hw hC hF hcf h3 h11 hS hfp hR h0 hp hrun hb
 refine zsx ?_
 unfold zm6
 rw [show (prV p).cells=(zef p).toArray from rfl]
 refine jm hw fun w1 hw1=>?_
 have hx1:Ext [] H w1.heap:=by rw [hw1];exact .push _
 have hb1:w1.heap[H.size]?=some (.cells (zef p).toArray za8 (0,0)):=by rw [hw1];exact zk
 have s1:=lt_of_get hb1
 have l33:=zt1 hp
 obtain⟨m,clk,l,m2,clk2,l2,x,g1,g2,g3,g4,g5,g6,g7,g8,g9,g10,g11,⟨i8,i9,i10,im,im2⟩,gx,g32⟩:=hC.ext hx1 (by simp)
 simp only [qg,vg,Nat.zero_add]
 refine je (s:=.map) (t:=some m) rfl g1 rfl ?_
 refine qp rfl hb1 (by simp [l33]) ?_
 refine qm (s:=.int .i64) (if p∈s.1 then 1 else 0) (by
  refine (zm0 KPr uMp qja rfl g2 g3 hp).trans ?_
  rw [g4]
  split <;> rfl) ?_
 by_cases hin:p∈s.1
 ·rw [if_pos hin]
  refine zai (by decide) ?_
  have hst:zcb (Bl.vw r) s p=(s,[],0):=by unfold zcb;rw [if_pos hin]
  obtain⟨rfl,rfl⟩:=hrun.one (by rw [hst])
  rw [hst]
  exact⟨rfl,hx1.mono (by simp),fun _=>⟨cf,⟨m,clk,l,m2,clk2,l2,x,g1,g2,g3,g4,g5,g6,g7,g8,g9,g10,g11,⟨i8,i9,i10,im,im2⟩,gx,g32⟩,fun b hb=>by have:=hcf b hb;omega,fun b hb=>.inl hb⟩⟩
 rw [if_neg hin]
 refine jr (by decide) ?_
 refine je (s:=.map) (t:=some m) rfl g1 rfl ?_
 refine qp rfl hb1 (by simp [l33]) ?_
 refine zmh _ (zjm KPr uMp rfl g2 g3 hp 1 rfl) ?_
 generalize hw4:({ w1 with heap:=w1.heap.setIfInBounds m (.map (ents prV (vl iv (zhm l p 1 clk))) (zk7 l p clk)) }:World)=w4
 have hh4:w4.heap=w1.heap.setIfInBounds m (.map (ents prV (vl iv (zhm l p 1 clk))) (zk7 l p clk)):=by rw [<-hw4]
 have hx4:Ext [m] w1.heap w4.heap:=by rw [hh4];exact Ext.set _ (by simp)
 have hm4:w4.heap[m]?=some (.map (ents prV (vl iv (zhm l p 1 clk))) (zk7 l p clk)):=by rw [hh4];exact qc g2
 have ne_m:∀ {b:Nat}{cs:Array Value}{T:TypeId}{fr:Nat×Nat},w1.heap[b]?=some (.cells cs T fr)->b∉[m]:=by
  rintro b cs T fr h hh
  have hh:=List.mem_singleton.1 hh
  subst hh;rw [g2] at h;cases h
 have c8:=hx4.get g1 (ne_m g1)
 have c9:=hx4.get g5 (ne_m g5)
 have c10:=hx4.get g9 (ne_m g9)
 have cm2:=hx4.get g6 (fun h=>g11 (List.mem_singleton.1 h).symm)
 have c1:=hx4.get hb1 (ne_m hb1)
 have gM4:Mine w4.heap 0 zf 32 x (s.2.flatMap Bl.zat):=g10.ext hx4 (fun b hb=>by
  obtain⟨cs,fr,hg⟩:=zgu g10 _ hb
  exact ne_m hg)
 have g34:=MOk.upd g3 hp 1
 have g44:∀ p',zbk (zhm l p 1 clk) p'=if p'∈s.1++[p] then some 1 else none:=by
  intro p'
  rw [zjq,g4]
  by_cases h:p'=p
  ·subst h;simp
  ·simp [h]
 generalize hl':zhm l p 1 clk=l' at *
 generalize hclk':zk7 l p clk=clk' at *
 clear g1 g2 g3 g4 g5 g6 g9 g10 ne_m hh4 hw4 hl' hclk' hb1
 have hx04:Ext cf H w4.heap:=(hx1.mono (by simp)).trans (hx4.mono (by simp;exact im))
 have s4:=hx04.1
 have s14:=hx4.1
 have hF4:=hF.ext hx04 h3 h11
 have hS4:=hS.ext hx04 (fun b hb=>(hfp b hb).2)
 have hR4:=hR.ext hx04 h0
 refine je (s:=.ptr) (t:=some ⟨pS,0,none⟩) rfl hF4.1 rfl ?_
 refine zhc rfl c1 (by simp [l33]) ?_
 rw [ziz hp]
 refine zl (Bl.qe7 (k:=p.1) rfl hS4 hp hR4 (hlen p.1)) ?_
 rintro e w6 ⟨y,rfl,hx6,hgot,_⟩
 refine⟨(y,Bl.got (Bl.vw r p.1) p.1),rfl,?_⟩
 have hx06:Ext cf H w6.heap:=hx04.trans (hx6.mono (by simp))
 have stopc:∀ {n':Nat}{c':Int},Run (zcb (Bl.vw r)) n' [p] s t c->(znq (Bl.vw r p.1) p.1 p.2).2=c'->c'≠0->c=c':=by
  intro n' c' hr hg hc'
  have hst:zcb (Bl.vw r) s p=((s.1++[p],s.2),[],(znq (Bl.vw r p.1) p.1 p.2).2):=by unfold zcb;rw [if_neg hin,if_pos (by rw [hg];exact hc')]
  have:=(hr.one (by rw [hst])).2
  rw [hst] at this
  exact this.trans hg
 refine zan (fun hg=>?_) (fun hg=>?_)
 ·have hg:Bl.got (Bl.vw r p.1) p.1≠0:=hg
  have hcc:=stopc hrun (by rw [zz6 hg]) hg
  subst hcc
  exact⟨rfl,hx06,fun h=>absurd h hg⟩
 have hg:Bl.got (Bl.vw r p.1) p.1=0:=hg
 obtain⟨L,hL,hmy⟩:=hgot hg
 have hyl:y.2.1=L.length:=by have:=hmy.len;simp at this;omega
 have hv:=zu9 (kind:=p.2) hL hg
 refine zl (zz0 (L:=L) rfl hmy.cells hyl (by have:=hlen _ L hL;omega)) ?_
 rintro e w7 ⟨xp,xi,rfl,hN7,hx7⟩
 refine⟨(.agg (zcx (zhg L).1 xp xi).toArray,(zhg L).2),rfl,?_⟩
 have hit:=zq1 (v:=Bl.vw r p.1) (k:=p.1) (kind:=p.2)
 generalize hD:zhg L=D at *
 refine qa8 D.1 xp xi rfl fun w9 hw9=>?_
 have hx9:Ext [] w7.heap w9.heap:=by rw [hw9];exact .push _
 have hn9:w9.heap[w7.heap.size]?=some (.cells (zcx D.1 xp xi).toArray zh (0,0)):=by rw [hw9];exact zk
 have hx49:=(hx6.trans hx7).trans hx9
 have c8:=hx49.get c8 (by simp)
 have c9:=hx49.get c9 (by simp)
 have c10:=hx49.get c10 (by simp)
 have cm:=hx49.get hm4 (by simp)
 have cm2:=hx49.get cm2 (by simp)
 have c1:=hx49.get c1 (by simp)
 have gM:=gM4.ext hx49 (by simp)
 have hx09:Ext cf H w9.heap:=hx04.trans (hx49.mono (by simp))
 have s9:=hx49.1
 refine Go.Fw.joinP_of (fun _ W=>W=w9/\¬(D.2≠0\/D.1.kind≠p.2)) ?_ ?_
 ·have bad:(D.2≠0\/D.1.kind≠p.2)->z2l H cf b8 b9 b10 t c (.returned (.int .i64 21)) w9:=fun h=>by
   have hcc:=stopc hrun (by rw [hv,if_pos h]) (by decide)
   subst hcc
   exact⟨rfl,hx09,fun h=>absurd h (by decide)⟩
  refine zan (fun h1=>bad (.inl h1)) (fun h1=>?_)
  refine je (s:=.int .i64) (t:=D.1.kind) rfl hn9 rfl ?_
  refine je (s:=.int .i64) (t:=p.2) rfl c1 (z1f hp) ?_
  exact zan (fun h2=>bad (.inr h2)) (fun h2=>⟨rfl,fun h=>h.elim (fun h=>h h1) (fun h=>h h2)⟩)
 rintro _ W ⟨hW,hok⟩
 subst hW
 rw [hv,if_neg hok] at hit
 have hst:zcb (Bl.vw r) s p=((s.1++[p],if p.1∈s.2 then s.2 else s.2++[p.1]),zo3 D.1,0):=by
  unfold zcb
  rw [if_neg hin,hv,if_neg hok,if_neg (by simp)]
 obtain⟨h,_,_,h2⟩ | ⟨n,rfl,_,hrun⟩:=hrun.cons_c
 ·rw [hst] at h2;exact absurd h2 h
 rw [hst,List.append_nil] at hrun
 clear stopc hst
 refine Go.Fw.joinP_of (fun _ V=>∃ x',V.heap[b10]?=some (.cells #[zb2 x'] zo (0,0))/\Mine V.heap 0 zf 32 x' ((if p.1∈s.2 then s.2 else s.2++[p.1]).flatMap Bl.zat)/\Ext (b10 :: jk x) W.heap V.heap/\∀ b∈jk x',b∈jk x\/W.heap.size<=b) ?_ ?_
 ·refine je (s:=.map) (t:=some m2) rfl c9 rfl ?_
  refine zhc rfl c1 (by simp [l33]) ?_
  rw [ziz hp]
  refine qm (s:=.int .i64) (if p.1∈s.2 then 1 else 0) (by
   refine (zm0 Bl.K27 uMt qja rfl cm2 g7 hp).trans ?_
   rw [g8]
   split <;> rfl) ?_
  by_cases htin:p.1∈s.2
  ·rw [if_pos htin]
   refine jr (by decide) ?_
   exact⟨x,c10,by rw [if_pos htin];exact gM,.refl _ _,fun b hb=>.inl hb⟩
  ·rw [if_neg htin]
   refine zai (by decide) ?_
   refine je (s:=.slc) (t:=x) rfl c10 rfl ?_
   refine zhc rfl c1 (by simp [l33]) ?_
   rw [ziz hp]
   refine zuw rfl gM (Nat.zero_le _) hp (by omega) fun x' w10 hm10 hx10 hs10=>?_
   have n10:b10∉jk x:=fun h=>by
    obtain⟨cs,fr,hg⟩:=zgu gM _ h
    rw [c10] at hg;simp only [Option.some.injEq,Obj.cells.injEq] at hg;exact absurd hg.2.1 (by decide)
   have c10':=hx10.get c10 n10
   refine zbd rfl c10' (by simp) fun w11 hw11=>?_
   have hx11:Ext [b10] w10.heap w11.heap:=by rw [hw11];exact Ext.set _ (by simp)
   have n10':b10∉jk x':=fun h=>by
    obtain⟨cs,fr,hg⟩:=zgu hm10 _ h
    rw [c10'] at hg;simp only [Option.some.injEq,Obj.cells.injEq] at hg;exact absurd hg.2.1 (by decide)
   refine⟨x',by rw [hw11];exact qc c10',?_,(hx10.mono fun b hb=>List.mem_cons_of_mem _ hb).trans (hx11.mono (by simp)),hs10⟩
   rw [if_neg htin]
   exact hm10.ext hx11 (fun b hb h=>by
    have h:=List.mem_singleton.1 h
    subst h;exact n10' hb)
 rintro _ V ⟨x',v10,vM,hxV,hxs⟩
 have hs2:∀ d∈(if p.1∈s.2 then s.2 else s.2++[p.1]),d.length=32:=by
  intro d hd
  split at hd
  ·exact g32 d hd
  ·rcases List.mem_append.1 hd with h | h
   ·exact g32 d h
   ·rw [List.mem_singleton.1 h];exact hp
 have hs2m:∀ d,(d∈(if p.1∈s.2 then s.2 else s.2++[p.1])) ↔ d=p.1\/d∈s.2:=by
  intro d
  split
  ·rename_i h
   exact⟨.inr,fun h'=>by rcases h' with rfl | h';exact h;exact h'⟩
  ·simp [or_comm]
 have hs2l:(if p.1∈s.2 then s.2 else s.2++[p.1]).length<=s.2.length+1:=by split <;> simp
 generalize hS2:(if p.1∈s.2 then s.2 else s.2++[p.1])=S2 at *
 have nmem:∀ {b:Nat}{cs:Array Value}{T:TypeId}{fr:Nat×Nat},W.heap[b]?=some (.cells cs T fr)->T≠zf->b≠b10->b∉b10 :: jk x:=by
  intro b cs T fr h hT hb hh
  rcases List.mem_cons.1 hh with h' | h'
  ·exact hb h'
  ·obtain⟨cs',fr',hg⟩:=zgu gM _ h'
   rw [h] at hg;simp only [Option.some.injEq,Obj.cells.injEq] at hg;exact hT hg.2.1
 have nmap:∀ {b:Nat}{es:Array MapEntry}{ck:Nat},W.heap[b]?=some (.map es ck)->b∉b10 :: jk x:=by
  intro b es ck h hh
  rcases List.mem_cons.1 hh with h' | h'
  ·subst h';rw [c10] at h;cases h
  ·obtain⟨cs',fr',hg⟩:=zgu gM _ h'
   rw [h] at hg;cases hg
 have ne810:b8≠b10:=by rintro rfl;rw [c8] at c10;simp only [Option.some.injEq,Obj.cells.injEq] at c10;exact absurd c10.2.1 (by decide)
 have ne910:b9≠b10:=by rintro rfl;rw [c9] at c10;simp only [Option.some.injEq,Obj.cells.injEq] at c10;exact absurd c10.2.1 (by decide)
 have ne110:H.size≠b10:=by have:=hcf b10 i10;omega
 have ne710:w7.heap.size≠b10:=by have:=hcf b10 i10;have:=hx6.1;have:=hx7.1;omega
 have v8:=hxV.get c8 (nmem c8 (by decide) ne810)
 have v9:=hxV.get c9 (nmem c9 (by decide) ne910)
 have vm:=hxV.get cm (nmap cm)
 have vm2:=hxV.get cm2 (nmap cm2)
 have v1:=hxV.get c1 (nmem c1 (by decide) ne110)
 have hvn:=hxV.get hn9 (nmem hn9 (by decide) ne710)
 have hx0V:Ext cf H V.heap:=hx09.trans (hxV.mono (by
  intro b hb
  rcases List.mem_cons.1 hb with rfl | hb
  ·exact i10
  ·exact gx b hb))
 have sV:=hxV.1
 refine je (s:=.map) (t:=some m2) rfl v9 rfl ?_
 refine zhc rfl v1 (by simp [l33]) ?_
 rw [ziz hp]
 refine zmh _ (zjm Bl.K27 uMt rfl vm2 g7 hp 1 rfl) ?_
 generalize hw12:({ V with heap:=V.heap.setIfInBounds m2 (.map (ents arr (vl iv (zhm l2 p.1 1 clk2))) (zk7 l2 p.1 clk2)) }:World)=w12
 have hh12:w12.heap=V.heap.setIfInBounds m2 (.map (ents arr (vl iv (zhm l2 p.1 1 clk2))) (zk7 l2 p.1 clk2)):=by rw [<-hw12]
 have hx12:Ext [m2] V.heap w12.heap:=by rw [hh12];exact Ext.set _ (by simp)
 have hm12:w12.heap[m2]?=some (.map (ents arr (vl iv (zhm l2 p.1 1 clk2))) (zk7 l2 p.1 clk2)):=by rw [hh12];exact qc vm2
 have ne2:∀ {b:Nat}{cs:Array Value}{T:TypeId}{fr:Nat×Nat},V.heap[b]?=some (.cells cs T fr)->b∉[m2]:=by
  rintro b cs T fr h hh
  have hh:=List.mem_singleton.1 hh
  subst hh;rw [vm2] at h;cases h
 have g74:=MOk.upd g7 hp 1
 have g84:∀ d,zbk (zhm l2 p.1 1 clk2) d=if d∈S2 then some 1 else none:=by
  intro d
  rw [zjq,g8]
  by_cases h:d=p.1
  ·rw [if_pos h,if_pos ((hs2m d).2 (.inl h))]
  ·rw [if_neg h]
   by_cases h':d∈s.2
   ·rw [if_pos h',if_pos ((hs2m d).2 (.inr h'))]
   ·rw [if_neg h',if_neg (fun hh=>((hs2m d).1 hh).elim h h')]
 generalize hcf2:jk x'++cf=cf2
 have hC12:qdu w12.heap cf2 b8 b9 b10 (s.1++[p],S2):=by
  subst hcf2
  exact⟨m,_,_,m2,_,_,x',hx12.get v8 (ne2 v8),hx12.get vm (fun h=>g11 (List.mem_singleton.1 h)),g34,g44,hx12.get v9 (ne2 v9),hm12,g74,g84,hx12.get v10 (ne2 v10),vM.ext hx12 (fun b hb=>by
   obtain⟨cs,fr,hg⟩:=zgu vM _ hb
   exact ne2 hg),g11,⟨by simp [i8],by simp [i9],by simp [i10],by simp [im],by simp [im2]⟩,fun b hb=>by simp [hb],hs2⟩
 have hx012:Ext cf H w12.heap:=hx0V.trans (hx12.mono (by simp;exact im2))
 have hcf2l:∀ b∈cf2,b < w12.heap.size:=by
  subst hcf2
  intro b hb
  rcases List.mem_append.1 hb with h | h
  ·have:=(zbs vM b h).1;have:=hx12.1;omega
  ·have:=hcf b h;have:=hx012.1;omega
 have hcf2s:∀ b∈cf2,b∈cf\/H.size<=b:=by
  subst hcf2
  intro b hb
  rcases List.mem_append.1 hb with h | h
  ·rcases hxs b h with h | h
   ·exact .inl (gx b h)
   ·right;omega
  ·exact .inl h
 have hn12:=hx12.get hvn (ne2 hvn)
 have hNW:NodW w12.heap D.1 xp xi:=by
  have h1:=hN7.ext hx9 (by simp)
  have h2:=h1.ext hxV (fun b h=>by
   rcases List.mem_cons.1 h with h | h
   ·have:=hcf _ i10;have:=hx6.1;omega
   ·have:=hcf _ (gx b h);have:=hx6.1;omega)
  exact (h2.ext hx12 (fun b h=>by
   have h:=List.mem_singleton.1 h
   have:=hcf _ im2;have:=hx6.1;omega)).nodW
 clear g34 g44 g74 g84 v8 v9 vm vm2 v1 hvn vM v10 hm12 hh12 hw12 ne2 c8 c9 c10 cm cm2 c1 gM nmem nmap
 refine qp rfl hn12 rfl ?_
 refine zl (qet rfl hNW hit.2.2.2.2 hit.1) ?_
 rintro e w13 ⟨x7,rfl,hm13,hx13⟩
 refine⟨x7,rfl,?_⟩
 have h32:=z3s hNW
 rw [z5b] at hrun
 have hkl:(zsu D.1).length<=65601:=by simp [zsu];have h5:D.1.items.length<=65:=hit.1;have h6:D.1.parts.length<=65536:=hit.2.2.2.2;omega
 generalize zsu D.1=I at *
 have hxl:x7.2.1=I.length:=by have:=hm13.len;rw [qf6] at this;omega
 have s12:=hx012.1
 have g13:=qx hm13
 have hx013:Ext cf H w13.heap:=hx012.trans (hx13.mono (by simp))
 have s13:=hx13.1
 refine jg (fun (s':Int) U=>∃ (i n':Nat) (u:RSt) (cf':List Nat),s'=(i:Int)/\i<=I.length/\n'<=n/\u.2.length+n'<=S2.length+n/\Run (zcb (Bl.vw r)) n' ((I.drop i).map fun i=>(i.sum,i.kind)) u t c/\qdu U.heap cf' b8 b9 b10 u/\Ext cf H U.heap/\(∀ b∈cf',b < U.heap.size)/\(∀ b∈cf',b∈cf2\/w13.heap.size<=b)/\Ext cf2 w13.heap U.heap) (fun s' _=>(I.length-s').toNat)
  ⟨0,n,(s.1++[p],S2),cf2,rfl,Nat.zero_le _,Nat.le_refl _,Nat.le_refl _,by simpa using hrun,hC12.ext hx13 (by simp),hx013,fun b hb=>by have:=hcf2l b hb;omega,fun b hb=>.inl hb,.refl _ _⟩ ?_
 rintro _ U ⟨i,n',u,cf',rfl,hi,hn,hu,hr,hC',hx,hcf',hsub,hx2U⟩
 have sU:=hx2U.1
 have hmU:=hm13.ext hx2U (fun b hb h=>by have:=g13 b hb;have:=hcf2l b h;omega)
 refine zx (fun hlt=>?_) (fun hge=>?_)
 ·have hil:i < I.length:=by have hlt:(i:Int) < (x7.2.1:Int):=hlt;omega
  have hget:=List.getElem?_eq_getElem hil
  have hk32:=h32 _ (List.getElem_mem hil)
  rw [List.drop_eq_getElem_cons hil,List.map_cons] at hr
  generalize I[i]=it at hget hk32 hr
  refine zci (i:=i) zac (by omega) rfl hmU.cells hxl hget rfl ?_
  refine qdt it rfl fun w15 hw15=>?_
  have hx15:Ext [] U.heap w15.heap:=by rw [hw15];exact .push _
  have hb15:w15.heap[U.heap.size]?=some (.cells (zb0 it).toArray zu (0,0)):=by rw [hw15];exact zk
  have hx015:=hx.trans (hx15.mono (by simp))
  have hF15:=hF.ext hx015 h3 h11
  refine je (s:=.any) (t:=qdy b8 b3 b9 b10 b11) rfl hF15.2 rfl ?_
  refine zhc rfl hb15 (by simp [zac]) ?_
  rw [show (zb0 it).toArray.extract 2 (2+32)=(Bl.zat it.sum).toArray from qdx,Bl.za7 hk32]
  refine je (s:=.int .i64) (t:=it.kind) rfl hb15 rfl ?_
  refine qm (s:=.any) _ (bPr hk32 it.kind _) ?_
  refine zie (args:=#[prV (it.sum,it.kind)]) (cap:=#[.pointer (some ⟨b8,0,none⟩),.pointer (some ⟨b3,0,none⟩),.pointer (some ⟨b9,0,none⟩),.pointer (some ⟨b10,0,none⟩),.pointer (some ⟨b11,0,none⟩)]) ?_
  have hfpU:∀ b∈fp,b < w15.heap.size/\b∉cf':=fun b hb=>⟨by have:=(hfp b hb).1;have:=hx015.1;omega,fun h=>by
   rcases hsub b h with h | h
   ·rcases hcf2s b h with h | h
    ·exact (hfp b hb).2 h
    ·have:=(hfp b hb).1;omega
   ·have:=(hfp b hb).1;omega⟩
  have notin:∀ b,b < H.size->b∉cf->b∉cf':=fun b hlt hb h=>by
   rcases hsub b h with h | h
   ·rcases hcf2s b h with h | h
    ·exact hb h
    ·omega
   ·omega
  have hH0:0 < H.size:=by obtain⟨_,_,_,hg,_⟩:=hR;exact lt_of_get hg
  have hcf15:∀ b∈cf',b < w15.heap.size:=fun b hb=>by have:=hcf' b hb;have:=hx15.1;omega
  have call:∀ {n1:Nat}{mm:RSt}{c':Int},n1<=n'->Run (zcb (Bl.vw r)) n1 [((it.sum,it.kind):Pr)] u mm c'->zy P zfd #[prV (it.sum,it.kind),.pointer (some ⟨b8,0,none⟩),.pointer (some ⟨b3,0,none⟩),.pointer (some ⟨b9,0,none⟩),.pointer (some ⟨b10,0,none⟩),.pointer (some ⟨b11,0,none⟩)] w15 (z2l w15.heap cf' b8 b9 b10 mm c'):=fun hle hr1=>
   ih _ (by omega) (p:=(it.sum,it.kind)) rfl (hC'.ext hx15 (by simp)) hF15 hcf15 (notin b3 (lt_of_get hF.1) h3) (notin b11 (lt_of_get hF.2) h11) (hS.ext hx015 (fun b hb=>(hfp b hb).2)) hfpU (hR.ext hx015 h0) (notin 0 hH0 h0) hk32 hr1 (by omega)
  have own6:∀ b∈cf',b < H.size->b∈cf:=fun b hb hlt=>by
   rcases hsub b hb with h | h
   ·rcases hcf2s b h with h | h
    ·exact h
    ·omega
   ·omega
  have own13:∀ b∈cf',b < w13.heap.size->b∈cf2:=fun b hb hlt=>by
   rcases hsub b hb with h | h
   ·exact h
   ·omega
  obtain⟨hne,hr1⟩ | ⟨n1,n2,mm,e12,r1,r2⟩:=Run.split (A:=[((it.sum,it.kind):Pr)]) (B:=(I.drop (i+1)).map fun i=>(i.sum,i.kind)) hr
  ·refine (call (Nat.le_refl _) hr1).mono ?_
   rintro e w16 ⟨rfl,hx16,_⟩
   refine⟨c,rfl,?_⟩
   exact zan (fun _=>⟨rfl,hx015.own hx16 own6,fun h=>absurd h hne⟩) (fun h=>absurd h hne)
  ·refine (call (by omega) r1).mono ?_
   rintro e w16 ⟨rfl,hx16,hpost⟩
   obtain⟨cf3,hC3,hcf3,hsub3⟩:=hpost rfl
   refine⟨0,rfl,?_⟩
   refine zan (fun h=>absurd rfl h) (fun _=>?_)
   have s15:=hx15.1
   have s16:=hx16.1
   have hrl:=zvu r1
   refine jd ((i+1:Nat):Int) (by simp) (by omega) (by omega) ?_
   refine⟨⟨i+1,n2,mm,cf3,rfl,by omega,by omega,by omega,r2,hC3,hx015.own hx16 own6,hcf3,fun b hb=>?_,(hx2U.trans (hx15.mono (by simp))).own hx16 own13⟩,by omega⟩
   rcases hsub3 b hb with h | h
   ·exact hsub b h
   ·right;omega
 ·obtain rfl:i=I.length:=by have hge:¬(i:Int) < (x7.2.1:Int):=hge;omega
  rw [List.drop_length] at hr
  obtain⟨_,rfl,rfl⟩:=Run.nil_c hr
  refine⟨rfl,hx,fun _=>⟨cf',hC',hcf',fun b hb=>?_⟩⟩
  rcases hsub b hb with h | h
  ·exact hcf2s b h
  ·right;omega
theorem qkj:zc P zbb=#[.map none]:=by kernel_rfl
theorem qix:zc P ji=#[.map none]:=by kernel_rfl
theorem qkf:zc P zo=#[.slice none 0 0]:=by kernel_rfl
theorem qj0:(zc P zda).size=1:=by kernel_rfl
theorem cFn:P.cellsOf zda=1:=by kernel_rfl
theorem z6e {w:World}{H:Heap}{pS:Nat}{root:List UInt8}{kind:Int}(hw:w.heap=H) (h2:kind≠2) (h3:kind≠3):zy P zh3 #[.pointer (some ⟨pS,0,none⟩),arr root,.int .i64 kind] w fun e w'=>e=.returned (.tuple #[.slice none 0 0,.int .i64 100])/\Ext [] H w'.heap:=by
 refine zoa ?_
 unfold zkt
 refine jm hw fun w1 hw1=>?_
 have hx1:Ext [] H w1.heap:=by rw [hw1];exact .push _
 have hb1:w1.heap[H.size]?=some (.cells #[.pointer (some ⟨pS,0,none⟩)] zds (0,0)):=by rw [hw1];exact zk
 refine jm rfl fun w2 hw2=>?_
 have hx2:Ext [] w1.heap w2.heap:=by rw [hw2];exact .push _
 refine zar ?_
 refine zar ?_
 refine je (s:=.ptr) (t:=some ⟨pS,0,none⟩) rfl (hx2.get hb1 (by simp)) rfl ?_
 refine jr rfl ?_
 exact zan (fun _=>zan (fun _=>⟨rfl,hx1.trans hx2⟩) (fun h=>absurd h h3)) (fun h=>absurd h h2)
theorem z2d {w:World}{H:Heap}{s:Option Addr}{root:List UInt8}{kind:Int}(hw:w.heap=H) (h2:kind≠2) (h3:kind≠3):zy P zlf #[.pointer s,arr root,.int .i64 kind] w fun e w'=>e=.returned (.tuple #[.slice none 0 0,.int .i64 100])/\Ext [] H w'.heap:=by
 refine zsb ?_
 unfold zos
 refine jm hw fun w1 hw1=>?_
 have hx1:Ext [] H w1.heap:=by rw [hw1];exact .push _
 refine zar ?_
 exact zan (fun _=>zan (fun _=>⟨rfl,hx1⟩) (fun h=>absurd h h3)) (fun h=>absurd h h2)
set_option maxHeartbeats 16000000 in
theorem qdh {fp:List Nat}{pS:Nat}{q:Int}{r:Bl.SM}{k n:Nat}(hlen:∀ k L,Bl.vw r k=some L->L.length < 1099511627776){w:World}{H:Heap}{root:List UInt8}{kind:Int}{t:RSt}{c:Int}(hw:w.heap=H) (hS:Bl.Store H fp pS q r k) (hfp:∀ b∈fp,b < H.size) (hR:Bl.Rounds H) (h32:root.length=32) (hkd:kind=2\/kind=3)
  (hrun:Run (zcb (Bl.vw r)) n [(root,kind)] ([],[]) t c) (hn:n<=1000000000) :
  zy P zh3 #[.pointer (some ⟨pS,0,none⟩),arr root,.int .i64 kind] w fun e w'=>∃ x,e=.returned (.tuple #[zb2 x,.int .i64 c])/\Ext [] H w'.heap/\(c≠0->x=(none,0,0))/\(c=0->Mine w'.heap H.size zf 32 x (t.2.flatMap Bl.zat)/\∀ d∈t.2,d.length=32):=by
 have hH0:0 < H.size:=by obtain⟨_,_,_,h,_⟩:=hR;exact lt_of_get h
 refine zoa ?_
 unfold zkt
 rw [show (arr root).cells=(byteCells root).toArray from rfl]
 refine jm hw fun w1 hw1=>?_
 have hx1:Ext [] H w1.heap:=by rw [hw1];exact .push _
 have hb1:w1.heap[H.size]?=some (.cells #[.pointer (some ⟨pS,0,none⟩)] zds (0,0)):=by rw [hw1];exact zk
 have s1:=lt_of_get hb1
 refine jm rfl fun w2 hw2=>?_
 have hx2:Ext [] w1.heap w2.heap:=by rw [hw2];exact .push _
 have hb2:w2.heap[w1.heap.size]?=some (.cells (byteCells root).toArray zf (0,0)):=by rw [hw2];exact zk
 have hb1:=hx2.get hb1 (by simp)
 have s2:=lt_of_get hb2
 refine zar ?_
 refine Go.Fw.joinP_of (fun _ W=>W=w2) ?_ ?_
 ·refine je (s:=.ptr) (t:=some ⟨pS,0,none⟩) rfl hb1 rfl ?_
  refine jr rfl ?_
  refine zan (fun h2=>?_) (fun h2=>rfl)
  exact zan (fun h3=>by rcases hkd with h | h <;> contradiction) (fun h3=>rfl)
 rintro _ W hW
 have hW:=hW.symm
 subst hW
 refine zah (s:=.map) (some w2.heap.size) _ (zii rfl) ?_
 generalize hw4:({ w2 with heap:=w2.heap.push (.map #[] 0) }:World)=w4
 have hh4:w4.heap=w2.heap.push (.map #[] 0):=by rw [<-hw4]
 have hx4:Ext [] w2.heap w4.heap:=by rw [hh4];exact .push _
 have hm4:w4.heap[w2.heap.size]?=some (.map #[] 0):=by rw [hh4];exact zk
 have s4:=lt_of_get hm4
 refine jm rfl fun w5 hw5=>?_
 have hx5:Ext [] w4.heap w5.heap:=by rw [hw5];exact .push _
 have hc5:w5.heap[w4.heap.size]?=some (.cells #[.map none] zbb (0,0)):=by rw [hw5,qkj];exact zk
 have s5:=lt_of_get hc5
 refine zbd rfl hc5 (by simp) fun w6 hw6=>?_
 have hx6:Ext [w4.heap.size] w5.heap w6.heap:=by rw [hw6];exact Ext.set _ (by simp)
 have hc6:w6.heap[w4.heap.size]?=some (.cells #[.map (some w2.heap.size)] zbb (0,0)):=by rw [hw6];exact qc hc5
 have hm6:=hx6.get (hx5.get hm4 (by simp)) (by simp;omega)
 have hb16:=hx6.get (hx5.get (hx4.get hb1 (by simp)) (by simp)) (by simp;omega)
 have hb26:=hx6.get (hx5.get (hx4.get hb2 (by simp)) (by simp)) (by simp;omega)
 have hx06:Ext [] H w6.heap:=(((hx1.trans hx2).trans hx4).trans hx5).own hx6 (fun b hb hlt=>by simp at hb;omega)
 have s6:=hx6.1
 refine zah (s:=.map) (some w6.heap.size) _ (zii rfl) ?_
 generalize hw7:({ w6 with heap:=w6.heap.push (.map #[] 0) }:World)=w7
 have hh7:w7.heap=w6.heap.push (.map #[] 0):=by rw [<-hw7]
 have hx7:Ext [] w6.heap w7.heap:=by rw [hh7];exact .push _
 have hm7:w7.heap[w6.heap.size]?=some (.map #[] 0):=by rw [hh7];exact zk
 have s7:=lt_of_get hm7
 refine jm rfl fun w8 hw8=>?_
 have hx8:Ext [] w7.heap w8.heap:=by rw [hw8];exact .push _
 have hc8:w8.heap[w7.heap.size]?=some (.cells #[.map none] ji (0,0)):=by rw [hw8,qix];exact zk
 have s8:=lt_of_get hc8
 refine zbd rfl hc8 (by simp) fun w9 hw9=>?_
 have hx9:Ext [w7.heap.size] w8.heap w9.heap:=by rw [hw9];exact Ext.set _ (by simp)
 have hc9:w9.heap[w7.heap.size]?=some (.cells #[.map (some w6.heap.size)] ji (0,0)):=by rw [hw9];exact qc hc8
 have hx69:Ext [w7.heap.size] w6.heap w9.heap:=((hx7.trans hx8).mono (by simp)).trans hx9
 have s9:=hx9.1
 refine jm rfl fun w10 hw10=>?_
 have hx10:Ext [] w9.heap w10.heap:=by rw [hw10];exact .push _
 have hc10:w10.heap[w9.heap.size]?=some (.cells #[.slice none 0 0] zo (0,0)):=by rw [hw10,qkf];exact zk
 have s10:=lt_of_get hc10
 refine jm rfl fun w11 hw11=>?_
 have hx11:Ext [] w10.heap w11.heap:=by rw [hw11];exact .push _
 have hc11:w11.heap[w10.heap.size]?=some (.cells (zc P zda) zda (0,0)):=by rw [hw11];exact zk
 have s11:=lt_of_get hc11
 refine qm (s:=.any) (qdy w4.heap.size H.size w7.heap.size w9.heap.size w10.heap.size) (by simp [Instr.makeFunc,qdy];rfl) ?_
 refine zay (v:=qdy w4.heap.size H.size w7.heap.size w9.heap.size w10.heap.size) (by rw [cFn];rfl) (by show (1:Nat)≠0;decide) (by intro v hv;simp [Value.cells,qdy] at hv;subst hv;rfl) rfl hc11 (by rw [qj0];exact Nat.le_refl _) fun w12 hw12=>?_
 have hx12:Ext [w10.heap.size] w11.heap w12.heap:=by rw [hw12];exact Ext.set _ (by simp)
 have hc12:w12.heap[w10.heap.size]?=some (.cells #[qdy w4.heap.size H.size w7.heap.size w9.heap.size w10.heap.size] zda (0,0)):=by
  rw [hw12,zak (by rw [qj0];rfl)];exact qc hc11
 have s12:=hx12.1
 have hx912:Ext [w10.heap.size] w9.heap w12.heap:=((hx10.trans hx11).mono (by simp)).trans hx12
 have hx612:Ext [w7.heap.size,w10.heap.size] w6.heap w12.heap:=(hx69.mono (by simp)).trans (hx912.mono (by simp))
 have hx012:Ext [] H w12.heap:=hx06.own hx612 (fun b hb hlt=>by simp at hb;omega)
 refine je (s:=.any) (t:=qdy w4.heap.size H.size w7.heap.size w9.heap.size w10.heap.size) rfl hc12 rfl ?_
 refine qp rfl (hx612.get hb26 (by simp;omega)) (by simp [h32]) ?_
 refine qm (s:=.any) _ (bPr h32 kind _) ?_
 have hCW:qdu w12.heap [w4.heap.size,w7.heap.size,w9.heap.size,w2.heap.size,w6.heap.size] w4.heap.size w7.heap.size w9.heap.size ([],[]):=⟨w2.heap.size,0,[],w6.heap.size,0,[],(none,0,0),hx612.get hc6 (by simp;omega),hx612.get hm6 (by simp;omega),.nil,by intro p;simp [zbk],hx912.get hc9 (by simp;omega),hx912.get (hx9.get (hx8.get hm7 (by simp)) (by simp;omega)) (by simp;omega),.nil,by intro d;simp [zbk],hx12.get (hx11.get hc10 (by simp)) (by simp;omega),.inl ⟨rfl,rfl⟩,by omega,by simp,by simp [jk],by simp⟩
 have hF:qhm w12.heap w4.heap.size H.size w7.heap.size w9.heap.size w10.heap.size pS:=⟨hx612.get hb16 (by simp;omega),hc12⟩
 refine zie (args:=#[prV (root,kind)]) (cap:=#[.pointer (some ⟨w4.heap.size,0,none⟩),.pointer (some ⟨H.size,0,none⟩),.pointer (some ⟨w7.heap.size,0,none⟩),.pointer (some ⟨w9.heap.size,0,none⟩),.pointer (some ⟨w10.heap.size,0,none⟩)]) ?_
 refine (z8z hlen n (p:=(root,kind)) rfl hCW hF (fun b hb=>by simp at hb;omega) (by simp;omega) (by simp;omega) (hS.ext hx012 (by simp)) (fun b hb=>⟨by have:=hfp b hb;omega,by have:=hfp b hb;simp;omega⟩) (hR.ext hx012 (by simp)) (by simp;omega) h32 hrun (by simp;omega)).mono ?_
 rintro e w13 ⟨rfl,hx13,hpost⟩
 refine⟨c,rfl,?_⟩
 have hx013:Ext [] H w13.heap:=hx012.own hx13 (fun b hb hlt=>by simp at hb;omega)
 refine zan (fun hne=>?_) (fun h0=>?_)
 ·exact⟨(none,0,0),rfl,hx013,fun _=>rfl,fun h=>absurd h hne⟩
 ·have h0:c=0:=h0
  obtain⟨cf',⟨m,clk,l,m2,clk2,l2,x,g1,g2,g3,g4,g5,g6,g7,g8,g9,g10,g11,g12,g13,g14⟩,hcf',hsub⟩:=hpost h0
  refine je (s:=.slc) (t:=x) rfl g9 rfl ?_
  subst h0
  refine⟨x,rfl,hx013,fun h=>absurd rfl h,fun _=>⟨?_,g14⟩⟩
  rcases id g10 with h | ⟨b,cs,e1,e2,e3⟩
  ·exact .inl h
  ·refine .inr ⟨b,cs,e1,?_,e3⟩
   rcases hsub b (g13 b (by simp [jk,e1])) with h | h
   ·simp at h;omega
   ·omega
theorem qif {w:World}{H:Heap}(hw:w.heap=H){K:(Option Addr×Nat×Nat)->World->Prop}(hK:∀ w',Ext [] H w'.heap->Mine w'.heap H.size jf 33 (some ⟨H.size,0,none⟩,0,0) (([]:List Pr).flatMap zk5)->K (some ⟨H.size,0,none⟩,0,0) w'):zaw P (Instr.buildSlice zad 0 #[]) .slc w K:=by
 refine zah (s:=.slc) (some ⟨H.size,0,none⟩,0,0) { w with heap:=H.push (.cells #[] jf) } (by rw [<-hw];kernel_rfl) ?_
 exact hK _ (.push _) (.inr ⟨H.size,#[],rfl,Nat.le_refl _,zk,rfl,rfl,Nat.le_refl _,rfl⟩)
theorem qk0 {S:List Pr}:zcl (S.flatMap zk5):=by
 intro v hv
 obtain⟨i,_,hi⟩:=List.mem_flatMap.1 hv
 exact zye v hi
theorem qdn {w:World}{H:Heap}{B:Nat}{x:Option Addr×Nat×Nat}{a:Option Addr}{l c:Nat}{xs ys:List Pr}(hw:w.heap=H) (hx:Mine H B jf 33 x (xs.flatMap zk5)) (hB:B<=H.size) (hL:Cells H a (ys.flatMap zk5)) (hl:l=ys.length) (hlen:xs.length+ys.length<=1099511627){K:(Option Addr×Nat×Nat)->World->Prop}
  (hK:∀ x' w',Mine w'.heap B jf 33 x' ((xs++ys).flatMap zk5)->Ext (jk x) H w'.heap->(∀ b∈jk x',b∈jk x\/H.size<=b)->K x' w'):zaw P (Builtin.append_ #[zad,zad] zad #[.slice x.1 x.2.1 x.2.2,.slice a l c]) .slc w K:=by
 have hxl:x.2.1=xs.length:=by have:=hx.len;rw [qeo] at this;omega
 refine zcj Eq8 (by omega) uSq (zbg uSq) hw hx hB (Src.slc hw hL (by rw [qeo,hl])) qk0 (by omega) ?_
 intro x' w' hm hl' hx' hs
 refine hK x' w' ?_ hx' hs
 rw [List.flatMap_append];exact hm
theorem qiw {w:World}{H:Heap}{p:Pr}(hp:p.1.length=32) (hw:w.heap=H){K:Nat->World->Prop}(hK:∀ w',w'.heap=H.push (.cells (zef p).toArray jf (0,0))->K H.size w') :
  zbm (zc P jf) jf w fun b w1=>zb8 P (storeVar jf (⟨b,0,none⟩:Addr) (.agg (zef p).toArray)) w1 fun w2=>K b w2:=
 zv6 (v:=.agg (zef p).toArray) (by rw [show P.cellsOf jf=33 by kernel_rfl];simp [Value.cells,zef,hp]) (by rw [show (zc P jf).size=33 by kernel_rfl];simp [Value.cells,zef,hp]) (by simp [Value.cells,zef]) (by
  rw [<-ztr hp];simpa [Value.cells] using zye) hw fun w' hw'=>hK w' hw'
structure RRI (r:Bl.SM) (N:Nat) (t:RSt) (c:Int) (H H':Heap) (n':Nat) (xs xt xd:Option Addr×Nat×Nat) (u:RSt) (todo:List Pr):Prop where
 run:Run (zcb (Bl.vw r)) n' todo u t c
 l1:u.1.length+n'<=N
 l2:u.2.length+n'<=N
 l3:todo.length+70001 * unseen r u.1<=1+70001 * r.length
 p1:∀ p∈u.1,p.1.length=32
 p2:∀ d∈u.2,d.length=32
 p3:∀ p∈todo,p.1.length=32
 m1:Mine H' H.size jf 33 xs (u.1.flatMap zk5)
 m2:Mine H' H.size zf 32 xt (u.2.flatMap Bl.zat)
 m3:Mine H' H.size jf 33 xd (todo.flatMap zk5)
 ap:∀ b∈jk xs,b∉jk xd
 ex:Ext [] H H'
theorem qei {n:Nod}(h1:∀ p∈n.parts,p.length=32) (h2:∀ i∈n.items,i.sum.length=32):∀ p∈zo3 n,p.1.length=32:=by
 intro p hp
 unfold zo3 at hp
 rcases List.mem_append.1 hp with h | h
 ·obtain⟨q,hq,rfl⟩:=List.mem_map.1 h;exact h1 q hq
 ·obtain⟨q,hq,rfl⟩:=List.mem_map.1 h;exact h2 q hq
theorem qht {H:Heap}{x:Option Addr×Nat×Nat}{B:Nat}{p:Pr}{ps:List Pr}(h:Mine H B jf 33 x ((p :: ps).flatMap zk5)):∃ a',(∀ w,(Instr.sliceAt zad (.slice x.1 x.2.1 x.2.2) (some (.int .i64 1)) none none).run P w=.ok (.slice a' (x.2.1-1) (x.2.2-1)) w)/\Cells H a' (ps.flatMap zk5):=by
 have hl:=h.len
 obtain⟨a',h1,h2⟩:=z3j (i:=1) (n:=1) uSq szq h.cells hl (zic h) (by rw [qeo] at hl;simp at hl;omega) rfl
 refine⟨a',h1,?_⟩
 rw [List.flatMap_cons,List.drop_left' (by rw [zgy])] at h2
 exact h2
set_option maxHeartbeats 64000000 in
theorem qc8 {fp:List Nat}{pS:Nat}{q:Int}{r:Bl.SM}{N:Nat}(hlen:∀ k L,Bl.vw r k=some L->L.length < 1099511627776){w:World}{H:Heap}{root:List UInt8}{kind:Int}{t:RSt}{c:Int}(hw:w.heap=H) (hS:Bl.zdf H fp pS q r) (hrl:r.length<=1000) (h32:root.length=32) (hkd:kind=2\/kind=3)
  (hrun:Run (zcb (Bl.vw r)) N [(root,kind)] ([],[]) t c) (hn:N<=1000000000) :
  zy P zlf #[.pointer (some ⟨pS,0,none⟩),arr root,.int .i64 kind] w fun e w'=>∃ x,e=.returned (.tuple #[zb2 x,.int .i64 c])/\Ext [] H w'.heap/\(c≠0->x=(none,0,0))/\(c=0->Mine w'.heap H.size zf 32 x (t.2.flatMap Bl.zat)/\∀ d∈t.2,d.length=32):=by
 refine zsb ?_
 unfold zos
 rw [show (arr root).cells=(byteCells root).toArray from rfl]
 refine jm hw fun w1 hw1=>?_
 have hx1:Ext [] H w1.heap:=by rw [hw1];exact .push _
 have hb1:w1.heap[H.size]?=some (.cells (byteCells root).toArray zf (0,0)):=by rw [hw1];exact zk
 have s1:=lt_of_get hb1
 refine Go.Fw.joinP_of (fun _ W=>W=w1) ?_ ?_
 ·refine zan (fun h2=>?_) (fun h2=>rfl)
  exact zan (fun h3=>by rcases hkd with h | h <;> contradiction) (fun h3=>rfl)
 rintro _ W hW
 have hW:=hW.symm
 subst hW
 refine qp rfl hb1 (by simp [h32]) ?_
 refine qm (s:=.any) _ (bPq h32 kind _) ?_
 rw [<-ztr (p:=(root,kind)) h32]
 refine zah (s:=.slc) (some ⟨w1.heap.size,0,none⟩,1,1) _ (zen Eq8 uSq (v:=.agg (zk5 (root,kind)).toArray) (by simp [Value.cells,zgy]) (by omega) (by omega)) ?_
 generalize hw2:({ w1 with heap:=w1.heap.push (.cells (Value.agg (zk5 (root,kind)).toArray).cells jf) }:World)=w2
 have hh2:w2.heap=w1.heap.push (.cells (zk5 (root,kind)).toArray jf):=by rw [<-hw2];rfl
 have hx2:Ext [] w1.heap w2.heap:=by rw [hh2];exact .push _
 have hb2:w2.heap[w1.heap.size]?=some (.cells (zk5 (root,kind)).toArray jf (0,0)):=by rw [hh2];exact zk
 have s2:=lt_of_get hb2
 have hstart:RRI r N t c H w2.heap N (none,0,0) (none,0,0) (some ⟨w1.heap.size,0,none⟩,1,1) ([],[]) [(root,kind)]:=
  ⟨hrun,by simp,by simp,by
   have:unseen r []<=r.length:=List.length_filter_le _ _
   simp only [List.length_cons,List.length_nil];omega,by simp,by simp,by simpa using h32,.inl ⟨rfl,rfl⟩,.inl ⟨rfl,rfl⟩,.inr ⟨w1.heap.size,_,rfl,by omega,hb2,by simp [zgy],by simp [zgy],Nat.le_refl _,by simp [List.take_of_length_le,zgy]⟩,by simp [jk],hx1.trans hx2⟩
 refine zjd (fun (n':Nat) (s:(Option Addr×Nat×Nat)×(Option Addr×Nat×Nat)×(Option Addr×Nat×Nat)) W=>∃ u todo,RRI r N t c H W.heap n' s.1 s.2.1 s.2.2 u todo) N ⟨_,_,hstart⟩ ?_
 clear hstart hb2 hh2 hw2 s2 hx2 hb1
 rintro n' ⟨xs,xt,xd⟩ W ⟨u,todo,hI⟩ K hK
 simp only at hI
 have hdl:xd.2.1=todo.length:=by have:=hI.m3.len;rw [qeo] at this;omega
 have hsl:xs.2.1=u.1.length:=by have:=hI.m1.len;rw [qeo] at this;omega
 have htl:xt.2.1=u.2.length:=by have:=hI.m2.len;rw [zq Bl.zat Bl.zab] at this;omega
 refine zx (fun hpos=>?_) (fun hz=>?_)
 rotate_left
 ·have hz:¬(xd.2.1:Int) > 0:=hz
  have htd:todo=[]:=List.eq_nil_of_length_eq_zero (by omega)
  have hr:=hI.run
  rw [htd] at hr
  obtain⟨_,rfl,rfl⟩:=hr.nil_c
  exact⟨xt,rfl,hI.ex,fun h=>absurd rfl h,fun _=>⟨hI.m2,hI.p2⟩⟩
 have hpos:(xd.2.1:Int) > 0:=hpos
 cases todo with
 | nil=>exfalso;simp at hdl;omega
 | cons p todo=>
 have hp:p.1.length=32:=hI.p3 p (by simp)
 have l33:=zt1 hp
 have hl3:=hI.l3
 have hl1:=hI.l1
 have hl2:=hI.l2
 have hun:unseen r u.1<=r.length:=List.length_filter_le _ _
 simp only [List.length_cons] at hl3
 refine zar ?_
 refine zci (i:=0) zgy (by omega) rfl hI.m3.cells hdl rfl rfl ?_
 rw [ztr hp]
 refine qiw hp rfl fun w6 hw6=>?_
 have hx6:Ext [] W.heap w6.heap:=by rw [hw6];exact .push _
 have hb6:w6.heap[W.heap.size]?=some (.cells (zef p).toArray jf (0,0)):=by rw [hw6];exact zk
 have s6:=lt_of_get hb6
 refine qif rfl fun w7 hx7 hm7=>?_
 have hx67:=hx6.trans hx7
 have s7:=hx7.1
 obtain⟨a',hcut,hca⟩:=qht (hI.m3.ext hx67 (by simp))
 refine qm (s:=.slc) (a',xd.2.1-1,xd.2.2-1) (hcut _) ?_
 have hdl':xd.2.1-1=todo.length:=by rw [hdl];simp
 refine qdn (xs:=[]) (c:=xd.2.2-1) rfl hm7 s7 hca hdl' (by simp;omega) fun x35 w8 hm8 hx8 hs8=>?_
 rw [List.nil_append] at hm8
 have s8:=hx8.1
 have hx68:Ext [] w6.heap w8.heap:=hx7.own hx8 (fun b hb hlt=>by simp [jk] at hb;omega)
 have hx08:Ext [] W.heap w8.heap:=hx6.trans hx68
 have hxH8:=hI.ex.trans hx08
 have hb8:=hx68.get hb6 (by simp)
 refine qp rfl hb8 (by simp [l33]) ?_
 refine zl (qie (c:=xs.2.2) (L:=u.1) (p:=p) rfl (hI.m1.ext hx08 (by simp)).cells hsl hI.p1 hp (by omega)) ?_
 rintro e w9 ⟨rfl,hx9⟩
 refine⟨_,rfl,?_⟩
 have hm35:Mine w9.heap H.size jf 33 x35 (todo.flatMap zk5):=(hm8.ext hx9 (by simp)).mono (by have:=hI.ex.1;omega)
 have h35:∀ b∈jk x35,W.heap.size < b:=fun b hb=>by have:=qx hm8 b hb;omega
 have hx09:=hx08.trans hx9
 have s9:=hx9.1
 have p3':∀ p'∈todo,p'.1.length=32:=fun p' h=>hI.p3 p' (by simp [h])
 have hlts:∀ b∈jk xs,b < W.heap.size:=fun b hb=>(zbs hI.m1 b hb).1
 by_cases hin:p∈u.1
 ·refine zai (by simp [hin]) ?_
  have hst:zcb (Bl.vw r) u p=(u,[],0):=by unfold zcb;rw [if_pos hin]
  obtain⟨h,_,_,h2⟩ | ⟨n2,rfl,_,hr2⟩:=hI.run.cons_c
  ·rw [hst] at h2;exact absurd h2 h
  rw [hst,List.nil_append] at hr2
  refine hK n2 _ _ (by omega) ⟨u,todo,hr2,by omega,by omega,by omega,hI.p1,hI.p2,p3',hI.m1.ext hx09 (by simp),hI.m2.ext hx09 (by simp),hm35,fun b hb h=>by have:=hlts b hb;have:=h35 b h;omega,hI.ex.trans hx09⟩
 refine jr (by simp [hin]) ?_
 have hb9:=hx9.get hb8 (by simp)
 refine qp rfl hb9 (by simp [l33]) ?_
 refine qdv (p:=p) hp rfl (hI.m1.ext hx09 (by simp)) (by have:=hI.ex.1;have:=hx09.1;omega) (by omega) fun x42 w11 hm11 hx11 hs11=>?_
 have s11:=hx11.1
 have hb11:=hx11.get hb9 (fun h=>by have:=hlts _ h;omega)
 have hxH11:Ext [] H w11.heap:=(hI.ex.trans hx09).own hx11 (fun b hb hlt=>by have:=qx hI.m1 b hb;omega)
 refine zhc rfl hb11 (by simp [l33]) ?_
 rw [ziz hp]
 refine zl (Bl.qh0 (k:=p.1) rfl (hS.ext hxH11 (by simp)) hp (by omega) (hlen p.1)) ?_
 rintro e w12 ⟨y,rfl,hx12,hgot,_⟩
 refine⟨(y,Bl.got (Bl.vw r p.1) p.1),rfl,?_⟩
 have stopc:∀ {c':Int},(znq (Bl.vw r p.1) p.1 p.2).2=c'->c'≠0->c=c':=by
  intro c' hg hc'
  have hst:zcb (Bl.vw r) u p=((u.1++[p],u.2),[],(znq (Bl.vw r p.1) p.1 p.2).2):=by unfold zcb;rw [if_neg hin,if_pos (by rw [hg];exact hc')]
  obtain⟨h,_,_,h2⟩ | ⟨n2,_,h0,_⟩:=hI.run.cons_c
  ·rw [hst] at h2;exact h2.trans hg
  ·rw [hst] at h0;exact absurd (hg.symm.trans h0) hc'
 have hxH12:=hxH11.trans hx12
 refine zan (fun hg=>?_) (fun hg=>?_)
 ·have hg:Bl.got (Bl.vw r p.1) p.1≠0:=hg
  have hcc:=stopc (by rw [zz6 hg]) hg
  subst hcc
  exact⟨(none,0,0),rfl,hxH12,fun _=>rfl,fun h=>absurd h hg⟩
 have hg:Bl.got (Bl.vw r p.1) p.1=0:=hg
 obtain⟨L,hL,hmy⟩:=hgot hg
 have hyl:y.2.1=L.length:=by have:=hmy.len;simp at this;omega
 have hv:=zu9 (kind:=p.2) hL hg
 refine zl (z9y (L:=L) rfl hmy.cells hyl (zic hmy) (by have:=hlen _ L hL;omega)) ?_
 rintro e w13 ⟨xp,xi,rfl,hN13,hx13⟩
 refine⟨(.agg (zcx (zhg L).1 xp xi).toArray,decide ((zhg L).2=0)),rfl,?_⟩
 have hit:=zq1 (v:=Bl.vw r p.1) (k:=p.1) (kind:=p.2)
 generalize hD:zhg L=D at *
 refine qa8 D.1 xp xi rfl fun w15 hw15=>?_
 have hx15:Ext [] w13.heap w15.heap:=by rw [hw15];exact .push _
 have hn15:w15.heap[w13.heap.size]?=some (.cells (zcx D.1 xp xi).toArray zh (0,0)):=by rw [hw15];exact zk
 have hx1115:=(hx12.trans hx13).trans hx15
 have hb15:=hx1115.get hb11 (by simp)
 have hxH15:=hxH11.trans hx1115
 refine Go.Fw.joinP_of (fun _ V=>V=w15/\¬(D.2≠0\/D.1.kind≠p.2)) ?_ ?_
 ·have bad:(D.2≠0\/D.1.kind≠p.2)->c=21:=fun h=>stopc (by rw [hv,if_pos h]) (by decide)
  by_cases hd:D.2=0
  ·refine jr (by simp [hd]) ?_
   refine je (s:=.int .i64) (t:=D.1.kind) rfl hn15 rfl ?_
   refine je (s:=.int .i64) (t:=p.2) rfl hb15 (z1f hp) ?_
   refine zan (fun h2=>?_) (fun h2=>⟨rfl,fun h=>h.elim (fun h=>h hd) (fun h=>h h2)⟩)
   have hcc:=bad (.inr h2)
   subst hcc
   exact⟨(none,0,0),rfl,hxH15,fun _=>rfl,fun h=>absurd h (by decide)⟩
  ·refine zai (by simp [hd]) ?_
   have hcc:=bad (.inl hd)
   subst hcc
   exact⟨(none,0,0),rfl,hxH15,fun _=>rfl,fun h=>absurd h (by decide)⟩
 rintro _ V ⟨hV,hok⟩
 have hV:=hV.symm
 subst hV
 rw [hv,if_neg hok] at hit
 have hst:zcb (Bl.vw r) u p=((u.1++[p],if p.1∈u.2 then u.2 else u.2++[p.1]),zo3 D.1,0):=by
  unfold zcb
  rw [if_neg hin,hv,if_neg hok,if_neg (by simp)]
 have hstep:=zwv (r:=r) u p
 rw [hst] at hstep
 obtain⟨h,_,_,h2⟩ | ⟨n2,rfl,_,hr2⟩:=hI.run.cons_c
 ·rw [hst] at h2;exact absurd h2 h
 rw [hst] at hr2
 simp only at hr2 hstep
 clear stopc hst
 have hx015:Ext (jk xs) W.heap w15.heap:=((hx09.mono (by simp)).trans hx11).trans (hx1115.mono (by simp))
 have hneq:∀ b∈jk xt,b∉jk xs:=zhz hI.m2 hI.m1 (by decide)
 have hmt15:Mine w15.heap H.size zf 32 xt (u.2.flatMap Bl.zat):=hI.m2.ext hx015 hneq
 have hm1115:Mine w15.heap H.size jf 33 x42 ((u.1++[p]).flatMap zk5):=hm11.ext hx1115 (by simp)
 have hm3515:Mine w15.heap H.size jf 33 x35 (todo.flatMap zk5):=(hm35.ext hx11 (fun b hb h=>by have:=h35 b hb;have:=hlts b h;omega)).ext hx1115 (by simp)
 have s15:=hx015.1
 refine Go.Fw.joinP_of (fun x4 V=>Mine V.heap H.size zf 32 x4 ((if p.1∈u.2 then u.2 else u.2++[p.1]).flatMap Bl.zat)/\Ext (jk xt) w15.heap V.heap) ?_ ?_
 ·refine zhc rfl hb15 (by simp [l33]) ?_
  rw [ziz hp]
  refine zl (z8o (c:=xt.2.2) (L:=u.2) rfl hmt15.cells htl hI.p2 hp (by omega)) ?_
  rintro e w17 ⟨rfl,hx17⟩
  refine⟨_,rfl,?_⟩
  by_cases htin:p.1∈u.2
  ·refine jr (by simp [htin]) ?_
   rw [if_pos htin]
   exact⟨hmt15.ext hx17 (by simp),hx17.mono (by simp)⟩
  ·refine zai (by simp [htin]) ?_
   refine zhc rfl (hx17.get hb15 (by simp)) (by simp [l33]) ?_
   rw [ziz hp]
   refine zuw rfl (hmt15.ext hx17 (by simp)) (by have:=hxH15.1;have:=hx17.1;omega) hp (by omega) fun x' w18 hm18 hx18 hs18=>?_
   rw [if_neg htin]
   exact⟨hm18,(hx17.mono (by simp)).trans hx18⟩
 rintro x4 V ⟨hm4,hxV⟩
 have hs2:∀ d∈(if p.1∈u.2 then u.2 else u.2++[p.1]),d.length=32:=by
  intro d hd
  split at hd
  ·exact hI.p2 d hd
  ·rcases List.mem_append.1 hd with h | h
   ·exact hI.p2 d h
   ·rw [List.mem_singleton.1 h];exact hp
 have hs2l:(if p.1∈u.2 then u.2 else u.2++[p.1]).length<=u.2.length+1:=by split <;> simp
 generalize hS2:(if p.1∈u.2 then u.2 else u.2++[p.1])=S2 at *
 have hltt:∀ b∈jk xt,b < W.heap.size:=fun b hb=>(zbs hI.m2 b hb).1
 have hget:H.size<=W.heap.size:=hI.ex.1
 have hx13s:=hx13.1
 have hx12s:=hx12.1
 have hnV:=hxV.get hn15 (fun h=>by have:=hltt _ h;omega)
 have hNV:NodM V.heap w12.heap.size D.1 xp xi:=(hN13.ext hx15 (by simp)).ext hxV (fun b hb=>by have:=hltt b hb;omega)
 refine qp rfl hnV rfl ?_
 have hiti:D.1.items.length<=65:=hit.1
 have hitp:D.1.parts.length<=65536:=hit.2.2.2.2
 refine zl (qeg rfl hNV.nodW hitp hiti) ?_
 rintro e w21 ⟨x78,rfl,hm21,hx21⟩
 refine⟨x78,rfl,?_⟩
 have hmxV:=hm3515.ext hxV (fun b hb h=>by have:=h35 b hb;have:=hltt b h;omega)
 have hk32:=qei hNV.p32 hNV.i32
 have hkl:(zo3 D.1).length<=70000:=hstep.1
 have hxl35:x35.2.1=todo.length:=by have:=hm35.len;rw [qeo] at this;omega
 have sV:=hxV.1
 have s21:=hx21.1
 refine qdn (c:=x35.2.2) rfl hm21 s21 (hmxV.ext hx21 (by simp)).cells hxl35 (by omega) fun x80 w22 hm22 hx22 hs22=>?_
 have h78:∀ b∈jk x78,V.heap.size<=b:=qx hm21
 have h80:∀ b∈jk x80,V.heap.size<=b:=qx hm22
 have h42:∀ b∈jk x42,b < V.heap.size:=fun b hb=>by have:=(zbs hm1115 b hb).1;omega
 have hm42:Mine w22.heap H.size jf 33 x42 ((u.1++[p]).flatMap zk5):=((hm1115.ext hxV (zhz hm1115 hmt15 (by decide))).ext hx21 (by simp)).ext hx22 (fun b hb h=>by have:=h42 b hb;have:=h78 b h;omega)
 have h4:∀ b∈jk x4,b < V.heap.size:=fun b hb=>(zbs hm4 b hb).1
 refine hK n2 _ _ (by omega) ⟨(u.1++[p],S2),zo3 D.1++todo,hr2,by simp;omega,by simp only;omega,?_,fun p' h=>by
  rcases List.mem_append.1 h with h | h
  ·exact hI.p1 p' h
  ·rw [List.mem_singleton.1 h];exact hp,hs2,fun p' h=>by
  rcases List.mem_append.1 h with h | h
  ·exact hk32 p' h
  ·exact p3' p' h,hm42,(hm4.ext hx21 (by simp)).ext hx22 (fun b hb h=>by have:=h4 b hb;have:=h78 b h;omega),hm22.mono (by omega),fun b hb h=>by have:=h42 b hb;have:=h80 b h;omega,?_⟩
 ·simp only [List.length_append]
  by_cases hk0:zo3 D.1=[]
  ·rw [hk0];have:=hstep.2.1;simp only [List.length_nil];omega
  ·have:=hstep.2.2 hk0;omega
 ·exact ((hxH15.own hxV (fun b hb hlt=>by have:=qx hI.m2 b hb;omega)).trans hx21).own hx22 (fun b hb hlt=>by have:=h78 b hb;omega)
def z3n (H:Heap) (cf:List Nat) (c pS:Nat) (st:LSt):Prop:=
 ∃ xs xw:Option Addr×Nat×Nat,H[c]?=some (.cells #[.pointer (some ⟨pS,0,none⟩),zb2 xs,zb2 xw,.bool st.foul] zzb (0,0))/\Mine H 0 jf 33 xs (st.seen.flatMap zk5)/\Mine H 0 jf 33 xw (st.want.flatMap zk5)/\(∀ b∈jk xs,b∉jk xw)/\c∈cf/\(∀ b∈jk xs,b∈cf)/\(∀ b∈jk xw,b∈cf)/\(∀ p∈st.seen,p.1.length=32)/\∀ p∈st.want,p.1.length=32
theorem z3n.ext {H H':Heap}{cf M:List Nat}{c pS:Nat}{st:LSt}(h:z3n H cf c pS st) (hx:Ext M H H') (hM:∀ b∈cf,b∉M):z3n H' cf c pS st:=by
 obtain⟨xs,xw,h1,h2,h3,h4,h5,h6,h7,h8,h9⟩:=h
 exact⟨xs,xw,hx.get h1 (hM _ h5),h2.ext hx (fun b hb=>hM b (h6 b hb)),h3.ext hx (fun b hb=>hM b (h7 b hb)),h4,h5,h6,h7,h8,h9⟩
structure RLI (r:Bl.SM) (N M:Nat) (t:LSt) (H H':Heap) (cf:List Nat) (c pS n':Nat) (xd:Option Addr×Nat×Nat) (u:LSt) (todo:List Pr) (cf':List Nat):Prop where
 run:Run (qhu (Bl.vw r)) n' todo u t 0
 l1:u.seen.length+n'<=N
 l2:u.want.length+n'<=N
 l3:todo.length+70001 * unseen r u.seen<=M
 p3:∀ p∈todo,p.1.length=32
 m3:Mine H' 0 jf 33 xd (todo.flatMap zk5)
 cw:z3n H' cf' c pS u
 ap:∀ b∈jk xd,b∉cf'
 lt:∀ b∈cf',b < H'.size
 sub:∀ b∈cf',b∈cf\/H.size<=b
 ex:Ext cf H H'
end Go.Proofs.YtbmegmbnlajbbaaGreatDoor
namespace Go.Proofs.YtbmegmbnlajbbaaGreatDoor
open Go Go.Fw Go.Proofs Go.Sort
end Go.Proofs.YtbmegmbnlajbbaaGreatDoor
namespace Go.Proofs.YtbmegmbnlajbbaaGreatDoor
open Go Go.Fw Go.Proofs Go.Sort
theorem qcm {k:List UInt8}{i:Nat}{v:UInt8}:(byteCells k).toArray.setIfInBounds i (.int .u8 (v.toNat:Int))=(byteCells (k.set i v)).toArray:=by simp [byteCells,List.map_set]
theorem qd2 {w:World}{H:Heap}{a:Option Addr}{l lc:Nat}{L:List UInt8}(hw:w.heap=H) (hL:Cells H a (byteCells L)) (hl:l=L.length) :
  zy P znk #[.slice a l lc] w fun e w'=>∃ k,e=.returned (arr k)/\k.length=32/\Ext [] H w'.heap:=by
 subst hl
 refine z2t ?_
 unfold zxc
 refine jm hw fun w1 hw1=>?_
 have hx1:Ext [] H w1.heap:=by rw [hw1];exact .push _
 have hb1:w1.heap[H.size]?=some (.cells (zc P zf) zf (0,0)):=by rw [hw1];exact zk
 refine jm rfl fun w2 hw2=>?_
 have hx2:Ext [] w1.heap w2.heap:=by rw [hw2];exact .push _
 have hd2:w2.heap[w1.heap.size]?=some (.cells (zc P zf) zf (0,0)):=by rw [hw2];exact zk
 rw [qh7] at hb1 hd2
 have hb2:=hx2.get hb1 (by simp)
 have hx02:=hx1.trans hx2
 have s1:=lt_of_get hb1
 have s2:=lt_of_get hd2
 refine Go.Fw.joinP_of (fun _ W=>∃ k,k.length=32/\Ext [] H W.heap/\W.heap[H.size]?=some (.cells (byteCells Bl.nought).toArray zf (0,0))/\W.heap[w1.heap.size]?=some (.cells (byteCells k).toArray zf (0,0))) ?_ ?_
 ·refine Go.Fw.joinP_of (fun _ W=>∃ k,k.length=32/\Ext [] H W.heap/\W.heap[H.size]?=some (.cells (byteCells Bl.nought).toArray zf (0,0))/\W.heap[w1.heap.size]?=some (.cells (byteCells k).toArray zf (0,0))) ?_ (fun _ _ h=>h)
  refine jg (fun (s:Int) W=>∃ (i:Nat) (k:List UInt8),s=(i:Int)/\i<=32/\k.length=32/\Ext [] H W.heap/\W.heap[H.size]?=some (.cells (byteCells Bl.nought).toArray zf (0,0))/\W.heap[w1.heap.size]?=some (.cells (byteCells k).toArray zf (0,0))) (fun s _=>(32-s).toNat)
   ⟨0,Bl.nought,rfl,by omega,Bl.zbf,hx02,hb2,hd2⟩ ?_
  rintro _ W ⟨i,k,rfl,hi,hk,hx,hb,hd⟩
  refine Go.Fw.joinP_of (fun _ W'=>W'=W/\i < 32/\i < L.length) ?_ ?_
  ·refine zx (fun h1=>?_) (fun _=>⟨k,hk,hx,hb,hd⟩)
   exact zx (fun h2=>⟨rfl,by omega,by omega⟩) (fun _=>⟨k,hk,hx,hb,hd⟩)
  rintro _ W' ⟨rfl,hi32,hil⟩
  obtain⟨b9,o9,c9,T9,fr9,hx9,hb9,ho9,hby⟩:=(hL.ext hx (by simp)).bytes (fun (h:L=[])=>absurd (congrArg List.length h) (by simp only [List.length_nil];omega))
  rw [hx9]
  refine zkk i rfl hil ?_
  refine je (s:=.int .u8) (t:=((L.getD i 0).toNat:Int)) rfl hb9 (hby i hil) ?_
  refine zeg i rfl hi32 ?_
  refine zbd rfl hd (by simp [hk];omega) fun w5 hw5=>?_
  rw [qcm] at hw5
  have hx5:Ext [w1.heap.size] W'.heap w5.heap:=by rw [hw5];exact Ext.set _ (by simp)
  refine jd ((i+1:Nat):Int) (by simp) (by omega) (by omega) ?_
  exact⟨⟨i+1,k.set i (L.getD i 0),rfl,by omega,by simp [hk],hx.own hx5 (fun c hc hlt=>by simp at hc;omega),hx5.get hb (by simp;omega),by rw [hw5];exact qc hd⟩,by omega⟩
 rintro _ W ⟨k,hk,hx,hb,hd⟩
 refine qp rfl hd (by simp [hk]) ?_
 refine z4l hk rfl hb (by simp [Bl.nought]) fun w8 hw8=>?_
 have hx8:Ext [H.size] W.heap w8.heap:=by rw [hw8];exact Ext.set _ (by simp)
 have hb8:w8.heap[H.size]?=some (.cells (byteCells k).toArray zf (0,0)):=by rw [hw8];exact qc hb
 refine qp rfl hb8 (by simp [hk]) ?_
 exact⟨k,rfl,hk,hx.own hx8 (fun c hc hlt=>by simp at hc;omega)⟩
theorem qaa {w:World}{H:Heap}{k:List UInt8}{a:Option Addr}{l lc:Nat}{L:List (List UInt8)}(hw:w.heap=H) (hk:k.length=32) (hL:Cells H a (L.flatMap Bl.zat)) (hl:l=L.length) (h32:∀ q∈L,q.length=32) :
  zy P zkx #[arr k,.slice a l lc] w fun e w'=>∃ k',e=.returned (arr k')/\k'.length=32/\Ext [] H w'.heap:=by
 subst hl
 refine zz8 ?_
 unfold ztu
 rw [show (arr k).cells=(byteCells k).toArray from rfl]
 refine jm hw fun w1 hw1=>?_
 have hx1:Ext [] H w1.heap:=by rw [hw1];exact .push _
 have hb1:w1.heap[H.size]?=some (.cells (byteCells k).toArray zf (0,0)):=by rw [hw1];exact zk
 refine jm rfl fun w2 hw2=>?_
 have hx2:Ext [] w1.heap w2.heap:=by rw [hw2];exact .push _
 have hd2:w2.heap[w1.heap.size]?=some (.cells (zc P zf) zf (0,0)):=by rw [hw2];exact zk
 rw [qh7] at hd2
 have hb2:=hx2.get hb1 (by simp)
 have hx02:=hx1.trans hx2
 have s1:=lt_of_get hb1
 have hc0:(byteCells k).toArray[0]?=some (.int .u8 ((k[0]'(by omega)).toNat:Int)):=by simp only [byteCells,List.getElem?_toArray,List.getElem?_map];rw [List.getElem?_eq_getElem (by omega)];rfl
 have hlt:=(k[0]'(by omega)).toNat_lt
 generalize k[0]'(by omega)=v at hc0 hlt
 have fin:∀ {k':List UInt8},k'.length=32->zb8 P (storeVar zf (⟨w1.heap.size,0,none⟩:Addr) (arr k')) w2 fun w3=>ldA P 32 (⟨w1.heap.size,0,none⟩:Addr) w3 fun t4=>∃ k'',Ending.returned (Value.agg t4)=.returned (arr k'')/\k''.length=32/\Ext [] H w3.heap:=by
  intro k' hk'
  refine z4l hk' rfl hd2 (by simp [Bl.nought]) fun w3 hw3=>?_
  have hx3:Ext [w1.heap.size] w2.heap w3.heap:=by rw [hw3];exact Ext.set _ (by simp)
  have hb3:w3.heap[w1.heap.size]?=some (.cells (byteCells k').toArray zf (0,0)):=by rw [hw3];exact qc hd2
  refine qp rfl hb3 (by simp [hk']) ?_
  exact⟨k',rfl,hk',hx02.own hx3 (fun c hc hlt=>by simp at hc;omega)⟩
 refine je (s:=.int .u8) (t:=(v.toNat:Int)) rfl hb2 hc0 ?_
 refine zhb (by omega) (by omega) ?_
 refine zx (fun h=>?_) (fun h=>?_)
 ·have hil:v.toNat < L.length:=by omega
  have hget:=List.getElem?_eq_getElem hil
  have hq:=h32 _ (List.getElem_mem hil)
  generalize L[v.toNat]=q at hget hq
  refine je (s:=.int .u8) (t:=(v.toNat:Int)) rfl hb2 hc0 ?_
  refine zci (i:=v.toNat) Bl.zab (by omega) rfl (hL.ext hx02 (by simp)) rfl hget rfl ?_
  rw [Bl.za7 hq]
  exact fin hq
 ·refine qp rfl hb2 (by simp [hk]) ?_
  exact fin hk
structure RawW (H:Heap) (c:Array Value):Prop where
 has:∃ (kd size:Int) (data:List UInt8) (xp xn xk xs:Option Addr×Nat×Nat) (Ps Ns Ss:List (List UInt8)) (Ks:List Int),c=#[.int .i64 kd,.string (strOf data),.int .i64 size,zb2 xp,zb2 xn,zb2 xk,zb2 xs]/\Bl.Rows H xp.1 xp.2.1 Ps/\Cells H xn.1 (strRow Ns)/\xn.2.1=Ns.length/\Cells H xk.1 (Ks.flatMap fun n=>[Value.int .i64 n])/\xk.2.1=Ks.length/\Bl.Rows H xs.1 xs.2.1 Ss /\
  Ps.length<=1048576/\Ns.length<=1048576/\Ks.length<=1048576/\Ss.length<=1048576/\data.length<=1048576/\∀ n∈Ns,n.length<=1048576
theorem RawW.ext {H H':Heap}{c:Array Value}(h:RawW H c) (hx:Ext [] H H'):RawW H' c:=by
 obtain⟨kd,size,data,xp,xn,xk,xs,Ps,Ns,Ss,Ks,h1,h2,h3,h4,h5,h6,h7,h8⟩:=h.has
 exact⟨kd,size,data,xp,xn,xk,xs,Ps,Ns,Ss,Ks,h1,h2.ext hx (by simp),h3.ext hx (by simp),h4,h5.ext hx (by simp),h6,h7.ext hx (by simp),h8⟩
theorem qjk (k s:Int) (d:ByteArray) (w:World):(Instr.build zh #[(0,.int .i64 k),(1,.string d),(2,.int .i64 s)]).run P w=.ok (.agg #[.int .i64 k,.string d,.int .i64 s,.slice none 0 0,.slice none 0 0]) w:=by kernel_rfl
theorem bT0 (s:ByteArray) (w:World):(Instr.build zu #[(0,.string s)]).run P w=.ok (.agg ([Value.string s,Value.int .i64 0]++byteCells (List.replicate 32 0)).toArray) w:=by kernel_rfl
theorem qdi {H:Heap}{a:Option Addr}{n i:Nat}{m:Int}{Ls:List (List UInt8)}(h:Bl.Rows H a n Ls) (hi:i < Ls.length) (hm:m=(i:Int)){w:World}(hw:w.heap=H){K:(Option Addr×Nat×Nat)->Prop}(hK:∀ x:Option Addr×Nat×Nat,Cells H x.1 (byteCells Ls[i])->x.2.1=Ls[i].length->K x) :
  ixS a n 1 m fun p=>ld .slc p w K:=by
 obtain⟨hn,hr⟩:=h
 obtain⟨b,o,c,T,fr,x,rfl,hb,hc,hC,hl,_⟩:=hr i hi
 refine zkk i hm (by omega) ?_
 exact je (s:=.slc) (t:=x) hw hb hc (hK x hC hl)
theorem zsa {nm:List UInt8}{kd:Int}{k:List UInt8}(hk:k.length=32):setCells (zb0 ⟨nm,kd,Bl.nought⟩).toArray 2 (byteCells k)=(zb0 ⟨nm,kd,k⟩).toArray:=by
 apply Array.ext_getElem?
 intro j
 rw [zdc (by simp [zac,hk])]
 have h0:(byteCells k).length=32:=by simp [hk]
 have e1:zb0 ⟨nm,kd,k⟩=[Value.string (strOf nm),Value.int .i64 kd]++byteCells k:=by unfold zb0;rw [Bl.za7 hk];rfl
 have e2:zb0 ⟨nm,kd,Bl.nought⟩=[Value.string (strOf nm),Value.int .i64 kd]++byteCells Bl.nought:=by unfold zb0;rw [Bl.za7 Bl.zbf];rfl
 rw [e1,e2]
 by_cases hj:j < 2
 ·rw [if_neg (by omega)]
  simp only [List.getElem?_toArray]
  rw [List.getElem?_append_left (by simpa using hj),List.getElem?_append_left (by simpa using hj)]
 ·by_cases hj2:j < 34
  ·rw [if_pos (by omega)]
   simp only [List.getElem?_toArray]
   rw [List.getElem?_append_right (by simp;omega)]
   rfl
  ·rw [if_neg (by omega)]
   simp only [List.getElem?_toArray]
   rw [List.getElem?_eq_none (by simp [Bl.nought];omega),List.getElem?_eq_none (by simp [hk];omega)]
set_option maxHeartbeats 16000000 in
theorem qgp {w:World}{H:Heap}{c:Array Value}(hw:w.heap=H) (hr:RawW H c) :
  zy P zrm #[.agg c] w fun e w'=>∃ n xp xi,e=.returned (.agg (zcx n xp xi).toArray)/\NodM w'.heap H.size n xp xi/\n.parts.length<=1048576/\n.items.length<=1048576/\(∀ i∈n.items,i.name.length<=1048576)/\n.data.length<=1048576/\Ext [] H w'.heap:=by
 obtain⟨kd,size,data,yp,yn,yk,ys,Ps,Ns,Ss,Ks,rfl,h2,h3,h4,h5,h6,h7,b1,b2,b3,b4,b5,b6⟩:=hr.has
 refine z2g ?_
 unfold zxt
 refine jm hw fun w1 hw1=>?_
 have hx1:Ext [] H w1.heap:=by rw [hw1];exact .push _
 have hb1:w1.heap[H.size]?=some (.cells #[.int .i64 kd,.string (strOf data),.int .i64 size,zb2 yp,zb2 yn,zb2 yk,zb2 ys] zgs (0,0)):=by rw [hw1];exact zk
 have s1:=lt_of_get hb1
 refine jm rfl fun w2 hw2=>?_
 have hx2:Ext [] w1.heap w2.heap:=by rw [hw2];exact .push _
 have hd2:w2.heap[w1.heap.size]?=some (.cells (zc P zh) zh (0,0)):=by rw [hw2];exact zk
 have s2:=lt_of_get hd2
 have hb2:=hx2.get hb1 (by simp)
 refine je (s:=.int .i64) (t:=kd) rfl hb2 rfl ?_
 refine je (s:=.str) (t:=strOf data) rfl hb2 rfl ?_
 refine je (s:=.int .i64) (t:=size) rfl hb2 rfl ?_
 refine qm (s:=.any) _ (qjk _ _ _ _) ?_
 refine qa8 ⟨kd,data,size,[],[]⟩ (none,0,0) (none,0,0) rfl fun w4 hw4=>?_
 have hx4:Ext [] w2.heap w4.heap:=by rw [hw4];exact .push _
 have hn4:w4.heap[w2.heap.size]?=some (.cells (zcx ⟨kd,data,size,[],[]⟩ (none,0,0) (none,0,0)).toArray zh (0,0)):=by rw [hw4];exact zk
 have s4:=lt_of_get hn4
 have hx04:=(hx1.trans hx2).trans hx4
 have hb4:=hx4.get hb2 (by simp)
 have hd4:=hx4.get hd2 (by simp)
 generalize hc5:w2.heap.size=c5 at *
 generalize hc4:w1.heap.size=c4 at *
 refine jg (fun (s:Int) W=>∃ (i:Nat) (ps:List (List UInt8)) (xp:Option Addr×Nat×Nat),s=(i:Int)/\i<=Ps.length/\ps.length=i/\(∀ p∈ps,p.length=32)/\W.heap[c5]?=some (.cells (zcx ⟨kd,data,size,ps,[]⟩ xp (none,0,0)).toArray zh (0,0))/\Mine W.heap w4.heap.size zf 32 xp (ps.flatMap Bl.zat)/\Ext [] H W.heap/\W.heap[H.size]?=some (.cells #[.int .i64 kd,.string (strOf data),.int .i64 size,zb2 yp,zb2 yn,zb2 yk,zb2 ys] zgs (0,0))/\W.heap[c4]?=some (.cells (zc P zh) zh (0,0))/\w4.heap.size<=W.heap.size) (fun s _=>(Ps.length-s).toNat)
  ⟨0,[],(none,0,0),rfl,Nat.zero_le _,rfl,by simp,hn4,.inl ⟨rfl,rfl⟩,hx04,hb4,hd4,Nat.le_refl _⟩ ?_
 rintro _ W ⟨i,ps,xp,rfl,hi,hpl,hp32,g1,g2,g3,g4,g5,g6⟩
 have hRp:=h2.ext g3 (by simp)
 refine je (s:=.slc) (t:=yp) rfl g4 rfl ?_
 refine zx (fun hlt=>?_) (fun hge=>?_)
 ·have hil:i < Ps.length:=by have:=h2.1;omega
  refine jv rfl fun w6 hw6=>?_
  rw [<-hw6] at g1 g2 g3 g4 g5 g6 hRp
  refine je (s:=.slc) (t:=xp) rfl g1 rfl ?_
  refine je (s:=.slc) (t:=yp) rfl g4 rfl ?_
  refine qdi hRp hil rfl rfl fun z hz hzl=>?_
  refine zl (qd2 (lc:=z.2.2) rfl hz hzl) ?_
  rintro e w7 ⟨k,rfl,hk,hx7⟩
  refine⟨arr k,rfl,?_⟩
  have k1:=hx7.get g1 (by simp)
  have s7:=hx7.1
  refine⟨je (s:=.slc) (o:=3) (t:=xp) (K:=fun z=>Value.slice z.1 z.2.1 z.2.2=Value.slice xp.1 xp.2.1 xp.2.2) rfl k1 rfl rfl,?_⟩
  refine zua rfl (g2.ext hx7 (by simp)) (by omega) hk (by omega) (fun w10 hx10=>je (s:=.slc) (o:=3) (t:=xp) (K:=fun z=>Value.slice z.1 z.2.1 z.2.2=Value.slice xp.1 xp.2.1 xp.2.2) rfl (hx10.get k1 (by simp)) rfl rfl) fun xp2 w11 hm11 hx11 hs11=>?_
  have own3:∀ {c:Nat},c < w4.heap.size->c∉jk xp:=fun h hc=>by have:=qx g2 _ hc;omega
  have k11:=hx11.get k1 (own3 s4)
  refine zbd rfl k11 (by simp [zcx]) fun w12 hw12=>?_
  have hx12:Ext [c5] w11.heap w12.heap:=by rw [hw12];exact Ext.set _ (by simp)
  have s11:=hx11.1
  have s12:=hx12.1
  refine jd ((i+1:Nat):Int) (by simp) (by omega) (by omega) ?_
  refine⟨⟨i+1,ps++[k],xp2,rfl,by omega,by simp [hpl],fun p hp=>?_,by rw [hw12];exact qc k11,hm11.ext hx12 (fun c hc h=>by simp at h;subst h;have:=qx hm11 _ hc;omega),?_,?_,?_,by omega⟩,by omega⟩
  ·rcases List.mem_append.1 hp with h | h
   ·exact hp32 p h
   ·simp at h;subst h;exact hk
  ·exact ((g3.trans hx7).own hx11 (fun c hc hlt=>by have:=qx g2 _ hc;omega)).own hx12 (fun c hc hlt=>by simp at hc;omega)
  ·exact hx12.get (hx11.get (hx7.get g4 (by simp)) (own3 (by omega))) (by simp;omega)
  ·exact hx12.get (hx11.get (hx7.get g5 (by simp)) (own3 (by omega))) (by simp;omega)
 obtain rfl:i=Ps.length:=by have:=h2.1;omega
 refine jg (fun (s:Int) W'=>∃ (j:Nat) (its:List Itm) (xi:Option Addr×Nat×Nat),s=(j:Int)/\j<=Ns.length/\its.length=j/\(∀ i∈its,i.sum.length=32/\i.name.length<=1048576)/\W'.heap[c5]?=some (.cells (zcx ⟨kd,data,size,ps,its⟩ xp xi).toArray zh (0,0))/\Mine W'.heap w4.heap.size zf 32 xp (ps.flatMap Bl.zat)/\Mine W'.heap w4.heap.size zu 34 xi (its.flatMap zb0)/\Ext [] H W'.heap/\W'.heap[H.size]?=some (.cells #[.int .i64 kd,.string (strOf data),.int .i64 size,zb2 yp,zb2 yn,zb2 yk,zb2 ys] zgs (0,0))/\W'.heap[c4]?=some (.cells (zc P zh) zh (0,0))/\w4.heap.size<=W'.heap.size) (fun s _=>(Ns.length-s).toNat)
  ⟨0,[],(none,0,0),rfl,Nat.zero_le _,rfl,by simp,g1,g2,.inl ⟨rfl,rfl⟩,g3,g4,g5,g6⟩ ?_
 clear g1 g2 g3 g4 g5 g6
 rintro _ W' ⟨j,its,xi,rfl,hj,hil,hi32,g1,g2,g2',g3,g4,g5,g6⟩
 refine je (s:=.slc) (t:=yn) rfl g4 rfl ?_
 refine zx (fun hlt=>?_) (fun hge=>?_)
 ·have hjl:j < Ns.length:=by omega
  have hnm:=b6 _ (List.getElem_mem hjl)
  refine Go.Fw.joinP_of (fun _ W2=>∃ (its2:List Itm) (xi2:Option Addr×Nat×Nat),its2.length=j+1/\(∀ i∈its2,i.sum.length=32/\i.name.length<=1048576)/\W2.heap[c5]?=some (.cells (zcx ⟨kd,data,size,ps,its2⟩ xp xi2).toArray zh (0,0))/\Mine W2.heap w4.heap.size zf 32 xp (ps.flatMap Bl.zat)/\Mine W2.heap w4.heap.size zu 34 xi2 (its2.flatMap zb0)/\Ext [] H W2.heap/\W2.heap[H.size]?=some (.cells #[.int .i64 kd,.string (strOf data),.int .i64 size,zb2 yp,zb2 yn,zb2 yk,zb2 ys] zgs (0,0))/\W2.heap[c4]?=some (.cells (zc P zh) zh (0,0))/\w4.heap.size<=W2.heap.size) ?_ ?_
  rotate_left
  ·rintro _ W2 ⟨its2,xi2,q1,q2,q3,q4,q5,q6,q7,q8,q9⟩
   refine jd ((j+1:Nat):Int) (by simp) (by omega) (by omega) ?_
   have hil:j+1<=Ns.length:=by omega
   exact⟨⟨j+1,its2,xi2,rfl,by omega,q1,q2,q3,q4,q5,q6,q7,q8,q9⟩,by omega⟩
  refine zar ?_
  refine je (s:=.slc) (t:=yn) rfl g4 rfl ?_
  refine zyu rfl (h3.ext g3 (by simp)) h4 hjl rfl ?_
  generalize Ns[j]=nm at hnm
  have e0:∀ kdi,(zb0 ⟨nm,kdi,Bl.nought⟩)=[Value.string (strOf nm),Value.int .i64 kdi]++byteCells (List.replicate 32 0):=fun kdi=>by unfold zb0;rw [Bl.za7 Bl.zbf];rfl
  refine qm (s:=.any) (.agg (zb0 ⟨nm,0,Bl.nought⟩).toArray) (by rw [e0];exact bT0 _ _) ?_
  refine qdt ⟨nm,0,Bl.nought⟩ rfl fun w13 hw13=>?_
  have hx13:Ext [] W'.heap w13.heap:=by rw [hw13];exact .push _
  have hb13:w13.heap[W'.heap.size]?=some (.cells (zb0 ⟨nm,0,Bl.nought⟩).toArray zu (0,0)):=by rw [hw13];exact zk
  have s13:=lt_of_get hb13
  refine Go.Fw.joinP_of (fun _ W2=>∃ kdi,W2.heap[W'.heap.size]?=some (.cells (zb0 ⟨nm,kdi,Bl.nought⟩).toArray zu (0,0))/\Ext [] W'.heap W2.heap) ?_ ?_
  ·refine je (s:=.slc) (t:=yk) rfl (hx13.get g4 (by simp)) rfl ?_
   refine zx (fun hlt2=>?_) (fun _=>⟨0,hb13,hx13⟩)
   have hkl:j < Ks.length:=by omega
   have hget:=List.getElem?_eq_getElem hkl
   generalize Ks[j]=kdi at hget
   refine je (s:=.slc) (t:=yk) rfl (hx13.get g4 (by simp)) rfl ?_
   refine Bl.zd6 (sz:=1) (enc:=fun n:Int=>[Value.int .i64 n]) (i:=j) (fun _=>rfl) (by omega) (h5.ext (g3.trans hx13) (by simp)) h6 hget rfl fun ba oa ca Ta fra _ hba hsa hca _=>?_
   refine je (s:=.int .i64) (t:=kdi) rfl hba (hca 0 (by omega)) ?_
   refine zbd rfl hb13 (by simp [zac]) fun w14 hw14=>?_
   have hx14:Ext [W'.heap.size] w13.heap w14.heap:=by rw [hw14];exact Ext.set _ (by simp)
   exact⟨kdi,by rw [hw14];exact qc hb13,hx13.own hx14 (fun c hc hlt=>by simp at hc;omega)⟩
  rintro _ W2 ⟨kdi,hbW2,hxW2⟩
  refine Go.Fw.joinP_of (fun _ W3=>∃ k,k.length=32/\W3.heap[W'.heap.size]?=some (.cells (zb0 ⟨nm,kdi,k⟩).toArray zu (0,0))/\Ext [] W'.heap W3.heap) ?_ ?_
  ·refine je (s:=.slc) (t:=ys) rfl (hxW2.get g4 (by simp)) rfl ?_
   refine zx (fun hlt2=>?_) (fun _=>⟨Bl.nought,Bl.zbf,hbW2,hxW2⟩)
   have hsl:j < Ss.length:=by have:=h7.1;omega
   refine je (s:=.slc) (t:=ys) rfl (hxW2.get g4 (by simp)) rfl ?_
   refine qdi (h7.ext (g3.trans hxW2) (by simp)) hsl rfl rfl fun z hz hzl=>?_
   refine zl (qd2 (lc:=z.2.2) rfl hz hzl) ?_
   rintro e w16 ⟨k,rfl,hk,hx16⟩
   refine⟨arr k,rfl,?_⟩
   have hb16:=hx16.get hbW2 (by simp)
   refine zay (v:=arr k) (by rw [szD,Bl.xq,hk]) (by rw [Bl.xq];omega) (by simpa [Value.cells,arr] using jo) rfl hb16 (by rw [Bl.xq];simp [zac,hk]) fun w17 hw17=>?_
   have hx17:Ext [W'.heap.size] w16.heap w17.heap:=by rw [hw17];exact Ext.set _ (by simp)
   have e3:setCells (zb0 ⟨nm,kdi,Bl.nought⟩).toArray 2 (arr k).cells.toList=(zb0 ⟨nm,kdi,k⟩).toArray:=zsa hk
   rw [e3] at hw17
   exact⟨k,hk,by rw [hw17];exact qc hb16,(hxW2.trans hx16).own hx17 (fun c hc hlt=>by simp at hc;omega)⟩
  rintro _ W3 ⟨k,hk,hbW3,hxW3⟩
  have k1:=hxW3.get g1 (by simp)
  refine je (s:=.slc) (t:=xi) rfl k1 rfl ?_
  refine qp rfl hbW3 (by simp [zac]) ?_
  have sW3:=hxW3.1
  refine zre (i:=⟨nm,kdi,k⟩) rfl (g2'.ext hxW3 (by simp)) (by omega) (by omega) fun xi2 w20 hm20 hx20 hs20=>?_
  have own3:∀ {c:Nat},c < w4.heap.size->c∉jk xi:=fun h hc=>by have:=qx g2' _ hc;omega
  have k20:=hx20.get k1 (own3 s4)
  refine zbd rfl k20 (by simp [zcx]) fun w21 hw21=>?_
  have hx21:Ext [c5] w20.heap w21.heap:=by rw [hw21];exact Ext.set _ (by simp)
  have s20:=hx20.1
  have s21:=hx21.1
  have m20:=(g2.ext hxW3 (by simp)).ext hx20 (zhz (g2.ext hxW3 (by simp)) (g2'.ext hxW3 (by simp)) (by decide))
  refine⟨its++[⟨nm,kdi,k⟩],xi2,by simp [hil],fun i hi=>?_,by rw [hw21];exact qc k20,m20.ext hx21 (fun c hc h=>by simp at h;subst h;have:=qx m20 _ hc;omega),hm20.ext hx21 (fun c hc h=>by simp at h;subst h;have:=qx hm20 _ hc;omega),?_,?_,?_,by omega⟩
  ·rcases List.mem_append.1 hi with h | h
   ·exact hi32 i h
   ·simp at h;subst h;exact⟨hk,hnm⟩
  ·exact ((g3.trans hxW3).own hx20 (fun c hc hlt=>by have:=qx g2' _ hc;omega)).own hx21 (fun c hc hlt=>by simp at hc;omega)
  ·exact hx21.get (hx20.get (hxW3.get g4 (by simp)) (own3 (by omega))) (by simp;omega)
  ·exact hx21.get (hx20.get (hxW3.get g5 (by simp)) (own3 (by omega))) (by simp;omega)
 ·obtain rfl:j=Ns.length:=by omega
  refine qp rfl g1 rfl ?_
  refine stN ⟨kd,data,size,ps,its⟩ xp xi rfl g5 zcN fun w24 hw24=>?_
  have hx24:Ext [c4] W'.heap w24.heap:=by rw [hw24];exact Ext.set _ (by simp)
  have hd24:w24.heap[c4]?=some (.cells (zcx ⟨kd,data,size,ps,its⟩ xp xi).toArray zh (0,0)):=by rw [hw24];exact qc g5
  refine qp rfl hd24 rfl ?_
  refine⟨⟨kd,data,size,ps,its⟩,xp,xi,rfl,?_,by simp only;omega,by simp only;omega,fun i hi=>(hi32 i hi).2,b5,g3.own hx24 (fun c hc hlt=>by simp at hc;omega)⟩
  have hNM:NodM W'.heap w4.heap.size ⟨kd,data,size,ps,its⟩ xp xi:=⟨g2,g2',hp32,fun i hi=>(hi32 i hi).1⟩
  exact (hNM.ext hx24 (fun c hc=>by simp at hc;omega)).mono (by omega)
theorem zy0 {a:Int}{K:Int->Prop}(hK:∀ m:Nat,m < 18446744073709551616->K (m:Int)):cvI .u64 a K:=by
 have e:(2:Int) ^ 64=18446744073709551616:=by decide
 have h:IntKind.u64.wrap a=a % 18446744073709551616:=by
  simp only [IntKind.wrap,IntKind.bits,IntKind.signed,e,Bool.false_and,Bool.false_eq_true,if_false]
 have h1:=Int.emod_nonneg a (show (18446744073709551616:Int)≠0 by decide)
 have h2:=Int.emod_lt_of_pos a (show (0:Int) < 18446744073709551616 by decide)
 have h3:=hK (a % 18446744073709551616).toNat (by omega)
 rw [Int.toNat_of_nonneg h1] at h3
 exact⟨_,h.symm,h3⟩
theorem qg3 {w:World}{H:Heap}{B i:Nat}{n:Int}{x:Option Addr×Nat×Nat}{L:List (List UInt8)}{k':List UInt8}(hw:w.heap=H) (hm:Mine H B zf 32 x (L.flatMap Bl.zat)) (hi:i < L.length) (hk:k'.length=32) (hn:n=(i:Int)){K:World->Prop}
  (hK:∀ w',Mine w'.heap B zf 32 x ((L.set i k').flatMap Bl.zat)->Ext (jk x) H w'.heap->K w') :
  ixS x.1 x.2.1 32 n fun t=>zb8 P (storeVar zf t (arr k')) w K:=by
 have hl:=hm.len
 rw [zq Bl.zat Bl.zab] at hl
 rcases id hm with⟨rfl,h⟩ | ⟨b,c,h1,h2,h3,h4,h5,h6,h7⟩
 ·simp only at hl;omega
 obtain⟨a,len,cap⟩:=x
 simp only at h1 hl h4 h6
 subst h1
 refine z07 i hn (by simp only;omega) ?_
 refine zay (v:=arr k') (by rw [szD,Bl.xq,hk]) (by rw [Bl.xq];omega) (by simpa [Value.cells,arr] using jo) hw h3 (by rw [Bl.xq];omega) fun w' hw'=>?_
 refine hK w' (z8q (o:=0+i * 32) Bl.zab (by omega) hm hi rfl h3 (by omega) ?_) ?_
 ·rw [hw',Bl.za7 hk];rfl
 ·rw [hw'];exact Ext.set _ (by simp [jk])
theorem zqg {it:Itm}(h:it.sum.length=32):zb0 it=[Value.string (strOf it.name),Value.int .i64 it.kind]++byteCells it.sum:=by
 unfold zb0;rw [Bl.za7 h];rfl
theorem qg1 {w:World}{H:Heap}{i:Nat}{n:Int}{a:Option Addr}{l:Nat}{L:List Itm}(hw:w.heap=H) (hL:Cells H a (L.flatMap zb0)) (hl:l=L.length) (hi:i < L.length) (h32:(L[i]).sum.length=32) (hn:n=(i:Int)){K:Array Value->Prop}
  (hK:K (byteCells (L[i]).sum).toArray):ixS a l 34 n fun t=>ldA P 32 (Addr.add t 2) w K:=by
 have hg:=List.getElem?_eq_getElem hi
 refine Bl.zd6 (i:=i) zac (by omega) hL hl hg hn fun b o c T fr _ hb hsz hc _=>?_
 refine zhc (o:=o+2) hw hb (by omega) ?_
 have e:c.extract (o+2) (o+2+32)=(byteCells (L[i]).sum).toArray:=by
  apply Array.ext_getElem?
  intro j
  rw [Array.getElem?_extract]
  by_cases hj:j < 32
  ·rw [if_pos (by omega)]
   have:=hc (j+2) (by omega)
   rw [zqg h32,List.getElem?_append_right (by simp)] at this
   rw [show o+2+j=o+(j+2) by omega,this]
   simp
  ·rw [if_neg (by omega)]
   rw [Array.getElem?_eq_none (by simp [h32];omega)]
 rw [e];exact hK
theorem z1e {c:Array Value}{o:Nat}{it:Itm}{k':List UInt8}(h1:it.sum.length=32) (hk:k'.length=32) (hsz:o+34<=c.size) (hc:∀ j,j < 34->c[o+j]?=(zb0 it)[j]?):setCells c (o+2) (byteCells k')=setCells c o (zb0 ⟨it.name,it.kind,k'⟩):=by
 apply Array.ext_getElem?
 intro j
 rw [zdc (by simp [hk];omega),zdc (by rw [zac];omega),zac,show (byteCells k').length=32 by simp [hk]]
 have e1:zb0 ⟨it.name,it.kind,k'⟩=[Value.string (strOf it.name),Value.int .i64 it.kind]++byteCells k':=zqg hk
 by_cases hj:o+2<=j/\j < o+2+32
 ·rw [if_pos hj,if_pos (by omega),e1,List.getElem?_append_right (by simp;omega)]
  congr 1
 ·rw [if_neg hj]
  by_cases hj2:o<=j/\j < o+34
  ·rw [if_pos hj2,e1,List.getElem?_append_left (by simp;omega)]
   have:=hc (j-o) (by omega)
   rw [zqg h1,List.getElem?_append_left (by simp;omega),show o+(j-o)=j by omega] at this
   exact this
  ·rw [if_neg hj2]
theorem qg7 {w:World}{H:Heap}{B i:Nat}{n:Int}{x:Option Addr×Nat×Nat}{L:List Itm}{k':List UInt8}(hw:w.heap=H) (hm:Mine H B zu 34 x (L.flatMap zb0)) (hi:i < L.length) (h32:(L[i]).sum.length=32) (hk:k'.length=32) (hn:n=(i:Int)){K:World->Prop}
  (hK:∀ w',Mine w'.heap B zu 34 x ((L.set i ⟨(L[i]).name,(L[i]).kind,k'⟩).flatMap zb0)->Ext (jk x) H w'.heap->K w') :
  ixS x.1 x.2.1 34 n fun t=>zb8 P (storeVar zf (Addr.add t 2) (arr k')) w K:=by
 have hl:=hm.len
 rw [zq zb0 zac] at hl
 have hg:=List.getElem?_eq_getElem hi
 rcases id hm with⟨rfl,h⟩ | ⟨b,c,h1,h2,h3,h4,h5,h6,h7⟩
 ·simp only at hl;omega
 obtain⟨a,len,cap⟩:=x
 simp only at h1 hl h4 h6
 subst h1
 refine Bl.zd6 (i:=i) zac (by omega) hm.cells (by simp only;omega) hg hn fun b2 o c2 T fr hkb hb hsz hc hoff=>?_
 simp only [Option.map_some,Option.some.injEq] at hkb
 subst hkb
 have hoff:=hoff rfl
 rw [h3] at hb
 simp only [Option.some.injEq,Obj.cells.injEq] at hb
 obtain⟨rfl,rfl,rfl⟩:=hb
 refine zay (v:=arr k') (o:=o+2) (by rw [szD,Bl.xq,hk]) (by rw [Bl.xq];omega) (by simpa [Value.cells,arr] using jo) hw h3 (by rw [Bl.xq];omega) fun w' hw'=>?_
 refine hK w' (z8q (o:=o) zac (by omega) hm hi rfl h3 hoff ?_) ?_
 ·rw [hw']
  rw [show (arr k').cells.toList=byteCells k' by simp [Value.cells,arr],z1e h32 hk hsz hc]
 ·rw [hw'];exact Ext.set _ (by simp [jk])
def z1t (H:Heap) (a:Option Addr) (n:Nat):Prop:=∀ i,i < n->∃ b o c T fr,a=some ⟨b,o,none⟩/\H[b]?=some (.cells c T fr)/\o+i * 7+7<=c.size/\RawW H (c.extract (o+i * 7) (o+i * 7+7))
theorem z1t.ext {H H':Heap}{a:Option Addr}{n:Nat}(h:z1t H a n) (hx:Ext [] H H'):z1t H' a n:=by
 intro i hi
 obtain⟨b,o,c,T,fr,h1,h2,h3,h4⟩:=h i hi
 exact⟨b,o,c,T,fr,h1,hx.get h2 (by simp),h3,h4.ext hx⟩
theorem qec {w:World}{H:Heap}{a:Option Addr}{n i:Nat}{m:Int}(hw:w.heap=H) (h:z1t H a n) (hi:i < n) (hm:m=(i:Int)){K:Array Value->Prop}(hK:∀ c,RawW H c->K c):ixS a n 7 m fun p=>ldA P 7 p w K:=by
 obtain⟨b,o,c,T,fr,rfl,hb,hsz,hr⟩:=h i hi
 refine z07 i hm hi ?_
 exact zhc hw hb hsz (hK _ hr)
structure LayR (H:Heap) (B p:Nat) (fp:List Nat) (r:Bl.SM) (k p':Nat) (fp':List Nat) (rl:Bl.SM) (x:Option Addr×Nat×Nat) (ds:List (List UInt8)):Prop where
 st:Bl.Store H fp p 1048576 r k
 rs:Bl.zdf H fp' p' 1048576 rl
 same:∀ k,Bl.vw r k=Bl.vw rl k
 rlen:r.length<=ds.length
 tot:Bl.total r<=4096 * ds.length
 small:∀ k L,Bl.vw r k=some L->L.length<=1099511627775
 sums:Mine H B zf 32 x (ds.flatMap Bl.zat)
 d32:∀ d∈ds,d.length=32
 dlen:ds.length<=20
 lo:∀ b∈fp,B<=b/\b < H.size
 lo':∀ b∈fp',B<=b/\b < H.size
 ap:∀ b∈fp,b∉fp'
 apx:∀ b∈jk x,b∉fp/\b∉fp'
theorem LayR.ext {H H':Heap}{B p:Nat}{fp:List Nat}{r:Bl.SM}{k p':Nat}{fp':List Nat}{rl:Bl.SM}{x:Option Addr×Nat×Nat}{ds:List (List UInt8)}(h:LayR H B p fp r k p' fp' rl x ds) (hx:Ext [] H H'):LayR H' B p fp r k p' fp' rl x ds:=
 { h with st:=h.st.ext hx (by simp),rs:=h.rs.ext hx (by simp),sums:=h.sums.ext hx (by simp),lo:=fun b hb=>⟨(h.lo b hb).1,by have:=(h.lo b hb).2;have:=hx.1;omega⟩,lo':=fun b hb=>⟨(h.lo' b hb).1,by have:=(h.lo' b hb).2;have:=hx.1;omega⟩ }
theorem LayR.mono {H:Heap}{B B' p:Nat}{fp:List Nat}{r:Bl.SM}{k p':Nat}{fp':List Nat}{rl:Bl.SM}{x:Option Addr×Nat×Nat}{ds:List (List UInt8)}(h:LayR H B p fp r k p' fp' rl x ds) (hB:B'<=B):LayR H B' p fp r k p' fp' rl x ds:=
 { h with sums:=h.sums.mono hB,lo:=fun b hb=>⟨by have:=(h.lo b hb).1;omega,(h.lo b hb).2⟩,lo':=fun b hb=>⟨by have:=(h.lo' b hb).1;omega,(h.lo' b hb).2⟩ }
theorem zcu {H:Heap}{fp:List Nat}{p:Nat}{q:Int}{r:Bl.SM}{c:Nat}(h:Bl.Store H fp p q r c):MOk (fun L:List UInt8=>L.length=32) r c:=by
 obtain⟨_,_,_,h,_⟩:=h;exact h
theorem zkz {H:Heap}{fp:List Nat}{p:Nat}{q:Int}{r:Bl.SM}(h:Bl.zdf H fp p q r):(r.map (·.1)).Nodup:=by
 obtain⟨_,_,_,_,_,_,_,h⟩:=h;exact h.rise.nodup
theorem LayR.view {H:Heap}{B p:Nat}{fp:List Nat}{r:Bl.SM}{k p':Nat}{fp':List Nat}{rl:Bl.SM}{x:Option Addr×Nat×Nat}{ds:List (List UInt8)}(h:LayR H B p fp r k p' fp' rl x ds):Bl.total r=Bl.total rl/\r.length=rl.length:=
 Bl.zik (zcu h.st).keys (zkz h.rs) h.same
theorem LayR.big {H:Heap}{B p:Nat}{fp:List Nat}{r:Bl.SM}{k p':Nat}{fp':List Nat}{rl:Bl.SM}{x:Option Addr×Nat×Nat}{ds:List (List UInt8)}(h:LayR H B p fp r k p' fp' rl x ds):∀ y∈rl,y.2.1.2.length < 1099511627776:=by
 intro y hy
 have hg:zbk rl y.1=some y.2.1:=zdu (zkz h.rs) (c:=y.2.2) hy
 have hv:Bl.vw rl y.1=some y.2.1.2:=by unfold Bl.vw;rw [hg];rfl
 have:=h.small y.1 _ ((h.same _).trans hv)
 omega
theorem z5t {l:List Nat}{n:Nat}(h:n∈l):n<=l.sum:=by
 induction l with
 | nil=>cases h
 | cons a l ih=>
  simp only [List.sum_cons]
  rcases List.mem_cons.1 h with rfl | h
  ·omega
  ·have:=ih h;omega
theorem qiv (a:Option Addr):a.map (·.add (0 * 1))=a:=by cases a <;> rfl
theorem qhn {L:List (List UInt8)}(h:∀ p∈L,p.length=32){j:Nat}{k:List UInt8}(hk:k.length=32):∀ p∈L.set j k,p.length=32:=by
 intro p hp
 rcases List.mem_or_eq_of_mem_set hp with h1 | rfl
 ·exact h p h1
 ·exact hk
set_option maxHeartbeats 64000000 in
theorem qjl {w:World}{H:Heap}{a:Option Addr}{n nc:Nat}{dr sp:Int}(hw:w.heap=H) (hR:Bl.Rounds H) (hr:z1t H a n) :
  zy P ztx #[.agg #[.slice a n nc,.int .i64 dr,.int .i64 sp]] w fun e w'=>∃ p fp r k p' fp' rl x ds,e=.returned (.tuple #[.pointer (some ⟨p,0,none⟩),.pointer (some ⟨p',0,none⟩),zb2 x])/\LayR w'.heap H.size p fp r k p' fp' rl x ds/\Ext [] H w'.heap:=by
 have hH0:0 < H.size:=by obtain⟨_,_,_,h,_⟩:=hR;exact lt_of_get h
 refine z5r ?_
 unfold zzx
 refine jm hw fun w1 hw1=>?_
 have hx1:Ext [] H w1.heap:=by rw [hw1];exact .push _
 have hb1:w1.heap[H.size]?=some (.cells #[.slice a n nc,.int .i64 dr,.int .i64 sp] zew (0,0)):=by rw [hw1];exact zk
 have s1:=lt_of_get hb1
 refine zl (Bl.z9t 1048576 rfl) ?_
 rintro e w2 ⟨p,fp0,rfl,hS2,hx2,hfp2⟩
 rw [show max (1048576:Int) 0=1048576 from by decide] at hS2
 refine⟨some ⟨p,0,none⟩,rfl,?_⟩
 refine zl (Bl.qhg 1048576 rfl) ?_
 rintro e w3 ⟨p',rfl,hT3,hx3,hp3,hp3'⟩
 rw [show max (1048576:Int) 0=1048576 from by decide] at hT3
 refine⟨some ⟨p',0,none⟩,rfl,?_⟩
 have hx03:=(hx1.trans hx2).trans hx3
 have s2:=hx2.1
 have s3:=hx3.1
 have hb3:=(hx2.trans hx3).get hb1 (by simp)
 generalize hB:w1.heap.size=B at *
 have hLY0:LayR w3.heap B p fp0 [] 0 p' [p'] [] (none,0,0) []:=⟨hS2.ext hx3 (by simp),hT3,fun _=>rfl,Nat.le_refl _,by simp [Bl.total],by intro k L h;simp [Bl.vw,zbk] at h,.inl ⟨rfl,rfl⟩,by simp,by simp,fun b hb=>⟨(hfp2 b hb).1,by have:=(hfp2 b hb).2;omega⟩,fun b hb=>by simp at hb;subst hb;exact⟨by omega,hp3'⟩,fun b hb h=>by simp at h;subst h;have:=(hfp2 _ hb).2;omega,by simp [jk]⟩
 refine Go.Fw.joinP_of (fun (x:Option Addr×Nat×Nat) W=>∃ ds fp r k fp' rl,LayR W.heap B p fp r k p' fp' rl x ds/\Ext [] H W.heap/\W.heap[H.size]?=some (.cells #[.slice a n nc,.int .i64 dr,.int .i64 sp] zew (0,0))) ?_ ?_
 ·refine jg (fun (s:(Option Addr×Nat×Nat)×Int) W=>∃ (i:Nat) (x:Option Addr×Nat×Nat) (ds:List (List UInt8)) (fp:List Nat) (r:Bl.SM) (k:Nat) (fp':List Nat) (rl:Bl.SM),s=(x,(i:Int))/\ds.length=i/\LayR W.heap B p fp r k p' fp' rl x ds/\Ext [] H W.heap/\W.heap[H.size]?=some (.cells #[.slice a n nc,.int .i64 dr,.int .i64 sp] zew (0,0))) (fun s _=>(20-s.2).toNat)
   ⟨0,(none,0,0),[],fp0,[],0,[p'],[],rfl,rfl,hLY0,hx03,hb3⟩ ?_
  rintro _ W ⟨i,x,ds,fp,r,k,fp',rl,rfl,hdl,hLY,hx,hb⟩
  refine Go.Fw.joinP_of (fun _ W'=>W'=W/\i < 20/\i < n) ?_ ?_
  ·refine je (s:=.slc) (t:=(a,n,nc)) rfl hb rfl ?_
   refine zx (fun h1=>?_) (fun _=>⟨ds,fp,r,k,fp',rl,hLY,hx,hb⟩)
   have h1:(i:Int) < (n:Int):=h1
   refine zx (fun h2=>?_) (fun _=>⟨ds,fp,r,k,fp',rl,hLY,hx,hb⟩)
   have h2:(i:Int) < 20:=h2
   exact⟨rfl,by omega,by omega⟩
  rintro _ V0 ⟨hWW,h20,hin⟩
  have hWW:=hWW.symm
  subst hWW
  refine je (s:=.slc) (t:=(a,n,nc)) rfl hb rfl ?_
  refine qec rfl (hr.ext hx) hin rfl fun c hc=>?_
  refine zl (qgp rfl hc) ?_
  rintro e w6 ⟨nd,xp,xi,rfl,hN6,npl,nil,nnm,ndl,hx6⟩
  refine⟨.agg (zcx nd xp xi).toArray,rfl,?_⟩
  generalize hW5:W.heap=W5 at *
  refine qa8 nd xp xi rfl fun w8 hw8=>?_
  have hx8:Ext [] w6.heap w8.heap:=by rw [hw8];exact .push _
  have hn8:w8.heap[w6.heap.size]?=some (.cells (zcx nd xp xi).toArray zh (0,0)):=by rw [hw8];exact zk
  have hx58:=hx6.trans hx8
  have hN8:=hN6.ext hx8 (by simp)
  have s6:=hx6.1
  have hxl:x.2.1=ds.length:=by have:=hLY.sums.len;rw [zq Bl.zat Bl.zab] at this;omega
  generalize hb9:w6.heap.size=b9 at *
  refine jg (fun (s:Int) V=>∃ (j:Nat) (ps:List (List UInt8)),s=(j:Int)/\j<=nd.parts.length/\ps.length=nd.parts.length/\(∀ q∈ps,q.length=32)/\V.heap[b9]?=some (.cells (zcx nd xp xi).toArray zh (0,0))/\Mine V.heap W5.size zf 32 xp (ps.flatMap Bl.zat)/\Mine V.heap W5.size zu 34 xi (nd.items.flatMap zb0)/\Ext [] W5 V.heap) (fun s _=>(nd.parts.length-s).toNat)
   ⟨0,nd.parts,rfl,Nat.zero_le _,rfl,hN8.p32,hn8,hN8.parts,hN8.items,hx58⟩ ?_
  rintro _ V ⟨j,ps,rfl,hj,hpl,hp32,g1,g2,g3,g4⟩
  have hxpl:xp.2.1=ps.length:=by have:=g2.len;rw [zq Bl.zat Bl.zab] at this;omega
  refine je (s:=.slc) (t:=xp) (o:=3) rfl g1 rfl ?_
  refine zx (fun hlt=>?_) (fun hge=>?_)
  ·have hjl:j < ps.length:=by have hlt:(j:Int) < (xp.2.1:Int):=hlt;omega
   refine jv rfl fun w10 hw10=>?_
   rw [<-hw10] at g1 g2 g3 g4
   refine je (s:=.slc) (t:=xp) (o:=3) rfl g1 rfl ?_
   refine je (s:=.slc) (t:=xp) (o:=3) rfl g1 rfl ?_
   have hget:=List.getElem?_eq_getElem hjl
   have hq:=hp32 _ (List.getElem_mem hjl)
   refine zci (i:=j) Bl.zab (by omega) rfl g2.cells hxpl hget rfl ?_
   rw [Bl.za7 hq]
   refine zl (qaa (L:=ds) (lc:=x.2.2) rfl hq (hLY.sums.ext g4 (by simp)).cells hxl hLY.d32) ?_
   rintro e w11 ⟨k',rfl,hk',hx11⟩
   refine⟨arr k',rfl,?_⟩
   refine⟨je (s:=.slc) (o:=3) (t:=xp) (K:=fun z=>Value.slice z.1 z.2.1 z.2.2=Value.slice xp.1 xp.2.1 xp.2.2) rfl (hx11.get g1 (by simp)) rfl rfl,?_⟩
   refine qg3 (i:=j) rfl (g2.ext hx11 (by simp)) hjl hk' rfl fun w12 hm12 hx12=>?_
   refine jd ((j+1:Nat):Int) (by simp) (by omega) (by omega) ?_
   have own5:∀ c,c∈jk xp->W5.size<=c:=fun c hc=>qx g2 _ hc
   have hb9n:b9∉jk xp:=fun h=>by
    obtain⟨cs,fr,hg⟩:=zgu g2 _ h
    rw [g1] at hg;simp only [Option.some.injEq,Obj.cells.injEq] at hg;exact absurd hg.2.1 (by decide)
   refine⟨⟨j+1,ps.set j k',rfl,by omega,by simpa using hpl,qhn hp32 hk',hx12.get (hx11.get g1 (by simp)) hb9n,hm12,(g3.ext hx11 (by simp)).ext hx12 (zhz (g3.ext hx11 (by simp)) (g2.ext hx11 (by simp)) (by decide)),(g4.trans hx11).own hx12 (fun c hc hlt=>by have:=own5 c hc;omega)⟩,by omega⟩
  clear hj hge
  refine jg (fun (s:Int) V=>∃ (j:Nat) (its:List Itm),s=(j:Int)/\j<=nd.items.length/\its.length=nd.items.length/\(∀ q∈its,q.sum.length=32/\q.name.length<=1048576)/\V.heap[b9]?=some (.cells (zcx nd xp xi).toArray zh (0,0))/\Mine V.heap W5.size zf 32 xp (ps.flatMap Bl.zat)/\Mine V.heap W5.size zu 34 xi (its.flatMap zb0)/\Ext [] W5 V.heap) (fun s _=>(nd.items.length-s).toNat)
   ⟨0,nd.items,rfl,Nat.zero_le _,rfl,fun q hq=>⟨hN8.i32 q hq,nnm q hq⟩,g1,g2,g3,g4⟩ ?_
  clear g1 g2 g3 g4
  rintro _ V2 ⟨j2,its,rfl,hj,hil,hi32,g1,g2,g3,g4⟩
  have hxil:xi.2.1=its.length:=by have:=g3.len;rw [zq zb0 zac] at this;omega
  refine je (s:=.slc) (t:=xi) (o:=4) rfl g1 rfl ?_
  refine zx (fun hlt=>?_) (fun hge=>?_)
  ·have hjl:j2 < its.length:=by have hlt:(j2:Int) < (xi.2.1:Int):=hlt;omega
   refine jv rfl fun w10 hw10=>?_
   rw [<-hw10] at g1 g2 g3 g4
   refine je (s:=.slc) (t:=xi) (o:=4) rfl g1 rfl ?_
   refine je (s:=.slc) (t:=xi) (o:=4) rfl g1 rfl ?_
   have hq:=hi32 _ (List.getElem_mem hjl)
   refine qg1 (i:=j2) rfl g3.cells hxil hjl hq.1 rfl ?_
   refine zl (qaa (L:=ds) (lc:=x.2.2) rfl hq.1 (hLY.sums.ext g4 (by simp)).cells hxl hLY.d32) ?_
   rintro e w11 ⟨k',rfl,hk',hx11⟩
   refine⟨arr k',rfl,?_⟩
   refine⟨je (s:=.slc) (o:=4) (t:=xi) (K:=fun z=>Value.slice z.1 z.2.1 z.2.2=Value.slice xi.1 xi.2.1 xi.2.2) rfl (hx11.get g1 (by simp)) rfl rfl,?_⟩
   refine qg7 (i:=j2) rfl (g3.ext hx11 (by simp)) hjl hq.1 hk' rfl fun w12 hm12 hx12=>?_
   refine jd ((j2+1:Nat):Int) (by simp) (by omega) (by omega) ?_
   have own5:∀ c,c∈jk xi->W5.size<=c:=fun c hc=>qx g3 _ hc
   have hb9n:b9∉jk xi:=fun h=>by
    obtain⟨cs,fr,hg⟩:=zgu g3 _ h
    rw [g1] at hg;simp only [Option.some.injEq,Obj.cells.injEq] at hg;exact absurd hg.2.1 (by decide)
   refine⟨⟨j2+1,its.set j2 ⟨its[j2].name,its[j2].kind,k'⟩,rfl,by omega,by simpa using hil,fun q hq2=>?_,hx12.get (hx11.get g1 (by simp)) hb9n,(g2.ext hx11 (by simp)).ext hx12 (zhz (g2.ext hx11 (by simp)) (g3.ext hx11 (by simp)) (by decide)),hm12,(g4.trans hx11).own hx12 (fun c hc hlt=>by have:=own5 c hc;omega)⟩,by omega⟩
   rcases List.mem_or_eq_of_mem_set hq2 with h | rfl
   ·exact hi32 q h
   ·exact⟨hk',hq.2⟩
  clear hj hge
  refine je (s:=.str) (o:=1) (t:=strOf nd.data) rfl g1 rfl ?_
  refine qha rfl fun y w17 hcy hyl hyc hoy hx17 hlt17=>?_
  have s4:=g4.1
  refine Go.Fw.joinP_of (fun (z:Option Addr×Nat×Nat) U=>∃ L,Cells U.heap z.1 (byteCells L)/\z.2.1=L.length/\z.2.1<=z.2.2/\(∀ b∈jk z,W5.size<=b)/\Ext [] W5 U.heap) ?_ ?_
  ·refine qp rfl (hx17.get g1 (by simp)) rfl ?_
   have hNW:NodW w17.heap ⟨nd.kind,nd.data,nd.size,ps,its⟩ xp xi:=(⟨g2.ext hx17 (by simp),g3.ext hx17 (by simp),hp32,fun q hq=>(hi32 q hq).1⟩:NodM w17.heap W5.size ⟨nd.kind,nd.data,nd.size,ps,its⟩ xp xi).nodW
   refine zl (z4y (n:=⟨nd.kind,nd.data,nd.size,ps,its⟩) rfl hNW (fun q hq=>by have:=(hi32 q hq).2;omega)) ?_
   rintro e w18 ⟨rfl,hx18⟩
   refine⟨_,rfl,?_⟩
   cases hrt:zau ⟨nd.kind,nd.data,nd.size,ps,its⟩ with
   | false=>exact jr rfl ⟨nd.data,hcy.ext hx18 (by simp),hyl,hyc,fun b hb=>by rw [hoy] at hb;have hb:=List.mem_singleton.1 hb;omega,(g4.trans hx17).trans hx18⟩
   | true=>
    refine zai rfl ?_
    refine qp rfl (hx18.get (hx17.get g1 (by simp)) (by simp)) rfl ?_
    refine zl (z5o (n:=⟨nd.kind,nd.data,nd.size,ps,its⟩) rfl (hNW.ext hx18) (zsp hrt)) ?_
    rintro e w19 ⟨y2,rfl,hm19,hx19⟩
    refine⟨y2,rfl,?_⟩
    exact⟨zgk ⟨nd.kind,nd.data,nd.size,ps,its⟩,hm19.cells,by have h:=hm19.len;simp only [byteCells,List.length_map,Nat.mul_one] at h;exact h.symm,zic hm19,fun b hb=>by have:=qx hm19 b hb;have:=hx17.1;have:=hx18.1;omega,((g4.trans hx17).trans hx18).trans hx19⟩
  clear g1 g2 g3 g4 hcy hyl hyc hoy hx17 hlt17 s4
  rintro z U ⟨L0,hcz,hzl,hzc,hzo,hxU⟩
  refine Go.Fw.joinP_of (fun (z:Option Addr×Nat×Nat) U=>∃ L,Cells U.heap z.1 (byteCells L)/\z.2.1=L.length/\z.2.1<=z.2.2/\(∀ b∈jk z,W5.size<=b)/\Ext [] W5 U.heap/\L.length<=4096) ?_ ?_
  ·refine zx (fun h=>?_) (fun h=>?_)
   ·have h:(z.2.1:Int) > 4096:=h
    refine qm (s:=.slc) (if z.2.2=0 then z.1 else z.1.map (·.add (0 * 1)),4096-0,z.2.2-0) (za9 uS8 sz8 .no (.yes rfl) (Nat.zero_le _) (by omega)) ?_
    have e1:(if z.2.2=0 then z.1 else z.1.map (·.add (0 * 1)))=z.1:=by rw [qiv];split <;> rfl
    rw [e1]
    refine⟨L0.take 4096,?_,by simp;omega,by simp only;omega,hzo,hxU,by simp;omega⟩
    have:=hcz.take 4096
    rw [zfv] at this
    exact this
   ·have h:¬(z.2.1:Int) > 4096:=h
    exact⟨L0,hcz,hzl,hzc,hzo,hxU,by omega⟩
  clear hcz hzl hzc hzo hxU
  rintro z2 U2 ⟨L,hcz,hzl,hzc,hzo,hxU,hL4⟩
  have hLU:=hLY.ext hxU
  have hview:=hLU.view
  have sU:=hxU.1
  have hza:∀ (f:List Nat),(∀ b∈f,b < W5.size)->L≠[]->∀ y,z2.1=some y->y.block∉f:=fun f hf _ y hy h=>by
   have h1:=hf _ h
   have h2:=hzo y.block (by unfold jk;rw [hy];simp)
   omega
  have hxHU:=hx.trans hxU
  have sB:H.size<=B:=by omega
  refine zl (Bl.qi0 (L:=L) rfl hLU.st (fun b hb=>(hLU.lo b hb).2) (hR.ext hxHU (by simp)) (fun h=>by have:=(hLU.lo 0 h).1;omega) hcz hzl hzc (hza fp fun b hb=>(hLY.lo b hb).2) (by have:=hLU.tot;have:=hLU.dlen;omega) (by decide) (by decide) (fun k M hM=>by have:=hLU.small k M hM;omega)) ?_
  rintro e w22 ⟨code,r2,k2,fp2,rfl,hS22,hx22,hfp22,hsub22,hput,htot22⟩
  refine⟨(arr (if code=0 then Sha.sum L else Bl.nought),code),rfl,?_⟩
  have hT22:=hLU.rs.ext hx22 (fun b hb h=>hLU.ap b h hb)
  have s22:=hx22.1
  have hzb:∀ (f:List Nat),(∀ b∈f,b < W5.size)->∀ x,z2.1=some x->byteCells L≠[]->x.block∉f:=fun f hf x hx hne=>hza f hf (by rintro rfl;exact hne rfl) x hx
  have hcz22:Cells w22.heap z2.1 (byteCells L):=hcz.ext hx22 (hzb fp fun b hb=>(hLY.lo b hb).2)
  refine zl (Bl.qg0 (L:=L) rfl hT22 (fun b hb=>by have:=(hLU.lo' b hb).2;omega) hcz22 hzl hzc (hza fp' fun b hb=>(hLY.lo' b hb).2) (by have:=hLU.tot;have:=hLU.dlen;omega) (by have:=hLU.rlen;have:=hLU.dlen;omega) (by decide) (by decide) hLU.big (by omega)) ?_
  rintro e w23 ⟨code',rl2,fp2',rfl,hT23,hx23,hsub23,hput',_,_,_⟩
  refine⟨(arr (if code'=0 then Sha.sum L else Bl.nought),code'),rfl,?_⟩
  have hap2:∀ b∈fp2,b∉fp2':=by
   intro b hb hb'
   rcases hsub22 b hb with h | h
   ·rcases hsub23 b hb' with h' | h'
    ·exact hLU.ap b h h'
    ·have:=(hLU.lo b h).2;omega
   ·rcases hsub23 b hb' with h' | h'
    ·have:=(hLU.lo' b h').2;omega
    ·have:=hfp22 b hb;omega
  have hS23:=hS22.ext hx23 (fun b hb h=>by
   rcases hsub22 b hb with h1 | h1
   ·exact hLU.ap b h1 h
   ·have:=(hLU.lo' b h).2;omega)
  have hcz23:Cells w23.heap z2.1 (byteCells L):=hcz22.ext hx23 (hzb fp' fun b hb=>(hLY.lo' b hb).2)
  refine zl (Bl.zpr (L:=L) rfl hcz23 hzl (by omega)) ?_
  rintro e w24 ⟨rfl,hx24⟩
  refine⟨arr (Sha.sum L),rfl,?_⟩
  have hm22:=hLU.sums.ext hx22 (fun b hb=>(hLU.apx b hb).1)
  have hm24:=(hm22.ext hx23 (fun b hb=>(hLU.apx b hb).2)).ext hx24 (by simp)
  have s23:=hx23.1
  have s24:=hx24.1
  have hxlt:∀ b∈jk x,b < U2.heap.size:=fun b hb=>(zbs hLU.sums b hb).1
  have hBW:B<=U2.heap.size:=by have:=(hLU.lo' p' (by obtain⟨_,_,_,h,_⟩:=hLU.rs;exact h));omega
  refine zuw rfl hm24 (by omega) zae (by omega) fun x2 w26 hm26 hx26 hs26=>?_
  have s26:=hx26.1
  have hS26:=(hS23.ext hx24 (by simp)).ext hx26 (fun b hb h=>by
   rcases hsub22 b hb with h1 | h1
   ·exact (hLU.apx b h).1 h1
   ·have:=hxlt b h;omega)
  have hT26:=(hT23.ext hx24 (by simp)).ext hx26 (fun b hb h=>by
   rcases hsub23 b hb with h1 | h1
   ·exact (hLU.apx b h).2 h1
   ·have:=hxlt b h;omega)
  have hlo2:∀ b∈fp2,B<=b/\b < w23.heap.size:=fun b hb=>by
   have:=hfp22 b hb
   rcases hsub22 b hb with h1 | h1
   ·have:=hLU.lo b h1;omega
   ·omega
  have hlo2':∀ b∈fp2',B<=b/\b < w23.heap.size:=fun b hb=>by
   rcases hsub23 b hb with h1 | h1
   ·have:=hLU.lo' b h1;omega
   ·omega
  have hv2:=(Bl.z2j hput hput' hLU.same hview.1).2
  have hsmall2:∀ k M,Bl.vw r2 k=some M->M.length<=1099511627775:=by
   intro k0 M hM
   obtain⟨c0,hc0⟩:∃ c0,(k0,(c0:Bl.BV×Nat))∈r2/\c0.1.2=M:=by
    unfold Bl.vw at hM
    cases hg:zbk r2 k0 with
    | none=>rw [hg] at hM;cases hM
    | some v=>
     rw [hg] at hM
     obtain⟨c1,hc1⟩:=zcc hg
     exact⟨(v,c1),hc1,by simpa using hM⟩
   have h1:c0.1.2.length<=Bl.total r2:=z5t (List.mem_map.2 ⟨_,hc0.1,rfl⟩)
   rw [hc0.2] at h1
   have:=hLU.tot;have:=hLU.dlen
   omega
  have hfin:LayR w26.heap B p fp2 r2 k2 p' fp2' rl2 x2 (ds++[Sha.sum L]):=
   ⟨hS26,hT26,hv2,by have:=qek (zcu hLU.st) (zcu hS22) hput;have:=hLU.rlen;simp;omega,by have:=hLU.tot;simp;omega,hsmall2,hm26,fun d hd=>by
    rcases List.mem_append.1 hd with h | h
    ·exact hLU.d32 d h
    ·simp at h;subst h;exact zae,by simp;omega,fun b hb=>by have:=hlo2 b hb;omega,fun b hb=>by have:=hlo2' b hb;omega,hap2,fun b hb=>by
    rcases hs26 b hb with h | h
    ·have h5:=hxlt b h
     refine⟨fun h1=>?_,fun h1=>?_⟩
     ·rcases hsub22 b h1 with h2 | h2
      ·exact (hLU.apx b h).1 h2
      ·omega
     ·rcases hsub23 b h1 with h2 | h2
      ·exact (hLU.apx b h).2 h2
      ·omega
    ·exact⟨fun h1=>by have:=hlo2 b h1;omega,fun h1=>by have:=hlo2' b h1;omega⟩⟩
  have hlast:Ext fp U2.heap w22.heap:=hx22
  have hxE:Ext [] H w26.heap:=(((hxHU.own hx22 (fun b hb hlt=>by have:=(hLU.lo b hb).1;omega)).own hx23 (fun b hb hlt=>by have:=(hLU.lo' b hb).1;omega)).trans hx24).own hx26 (fun b hb hlt=>by have:=qx hLU.sums b hb;omega)
  refine jd ((i+1:Nat):Int) (by simp) (by omega) (by omega) ?_
  refine⟨⟨i+1,x2,ds++[Sha.sum L],fp2,r2,k2,fp2',rl2,rfl,by simp [hdl],hfin,hxE,?_⟩,by simp only;omega⟩
  have hbU:=hxU.get hb (by simp)
  have hb22:=hx22.get hbU (fun h=>by have:=(hLU.lo _ h).1;omega)
  have hb23:=hx23.get hb22 (fun h=>by have:=(hLU.lo' _ h).1;omega)
  exact hx26.get (hx24.get hb23 (by simp)) (fun h=>by have:=qx hLU.sums _ h;omega)
 clear hLY0 hS2 hT3
 rintro x W ⟨ds,fp,r,k,fp',rl,hLY,hx,hb⟩
 have hxl:x.2.1=ds.length:=by have:=hLY.sums.len;rw [zq Bl.zat Bl.zab] at this;omega
 have hd20:=hLY.dlen
 refine je (s:=.int .i64) (o:=1) (t:=dr) rfl hb rfl ?_
 refine zy0 fun m hm=>?_
 refine jd ((ds.length+1:Nat):Int) (by rw [hxl];simp) (by omega) (by omega) ?_
 refine zf6 (by omega) (by omega) ?_
 refine zw0 m (ds.length+1) rfl rfl (by omega) ?_
 have hmod:=Nat.mod_lt m (show 0 < ds.length+1 by omega)
 refine zhb (by omega) (by omega) ?_
 generalize m % (ds.length+1)=j at hmod |-
 refine Go.Fw.joinP_of (fun _ W'=>∃ r k fp' rl,LayR W'.heap B p fp r k p' fp' rl x ds/\Ext [] H W'.heap/\W'.heap[H.size]?=some (.cells #[.slice a n nc,.int .i64 dr,.int .i64 sp] zew (0,0))) ?_ ?_
 ·refine zx (fun hlt=>?_) (fun _=>⟨r,k,fp',rl,hLY,hx,hb⟩)
  have hjl:j < ds.length:=by have hlt:(j:Int) < (x.2.1:Int):=hlt;omega
  have hget:=List.getElem?_eq_getElem hjl
  have hq:=hLY.d32 _ (List.getElem_mem hjl)
  generalize ds[j]=d at hget hq
  refine zci (i:=j) Bl.zab (by omega) rfl hLY.sums.cells hxl hget rfl ?_
  rw [Bl.za7 hq]
  refine zl (Bl.qd7 rfl hLY.st hq (by have:=hLY.tot;omega)) ?_
  rintro e w28 ⟨rfl,hS28,hx28⟩
  refine⟨_,rfl,?_⟩
  have hm28:=hLY.sums.ext hx28 (fun b hb=>(hLY.apx b hb).1)
  refine zci (i:=j) Bl.zab (by omega) rfl hm28.cells hxl hget rfl ?_
  rw [Bl.za7 hq]
  have hT28:=hLY.rs.ext hx28 (fun b hb h=>hLY.ap b h hb)
  refine zl (Bl.qeu rfl hT28 hq (by have:=hLY.view.2;have:=hLY.rlen;omega)) ?_
  rintro e w29 ⟨rfl,rl2,fp2',hT29,hx29,hsub29,hv29⟩
  refine⟨_,rfl,?_⟩
  have s28:=hx28.1
  have s29:=hx29.1
  have hxlt:∀ b∈jk x,b < W.heap.size:=fun b hb=>(zbs hLY.sums b hb).1
  have htl:Bl.total (zi9 r d)<=Bl.total r/\(zi9 r d).length<=r.length:=by
   refine⟨?_,List.length_filter_le _ _⟩
   cases hg:zbk r d with
   | none=>
    have:zi9 r d=r:=List.filter_eq_self.2 fun y hy=>by
     simp only [bne_iff_ne,ne_eq]
     rintro rfl
     have:=zdu (zcu hLY.st).keys (c:=y.2.2) (show (y.1,y.2.1,y.2.2)∈r from hy)
     rw [hg] at this;cases this
    rw [this];exact Nat.le_refl _
   | some v=>have:=Bl.zvl (zcu hLY.st) hg;omega
  refine⟨zi9 r d,k,fp2',rl2,⟨hS28.ext hx29 (fun b hb h=>hLY.ap b hb h),hT29,fun k'=>by rw [Bl.zs9,hv29,hLY.same],by have:=hLY.rlen;omega,by have:=hLY.tot;omega,fun k' M hM=>by
    rw [Bl.zs9] at hM
    split at hM
    ·cases hM
    ·exact hLY.small k' M hM,hm28.ext hx29 (fun b hb=>(hLY.apx b hb).2),hLY.d32,hLY.dlen,fun b hb=>by have:=hLY.lo b hb;omega,fun b hb=>by
    rcases hsub29 b hb with h | h
    ·have:=hLY.lo' b h;omega
    ·have:=hLY.lo' p' (by obtain⟨_,_,_,h,_⟩:=hLY.rs;exact h);omega,fun b hb h=>by
    rcases hsub29 b h with h | h
    ·exact hLY.ap b hb h
    ·have:=hLY.lo b hb;omega,fun b hb=>⟨(hLY.apx b hb).1,fun h=>by
     rcases hsub29 b h with h | h
     ·exact (hLY.apx b hb).2 h
     ·have:=hxlt b hb;omega⟩⟩,(hx.own hx28 (fun b hb hlt=>by have:=(hLY.lo b hb).1;omega)).own hx29 (fun b hb hlt=>by have:=(hLY.lo' b hb).1;omega),?_⟩
  exact hx29.get (hx28.get hb (fun h=>by have:=(hLY.lo _ h).1;omega)) (fun h=>by have:=(hLY.lo' _ h).1;omega)
 clear hLY hx hb
 rintro _ W ⟨r,k,fp',rl,hLY,hx,hb⟩
 refine je (s:=.int .i64) (o:=2) (t:=sp) rfl hb rfl ?_
 refine zy0 fun m hm=>?_
 refine jd ((ds.length+1:Nat):Int) (by rw [hxl];simp) (by omega) (by omega) ?_
 refine zf6 (by omega) (by omega) ?_
 refine zw0 m (ds.length+1) rfl rfl (by omega) ?_
 have hmod:=Nat.mod_lt m (show 0 < ds.length+1 by omega)
 refine zhb (by omega) (by omega) ?_
 generalize m % (ds.length+1)=j at hmod |-
 refine Go.Fw.joinP_of (fun _ W'=>∃ r k rl,LayR W'.heap B p fp r k p' fp' rl x ds/\Ext [] H W'.heap) ?_ ?_
 ·refine zx (fun hlt=>?_) (fun _=>⟨r,k,rl,hLY,hx⟩)
  have hjl:j < ds.length:=by have hlt:(j:Int) < (x.2.1:Int):=hlt;omega
  have hget:=List.getElem?_eq_getElem hjl
  have hq:=hLY.d32 _ (List.getElem_mem hjl)
  generalize ds[j]=d at hget hq
  refine zci (i:=j) Bl.zab (by omega) rfl hLY.sums.cells hxl hget rfl ?_
  rw [Bl.za7 hq]
  refine zl (Bl.qe0 (at_:=0) (t:=1) rfl hLY.st hq) ?_
  rintro e w28 ⟨rfl,r2,hS28,hx28,ht28,hl28,hv28⟩
  refine⟨_,rfl,?_⟩
  have hm28:=hLY.sums.ext hx28 (fun b hb=>(hLY.apx b hb).1)
  refine zci (i:=j) Bl.zab (by omega) rfl hm28.cells hxl hget rfl ?_
  rw [Bl.za7 hq]
  have hT28:=hLY.rs.ext hx28 (fun b hb h=>hLY.ap b h hb)
  refine zl (Bl.qct (at_:=0) (t:=1) rfl hT28 hq (by have:=hLY.view.2;have:=hLY.rlen;omega)) ?_
  rintro e w29 ⟨rfl,rl2,hT29,hx29,hv29⟩
  refine⟨_,rfl,?_⟩
  have s28:=hx28.1
  have s29:=hx29.1
  refine⟨r2,k,rl2,⟨hS28.ext hx29 (fun b hb h=>hLY.ap b hb h),hT29,fun k'=>by rw [hv28,hv29,hLY.same,hLY.same],by have:=hLY.rlen;omega,by have:=hLY.tot;omega,fun k' M hM=>by
    rw [hv28] at hM
    split at hM
    ·cases hg:Bl.vw r d with
     | none=>rw [hg] at hM;cases hM
     | some L0=>
      rw [hg] at hM
      simp only [Option.map_some,Option.some.injEq] at hM
      subst hM
      have:=hLY.small d L0 hg
      simpa [Bl.spoilt] using this
    ·exact hLY.small k' M hM,hm28.ext hx29 (fun b hb=>(hLY.apx b hb).2),hLY.d32,hLY.dlen,fun b hb=>by have:=hLY.lo b hb;omega,fun b hb=>by have:=hLY.lo' b hb;omega,hLY.ap,hLY.apx⟩,(hx.own hx28 (fun b hb hlt=>by have:=(hLY.lo b hb).1;omega)).own hx29 (fun b hb hlt=>by have:=(hLY.lo' b hb).1;omega)⟩
 clear hLY hx hb
 rintro _ W ⟨r,k,rl,hLY,hx⟩
 exact⟨p,fp,r,k,p',fp',rl,x,ds,rfl,hLY.mono (by omega),hx⟩
end Go.Proofs.YtbmegmbnlajbbaaGreatDoor
namespace Go.Proofs.YtbmegmbnlajbbaaGreatDoor
open Go Go.Fw Go.Proofs Go.Sort
theorem Mets.same {v:List UInt8->Option (List UInt8)}{n:Nod}{M:List Pr}{s t t':LSt}(h:Mets v n M s t) (h':Mets v n M s t'):t=t':=by
 induction h with
 | nil=>cases h';rfl
 | kid hk hr _ ih=>
  cases h' with
  | kid _ hr' hm'=>
   obtain⟨_,rfl,_⟩:=hr.same hr'
   exact ih hm'
  | foul hne _=>exact absurd hk hne
 | foul hne _ ih=>
  cases h' with
  | kid hk _ _=>exact absurd hk hne
  | foul _ hm'=>exact ih hm'
abbrev zwe (l:List (List UInt8)):Prop:=l.Pairwise fun a b=>Lib.compareBytes a b < 0
theorem z7v {a:List UInt8}:¬Lib.compareBytes a a < 0:=by rw [zez.2 rfl];omega
theorem z4o:∀ {a b:List (List UInt8)},zwe a->zwe b->(∀ k,k∈a ↔ k∈b)->a=b
 | [],[],_,_,_=>rfl
 | [],y :: b,_,_,h=>by have:=(h y).2 (by simp);cases this
 | x :: a,[],_,_,h=>by have:=(h x).1 (by simp);cases this
 | x :: a,y :: b,ha,hb,h=>by
  obtain⟨ha1,ha2⟩:=List.pairwise_cons.1 ha
  obtain⟨hb1,hb2⟩:=List.pairwise_cons.1 hb
  have hxy:x=y:=by
   rcases List.mem_cons.1 ((h x).1 (by simp)) with e | h1
   ·exact e
   ·rcases List.mem_cons.1 ((h y).2 (by simp)) with e | h2
    ·exact e.symm
    ·have h3:=hb1 _ h1
     have h4:=ha1 _ h2
     rw [zji] at h3;omega
  subst hxy
  congr 1
  refine z4o ha2 hb2 fun k=>⟨fun hk=>?_,fun hk=>?_⟩
  ·rcases List.mem_cons.1 ((h k).1 (by simp [hk])) with e | h1
   ·subst e;exact absurd (ha1 _ hk) z7v
   ·exact h1
  ·rcases List.mem_cons.1 ((h k).2 (by simp [hk])) with e | h1
   ·subst e;exact absurd (hb1 _ hk) z7v
   ·exact h1
theorem z6m {ys:List (List UInt8)}(ho:Bl.zvc ys) (h32:∀ L∈ys,L.length=32) (hn:ys.Nodup):zwe ys:=by
 have h2:ys.Pairwise fun a b=>(¬Lib.compareBytes (Bl.pad b) (Bl.pad a) < 0)/\a≠b:=List.Pairwise.and ho (List.nodup_iff_pairwise_ne.1 hn)
 refine List.Pairwise.imp_of_mem (fun {a b} ha hb h=>?_) h2
 obtain⟨h3,h4⟩:=h
 rw [Bl.z0z (h32 a ha),Bl.z0z (h32 b hb)] at h3
 have h5:Lib.compareBytes a b≠0:=fun e=>h4 (zez.1 e)
 rw [zji] at h3
 rcases zg7 (a:=a) (b:=b) with e | e | e <;> omega
inductive MarkR (v:List UInt8->Option (List UInt8)):List Itm->List (List UInt8)->List (List UInt8)->Int->Prop
 | nil {S:List (List UInt8)}:MarkR v [] S S 0
 | kind {i:Itm}{l:List Itm}{S:List (List UInt8)}:i.kind≠2->i.kind≠3->MarkR v (i :: l) S S 100
 | stop {n:Nat}{i:Itm}{l:List Itm}{S:List (List UInt8)}{t:RSt}{c:Int}:(i.kind=2\/i.kind=3)->Run (zcb v) n [(i.sum,i.kind)] ([],[]) t c->c≠0->MarkR v (i :: l) S S c
 | step {n:Nat}{i:Itm}{l:List Itm}{S S':List (List UInt8)}{t:RSt}{c:Int}:(i.kind=2\/i.kind=3)->Run (zcb v) n [(i.sum,i.kind)] ([],[]) t 0->MarkR v l (S++t.2) S' c->MarkR v (i :: l) S S' c
theorem MarkR.same {v:List UInt8->Option (List UInt8)}{l:List Itm}{S S1 S2:List (List UInt8)}{c1 c2:Int}(h:MarkR v l S S1 c1) (h':MarkR v l S S2 c2):S1=S2/\c1=c2:=by
 induction h with
 | nil=>cases h';exact⟨rfl,rfl⟩
 | kind h2 h3=>
  cases h' with
  | kind _ _=>exact⟨rfl,rfl⟩
  | stop hk _ _=>rcases hk with h | h;exact absurd h h2;exact absurd h h3
  | step hk _ _=>rcases hk with h | h;exact absurd h h2;exact absurd h h3
 | stop hk hr hc=>
  cases h' with
  | kind h2 h3=>rcases hk with h | h;exact absurd h h2;exact absurd h h3
  | stop _ hr' _=>obtain⟨_,_,e⟩:=hr.same hr';exact⟨rfl,e⟩
  | step _ hr' _=>obtain⟨_,_,e⟩:=hr.same hr';exact absurd e hc
 | step hk hr _ ih=>
  cases h' with
  | kind h2 h3=>rcases hk with h | h;exact absurd h h2;exact absurd h h3
  | stop _ hr' hc=>obtain⟨_,_,e⟩:=hr.same hr';exact absurd e.symm hc
  | step _ hr' hm=>obtain⟨_,e,_⟩:=hr.same hr';subst e;exact ih hm
theorem qab {κ ν:Type} [DecidableEq κ]:∀ {l:ML κ ν}{k:κ},(l.map (·.1)).Nodup->(zbk l k).isSome=true->(zi9 l k).length+1=l.length
 | [],k,_,h=>by simp [zbk] at h
 | x :: l,k,hn,h=>by
  rw [List.map_cons] at hn
  obtain⟨h1,h2⟩:=List.nodup_cons.1 hn
  by_cases he:x.1=k
  ·have hf:l.filter (fun y=>y.1 != k)=l:=List.filter_eq_self.2 fun y hy=>by
    simp only [bne_iff_ne,ne_eq]
    intro e
    exact h1 (by rw [he,<-e];exact List.mem_map.2 ⟨y,hy,rfl⟩)
   have:zi9 (x :: l) k=l:=by
    unfold zi9
    rw [List.filter_cons,if_neg (by simp [he]),hf]
   rw [this];rfl
  ·have hm:zbk (x :: l) k=zbk l k:=by
    unfold zbk
    rw [List.find?_cons]
    have:(x.1==k)=false:=by simp [he]
    rw [this]
   rw [hm] at h
   have ih:=qab h2 h
   have:zi9 (x :: l) k=x :: zi9 l k:=by
    unfold zi9
    rw [List.filter_cons,if_pos (by simp [he])]
   rw [this];simp only [List.length_cons];omega
theorem qej {w:World}{H:Heap}(m:Option Nat) (hw:w.heap=H):zy P zbh #[.map m] w fun e w'=>
  e=.returned (.func (.func zao) #[] #[.pointer (some ⟨H.size,0,none⟩)])/\w'.heap=H.push (.cells #[.map m] ji):=by
 refine zd8 ?_
 unfold zcd
 refine jm hw fun w1 hw1=>?_
 exact qm (s:=.any) _ rfl ⟨rfl,hw1⟩
set_option maxHeartbeats 4000000 in
theorem z9q {w:World}{H:Heap}{b m:Nat}{r:ML (List UInt8) Int}{c:Nat}(hw:w.heap=H) (hb:H[b]?=some (.cells #[.map (some m)] ji (0,0))) (hm:H[m]?=some (.map (ents arr (vl iv r)) c)) (hr:MOk (fun L:List UInt8=>L.length=32) r c) :
  z7s P (.func (.func zao) #[] #[.pointer (some ⟨b,0,none⟩)]) (fun xs=>xs.Perm (r.map (·.1))) (fun pre x=>x∈r.map (·.1)/\pre.length < r.length) (fun x=>#[arr x]) [b,m] w:=by
 refine⟨_,_,rfl,fun l I J w1 M hx1 hM hst h0 hY=>?_⟩
 have hb1:=(hw▸hx1).get hb (by simp)
 have hm1:=(hw▸hx1).get hm (by simp)
 refine zd0 ?_
 unfold zb6
 simp only [qg]
 refine je (s:=.map) (t:=some m) rfl hb1 rfl ?_
 refine zah (s:=.ptr) (some ⟨w1.heap.size,0,none⟩) _ (zy7 uMt rfl hm1) ?_
 have hlt:m < w1.heap.size:=lt_of_get hm1
 refine zjd (fun n _ W=>∃ pre seen last,I pre W/\W.heap[m]?=some (.map (ents arr (vl iv r)) c)/\W.heap[w1.heap.size]?=some (.mapIter (some m) c seen last)/\c<=last /\
   pre.Perm ((r.filter fun y=>seen.contains y.2.2).map (·.1))/\n=(r.filter fun y=>!seen.contains y.2.2).length) (r.filter fun y=>!(#[]:Array Nat).contains y.2.2).length ?_ ?_
 ·refine⟨[],#[],c,hst _ _ _ h0 (.new (Nat.le_refl _) (.push _)),zc6 hm1,zk,Nat.le_refl _,?_,rfl⟩
  simp
 rintro n _ W ⟨pre,seen,last,hI,hmW,hrW,hcl,hpre,rfl⟩ K hK
 rcases z3u (P:=P) (ty:=zdb) rfl hmW hrW (fun x hx=>hr.old x hx) hcl with⟨hall,W1,hn,hc1,hh1⟩ | ⟨x,hx,hns,W1,hn,hc1,hh1⟩
 ·refine zah (s:=.any) _ W1 hn ?_ hc1
  refine zkc (s:=.bool) false rfl rfl ?_
  refine jr rfl ?_
  refine⟨⟨_,rfl⟩,.inl ⟨pre,?_,hst _ _ _ hI (.new (by have:=lt_of_get hrW;omega) (by rw [hh1];exact .refl _ _))⟩⟩
  have:(r.filter fun y=>seen.contains y.2.2)=r:=List.filter_eq_self.2 fun y hy=>by simpa using hall y hy
  rw [this] at hpre
  exact hpre
 ·refine zah (s:=.any) _ W1 hn ?_ hc1
  refine zkc (s:=.bool) true rfl rfl ?_
  refine zai rfl ?_
  have hrlt:=lt_of_get hrW
  have hr1:W1.heap[w1.heap.size]?=some (.mapIter (some m) c (seen.push x.2.2) c):=by rw [hh1];exact Array.getElem?_setIfInBounds_self_of_lt hrlt
  have hm2:W1.heap[m]?=some (.map (ents arr (vl iv r)) c):=by rw [hh1,Array.getElem?_setIfInBounds_ne (by omega)];exact hmW
  refine qm (s:=.any) _ (zyx (last:=c) rfl hm2 hr1 hx hr) ?_
  refine zkc (s:=.any) (arr x.1) rfl rfl ?_
  have hxl:x.1.length=32:=hr.fine x hx
  refine zv6 (P:=P) (H:=W1.heap) (Bl.zjj.trans (by rw [Bl.xq,hxl])) (by rw [Bl.zsj,Bl.xq,hxl];simp) (by rw [Bl.xq,hxl];omega) Bl.zjc rfl fun W2 hW2=>?_
  refine qp hW2 zk (by rw [Bl.xq,hxl]) ?_
  have hA:Beside w1.heap.size W W1:=⟨w1.heap.size,Nat.le_refl _,(fun o ho=>by rw [hrW] at ho;cases ho;intro _ _ _ h;cases h),(by rw [hh1];exact⟨by simp,fun b _ hn=>Array.getElem?_setIfInBounds_ne (by rintro rfl;exact hn (by simp))⟩)⟩
  have hs1:W1.heap.size=W.heap.size:=by rw [hh1];simp
  have hx12:Ext [] W1.heap W2.heap:=by rw [hW2];exact .push _
  have hI2:I pre W2:=hst _ _ _ (hst _ _ _ hI hA) (.new (by omega) hx12)
  have hm3:W2.heap[m]?=some (.map (ents arr (vl iv r)) c):=hx12.get hm2 (by simp)
  have hr2:W2.heap[w1.heap.size]?=some (.mapIter (some m) c (seen.push x.2.2) c):=hx12.get hr1 (by simp)
  have hplen:pre.length < r.length:=by
   rw [hpre.length_eq,List.length_map]
   have h1:=zrh hx hns
   have h2:(r.filter fun y=>seen.contains y.2.2).length+(r.filter fun y=>!seen.contains y.2.2).length=r.length:=by
    rw [<-List.length_append]
    exact (List.filter_append_perm (fun y:List UInt8×Int×Nat=>seen.contains y.2.2) r).length_eq
   omega
  refine ziv ((hY pre x.1 W2 ⟨List.mem_map_of_mem hx,hplen⟩ hI2).mono ?_)
  rintro e W3 ⟨hx3,⟨rfl,hI3⟩ | ⟨rfl,hJ3⟩⟩
  ·refine⟨true,rfl,?_⟩
   refine jr rfl ?_
   refine hK _ _ _ (zrh hx hns) ⟨pre++[x.1],seen.push x.2.2,c,hI3,hx3.get hm3 hlt (fun h=>(hM _ h).2 (by simp)),hx3.2.2 _ _ (Nat.le_refl _) hr2 (by intro _ _ _ h;cases h),Nat.le_refl _,?_,rfl⟩
   refine .trans ?_ ((z0b hr.born hx hns).map _).symm
   rw [List.map_append]
   exact hpre.append_right _
  ·refine⟨false,rfl,?_⟩
   exact zai rfl ⟨⟨_,rfl⟩,.inr hJ3⟩
def zt8 (H:Heap) (m:Nat) (S:List (List UInt8)):Prop:=∃ (clk:Nat) (l:ML (List UInt8) Int),H[m]?=some (.map (ents arr (vl iv l)) clk)/\MOk (fun L:List UInt8=>L.length=32) l clk/\∀ d,zbk l d=if d∈S then some 1 else none
theorem zt8.ext {H H':Heap}{M:List Nat}{m:Nat}{S:List (List UInt8)}(h:zt8 H m S) (hx:Ext M H H') (hm:m∉M):zt8 H' m S:=by
 obtain⟨clk,l,h1,h2,h3⟩:=h
 exact⟨clk,l,hx.get h1 hm,h2,h3⟩
set_option maxHeartbeats 16000000 in
theorem z5e {fp:List Nat}{pS:Nat}{q:Int}{r:Bl.SM}{k:Nat}(hlen:∀ k L,Bl.vw r k=some L->L.length < 1099511627776){w:World}{H:Heap}{a:Option Addr}{n nc:Nat}{L:List Itm}(hw:w.heap=H) (hS:Bl.Store H fp pS q r k) (hfp:∀ b∈fp,b < H.size) (hR:Bl.Rounds H) (hrl:r.length<=1000) (hL:Cells H a (L.flatMap zb0)) (hn:n=L.length) (h32:∀ i∈L,i.sum.length=32) (hl20:L.length<=20) :
  zy P zgl #[.pointer (some ⟨pS,0,none⟩),.slice a n nc] w fun e w'=>∃ (S:List (List UInt8)) (c:Int),MarkR (Bl.vw r) L [] S c/\Ext [] H w'.heap/\(∀ d∈S,d.length=32)/\S.length<=2000000000 /\
   ((c≠0/\e=.returned (.tuple #[.map none,.int .i64 c]))\/(c=0/\∃ m,e=.returned (.tuple #[.map (some m),.int .i64 0])/\H.size<=m/\m < w'.heap.size/\zt8 w'.heap m S)):=by
 subst hn
 have hH0:0 < H.size:=by obtain⟨_,_,_,h,_⟩:=hR;exact lt_of_get h
 refine zn9 ?_
 unfold zlm
 refine jr rfl ?_
 refine zah (s:=.map) (some H.size) _ (zii hw) ?_
 generalize hw1:({ w with heap:=H.push (.map #[] 0) }:World)=w1
 have hh1:w1.heap=H.push (.map #[] 0):=by rw [<-hw1]
 have hx1:Ext [] H w1.heap:=by rw [hh1];exact .push _
 have hm1:w1.heap[H.size]?=some (.map #[] 0):=by rw [hh1];exact zk
 have s1:=lt_of_get hm1
 have hun:∀ s,unseen r s<=1000:=fun s=>Nat.le_trans (List.length_filter_le _ _) hrl
 refine jg (fun (s:Int) W=>∃ (i:Nat) (S:List (List UInt8)),s=(i:Int)/\i<=L.length/\(∀ S' c,MarkR (Bl.vw r) (L.drop i) S S' c->MarkR (Bl.vw r) L [] S' c)/\(∀ d∈S,d.length=32)/\S.length<=100000000 * i/\zt8 W.heap H.size S/\Ext [] H W.heap/\H.size < W.heap.size) (fun s _=>(L.length-s).toNat)
  ⟨0,[],rfl,Nat.zero_le _,fun _ _ h=>h,by simp,by simp,⟨0,[],hm1,.nil,by intro d;simp [zbk]⟩,hx1,s1⟩ ?_
 rintro _ W ⟨i,S,rfl,hi,hrec,hS32,hSl,hM,hxW,sW⟩
 refine zx (fun hlt=>?_) (fun hge=>?_)
 rotate_left
 ·obtain rfl:i=L.length:=by omega
  rw [List.drop_length] at hrec
  exact⟨S,0,hrec S 0 .nil,hxW,hS32,by omega,.inr ⟨rfl,H.size,rfl,Nat.le_refl _,sW,hM⟩⟩
 have hil:i < L.length:=by omega
 have hget:=List.getElem?_eq_getElem hil
 have hk32:=h32 _ (List.getElem_mem hil)
 rw [List.drop_eq_getElem_cons hil] at hrec
 generalize L[i]=it at hget hk32 hrec
 refine zci (i:=i) zac (by omega) rfl (hL.ext hxW (by simp)) rfl hget rfl ?_
 refine qdt it rfl fun w4 hw4=>?_
 have hx4:Ext [] W.heap w4.heap:=by rw [hw4];exact .push _
 have hb4:w4.heap[W.heap.size]?=some (.cells (zb0 it).toArray zu (0,0)):=by rw [hw4];exact zk
 refine zhc rfl hb4 (by simp [zac]) ?_
 rw [show (zb0 it).toArray.extract 2 (2+32)=(Bl.zat it.sum).toArray from qdx,Bl.za7 hk32]
 refine je (s:=.int .i64) (t:=it.kind) rfl hb4 rfl ?_
 have hx04:=hxW.trans hx4
 have hS4:=hS.ext hx04 (by simp)
 have stop:∀ {S':List (List UInt8)}{c:Int}{w':World},Ext [] H w'.heap->c≠0->MarkR (Bl.vw r) L [] S' c->(∀ d∈S',d.length=32)->S'.length<=2000000000->∃ (S:List (List UInt8)) (c':Int),MarkR (Bl.vw r) L [] S c'/\Ext [] H w'.heap/\(∀ d∈S,d.length=32)/\S.length<=2000000000 /\
   ((c'≠0/\Ending.returned (.tuple #[.map none,.int .i64 c])=.returned (.tuple #[.map none,.int .i64 c']))\/(c'=0/\∃ m,Ending.returned (.tuple #[.map none,.int .i64 c])=.returned (.tuple #[.map (some m),.int .i64 0])/\H.size<=m/\m < w'.heap.size/\zt8 w'.heap m S)):=fun hx hc hr h1 h2=>⟨_,_,hr,hx,h1,h2,.inl ⟨hc,rfl⟩⟩
 by_cases hkd:it.kind=2\/it.kind=3
 rotate_left
 ·have h2:it.kind≠2:=fun h=>hkd (.inl h)
  have h3:it.kind≠3:=fun h=>hkd (.inr h)
  refine zl (z6e rfl h2 h3) ?_
  rintro e w5 ⟨rfl,hx5⟩
  refine⟨((none,0,0),100),rfl,?_⟩
  exact zai rfl (stop (hx04.trans hx5) (by decide) (hrec S 100 (.kind h2 h3)) hS32 (by omega))
 obtain⟨N,t,c,hrun,hN⟩:=zxg r [(it.sum,it.kind)] ([],[])
 have hu:=hun []
 simp only [List.length_cons,List.length_nil] at hN
 have hN2:N<=100000000:=by omega
 refine zl (qdh hlen rfl hS4 (fun b hb=>by have:=hfp b hb;have:=hx04.1;omega) (hR.ext hx04 (by simp)) hk32 hkd hrun (by omega)) ?_
 rintro e w5 ⟨x28,rfl,hx5,hn1,hy1⟩
 refine⟨(x28,c),rfl,?_⟩
 have hx05:=hx04.trans hx5
 refine zan (fun hc=>?_) (fun hc=>?_)
 ·exact stop hx05 hc (hrec S c (.stop hkd hrun hc)) hS32 (by omega)
 have hc:c=0:=hc
 subst hc
 obtain⟨hm28,ht32⟩:=hy1 rfl
 have htl:=zvu hrun
 simp only [List.length_nil,Nat.zero_add] at htl
 have hxl:x28.2.1=t.2.length:=by have:=hm28.len;rw [zq Bl.zat Bl.zab] at this;omega
 have hM5:=(hM.ext hx4 (by simp)).ext hx5 (by simp)
 have hlo28:=qx hm28
 have s4:=hx4.1
 have s5:=hx5.1
 generalize hT:t.2=T at *
 refine jg (fun (s:Int) V=>∃ j:Nat,s=(j:Int)/\j<=T.length/\zt8 V.heap H.size (S++T.take j)/\Ext [H.size] w5.heap V.heap) (fun s _=>(T.length-s).toNat)
  ⟨0,rfl,Nat.zero_le _,by simpa using hM5,.refl _ _⟩ ?_
 rintro _ V ⟨j,rfl,hj,hMV,hxV⟩
 have sV:=hxV.1
 have hx0V:Ext [] H V.heap:=hx05.own hxV (fun b hb hlt=>by simp at hb;omega)
 refine zx (fun hlt2=>?_) (fun hge2=>?_)
 ·have hjl:j < T.length:=by have hlt2:(j:Int) < (x28.2.1:Int):=hlt2;omega
  have hg2:=List.getElem?_eq_getElem hjl
  have hd:=ht32 _ (List.getElem_mem hjl)
  have htk:T.take (j+1)=T.take j++[T[j]]:=by rw [List.take_add_one,hg2];rfl
  generalize T[j]=d at hg2 hd htk
  refine zci (i:=j) Bl.zab (by omega) rfl (hm28.ext hxV (fun b hb h=>by have:=hlo28 b hb;simp at h;omega)).cells hxl hg2 rfl ?_
  rw [Bl.za7 hd]
  refine qg8 hd rfl fun w8 hw8=>?_
  have hx8:Ext [] V.heap w8.heap:=by rw [hw8];exact .push _
  have hb8:w8.heap[V.heap.size]?=some (.cells (byteCells d).toArray zf (0,0)):=by rw [hw8];exact zk
  refine qp rfl hb8 (by simp [hd]) ?_
  obtain⟨clk,l,g1,g2,g3⟩:=hMV.ext hx8 (by simp)
  refine zmh _ (zjm Bl.K27 uMt rfl g1 g2 hd 1 rfl) ?_
  generalize hw9:({ w8 with heap:=w8.heap.setIfInBounds H.size (.map (ents arr (vl iv (zhm l d 1 clk))) (zk7 l d clk)) }:World)=w9
  have hh9:w9.heap=w8.heap.setIfInBounds H.size (.map (ents arr (vl iv (zhm l d 1 clk))) (zk7 l d clk)):=by rw [<-hw9]
  have hx9:Ext [H.size] w8.heap w9.heap:=by rw [hh9];exact Ext.set _ (by simp)
  have hm9:w9.heap[H.size]?=some (.map (ents arr (vl iv (zhm l d 1 clk))) (zk7 l d clk)):=by rw [hh9];exact qc g1
  refine jd ((j+1:Nat):Int) (by simp) (by omega) (by omega) ?_
  refine⟨⟨j+1,rfl,by omega,⟨_,_,hm9,MOk.upd g2 hd 1,fun d'=>?_⟩,(hxV.trans (hx8.mono (by simp))).trans hx9⟩,by omega⟩
  rw [zjq,g3,htk]
  by_cases h:d'=d
  ·subst h;simp
  ·simp [h]
 ·obtain rfl:j=T.length:=by have hge2:¬(j:Int) < (x28.2.1:Int):=hge2;omega
  rw [List.take_length] at hMV
  refine jd ((i+1:Nat):Int) (by simp) (by omega) (by omega) ?_
  refine⟨⟨i+1,S++T,rfl,by omega,fun S' c h=>hrec S' c (.step hkd hrun (by rw [hT];exact h)),fun d hd=>?_,by simp;omega,hMV,hx0V,by omega⟩,by omega⟩
  rcases List.mem_append.1 hd with h | h
  ·exact hS32 d h
  ·exact ht32 d h
set_option maxHeartbeats 4000000 in
theorem qgv {fp:List Nat}{pS:Nat}{q:Int}{r:Bl.SM}{k:Nat}(hlen:∀ k L,Bl.vw r k=some L->L.length < 1099511627776){w:World}{H:Heap}{a:Option Addr}{n nc:Nat}{L:List Itm}(hw:w.heap=H) (hS:Bl.Store H fp pS q r k) (hfp:∀ b∈fp,b < H.size) (hR:Bl.Rounds H) (hrl:r.length<=1000) (hL:Cells H a (L.flatMap zb0)) (hn:n=L.length) (h32:∀ i∈L,i.sum.length=32) (hl20:L.length<=20) :
  zy P zou #[.pointer (some ⟨pS,0,none⟩),.slice a n nc] w fun e w'=>∃ (S:List (List UInt8)) (c:Int) (x:Option Addr×Nat×Nat),e=.returned (.tuple #[zb2 x,.int .i64 c])/\MarkR (Bl.vw r) L [] S c/\Ext [] H w'.heap/\(c≠0->x=(none,0,0))/\(c=0->∃ ys,Mine w'.heap H.size zf 32 x (ys.flatMap Bl.zat)/\zwe ys/\(∀ d,d∈ys ↔ d∈S)/\(∀ d∈ys,d.length=32)/\ys.length<=2000000000):=by
 refine zzr ?_
 unfold ztw
 refine zl (z5e hlen hw hS hfp hR hrl hL hn h32 hl20) ?_
 rintro e w1 ⟨S,c,hmk,hx1,hS32,hSl,⟨hc,rfl⟩ | ⟨rfl,m,rfl,hm0,hmlt,hM⟩⟩
 ·refine⟨(none,c),rfl,?_⟩
  exact zan (fun _=>⟨S,c,(none,0,0),rfl,hmk,hx1,fun _=>rfl,fun h=>absurd h hc⟩) (fun h=>absurd h hc)
 refine⟨(some m,0),rfl,?_⟩
 refine jr rfl ?_
 obtain⟨clk,l,g1,g2,g3⟩:=hM
 refine zl (qej (some m) rfl) ?_
 rintro e w2 ⟨rfl,hw2⟩
 refine⟨_,rfl,?_⟩
 have hx2:Ext [] w1.heap w2.heap:=by rw [hw2];exact .push _
 have hmem:∀ d,d∈l.map (·.1) ↔ d∈S:=by
  intro d
  have h:=g3 d
  constructor
  ·intro hd
   obtain⟨y,hy,rfl⟩:=List.mem_map.1 hd
   have:=zdu g2.keys (c:=y.2.2) (show (y.1,y.2.1,y.2.2)∈l from hy)
   rw [this] at h
   by_cases hS:y.1∈S
   ·exact hS
   ·rw [if_neg hS] at h;cases h
  ·intro hd
   rw [if_pos hd] at h
   obtain⟨c,hc⟩:=zcc h
   exact List.mem_map.2 ⟨_,hc,rfl⟩
 have hll:l.length<=2000000000:=by
  have:=zt4 g2.keys (fun d hd=>(hmem d).1 hd)
  rw [List.length_map] at this;omega
 refine zl (Bl.zr4 (n:=l.length) rfl (z9q (b:=w1.heap.size) rfl (by rw [hw2];exact zk) (hx2.get g1 (by simp)) g2) ?_ ?_ (by omega)) ?_
 ·intro b hb
  simp only [List.mem_cons,List.not_mem_nil,or_false] at hb
  rw [hw2];simp
  rcases hb with rfl | rfl <;> omega
 ·rintro pre x ⟨h,hl⟩
  obtain⟨y,hy,rfl⟩:=List.mem_map.1 h
  exact⟨g2.fine _ hy,hl⟩
 rintro e w3 ⟨x,xs,ys,rfl,hSx,hp,ho,hxl,hx32,hMx,hx3⟩
 refine⟨x,rfl,?_⟩
 have hys:ys.Perm (l.map (·.1)):=hp.trans hSx
 have hy32:∀ d∈ys,d.length=32:=fun d hd=>hx32 d (hp.mem_iff.1 hd)
 have hnd:ys.Nodup:=hys.nodup_iff.2 g2.keys
 refine⟨S,0,x,rfl,hmk,(hx1.trans hx2).trans hx3,fun h=>absurd rfl h,fun _=>⟨ys,hMx.mono (by have:=hx1.1;have:=hx2.1;omega),z6m ho hy32 hnd,fun d=>hys.mem_iff.trans (hmem d),hy32,?_⟩⟩
 rw [hys.length_eq,List.length_map];exact hll
theorem zcI:zc P zbl=#[.int .i64 0]:=by kernel_rfl
theorem Beside.store {B:Nat}{W W':World}(h:Beside B W W'){fp:List Nat}{p:Nat}{q:Int}{r:Bl.SM}{k:Nat}(hS:Bl.Store W.heap fp p q r k) (hlt:∀ b∈fp,b < B):Bl.Store W'.heap fp p q r k:=by
 obtain⟨r0,h1,_,hx⟩:=h
 exact hS.ext hx (fun b hb hm=>by have hm:=List.mem_singleton.1 hm;have:=hlt b hb;omega)
def unm (S pre:List (List UInt8)):List (List UInt8):=pre.filter fun d=>decide (d∉S)
theorem zy6 {S pre:List (List UInt8)}{d:List UInt8}:unm S (pre++[d])=if d∈S then unm S pre else unm S pre++[d]:=by
 unfold unm
 rw [List.filter_append]
 by_cases h:d∈S
 ·simp [h]
 ·simp [h]
set_option maxHeartbeats 16000000 in
theorem z8c {fp:List Nat}{pS:Nat}{q:Int}{r:Bl.SM}{k:Nat}(hlen:∀ k L,Bl.vw r k=some L->L.length < 1099511627776){w:World}{H:Heap}{a:Option Addr}{n nc:Nat}{L:List Itm}(hw:w.heap=H) (hS:Bl.Store H fp pS q r k) (hfp:∀ b∈fp,b < H.size) (hR:Bl.Rounds H) (hrl:r.length<=1000) (htr:Bl.total r<=1000000000) (hL:Cells H a (L.flatMap zb0)) (hn:n=L.length) (h32:∀ i∈L,i.sum.length=32) (hl20:L.length<=20) :
  zy P zf7 #[.pointer (some ⟨pS,0,none⟩),.slice a n nc] w fun e w'=>∃ (S:List (List UInt8)) (c:Int) (r2:Bl.SM) (k2 m:Nat),e=.returned (.tuple #[.int .i64 (m:Int),.int .i64 c])/\MarkR (Bl.vw r) L [] S c/\Ext fp H w'.heap/\Bl.Store w'.heap fp pS q r2 k2/\r2.length+m=r.length/\Bl.total r2<=Bl.total r/\(c≠0->r2=r/\m=0)/\(c=0->∀ d,Bl.vw r2 d=if d∈S then Bl.vw r d else none):=by
 refine zqv ?_
 unfold zmq
 refine jm hw fun w1 hw1=>?_
 have hx1:Ext [] H w1.heap:=by rw [hw1];exact .push _
 have hb1:w1.heap[H.size]?=some (.cells #[.pointer (some ⟨pS,0,none⟩)] zds (0,0)):=by rw [hw1];exact zk
 have s1:=lt_of_get hb1
 refine je (s:=.ptr) (t:=some ⟨pS,0,none⟩) rfl hb1 rfl ?_
 refine zl (z5e hlen rfl (hS.ext hx1 (by simp)) (fun b hb=>by have:=hfp b hb;omega) (hR.ext hx1 (by simp)) hrl (hL.ext hx1 (by simp)) hn h32 hl20) ?_
 rintro e w2 ⟨S,c,hmk,hx2,hS32,hSl,hres⟩
 have hx02:=hx1.trans hx2
 have s2:=hx2.1
 have box:∀ (m:Option Nat){K:Nat->World->Prop},(∀ w4,w4.heap[w2.heap.size]?=some (.cells #[.map m] ji (0,0))->Ext [] w2.heap w4.heap->w2.heap.size < w4.heap.size->K w2.heap.size w4) ->
   zbm (zc P ji) ji w2 fun b6 w_3=>stC (⟨b6,0,none⟩:Addr) (Value.map m) w_3 fun w_4=>K b6 w_4:=by
  intro m K hK
  refine jm rfl fun w3 hw3=>?_
  have hx3:Ext [] w2.heap w3.heap:=by rw [hw3];exact .push _
  have hc3:w3.heap[w2.heap.size]?=some (.cells #[.map none] ji (0,0)):=by rw [hw3,qix];exact zk
  have s3:=lt_of_get hc3
  refine zbd rfl hc3 (by simp) fun w4 hw4=>?_
  have hx4:Ext [w2.heap.size] w3.heap w4.heap:=by rw [hw4];exact Ext.set _ (by simp)
  exact hK w4 (by rw [hw4];exact qc hc3) (hx3.own hx4 (fun b hb hlt=>by simp at hb;omega)) (by have:=hx4.1;omega)
 rcases hres with⟨hc,rfl⟩ | ⟨rfl,m,rfl,hm0,hmlt,hM⟩
 ·refine⟨(none,c),rfl,?_⟩
  refine box none fun w4 hb4 hx4 s4=>?_
  have hx04:=hx02.trans hx4
  refine zan (fun _=>?_) (fun h=>absurd h hc)
  exact⟨S,c,r,k,0,rfl,hmk,hx04.mono (by simp),hS.ext hx04 (by simp),rfl,Nat.le_refl _,fun _=>⟨rfl,rfl⟩,fun h=>absurd h hc⟩
 refine⟨(some m,0),rfl,?_⟩
 refine box (some m) fun w4 hb4 hx4 s4=>?_
 refine jr rfl ?_
 have hM4:=hM.ext hx4 (by simp)
 have hb14:=hx4.get (hx2.get hb1 (by simp)) (by simp)
 have hx04:=hx02.trans hx4
 generalize hb6:w2.heap.size=b6 at *
 refine jm rfl fun w5 hw5=>?_
 have hx5:Ext [] w4.heap w5.heap:=by rw [hw5];exact .push _
 have hc5:w5.heap[w4.heap.size]?=some (.cells #[.int .i64 0] zbl (0,0)):=by rw [hw5,zcI];exact zk
 have s5:=lt_of_get hc5
 refine zbd rfl hc5 (by simp) fun w6 hw6=>?_
 have hx6:Ext [w4.heap.size] w5.heap w6.heap:=by rw [hw6];exact Ext.set _ (by simp)
 have hc6:w6.heap[w4.heap.size]?=some (.cells #[.int .i64 0] zbl (0,0)):=by rw [hw6];exact qc hc5
 have s6:=hx6.1
 have hx46:Ext [] w4.heap w6.heap:=hx5.own hx6 (fun b hb hlt=>by simp at hb;omega)
 have hx06:=hx04.trans hx46
 generalize hb8:w4.heap.size=b8 at *
 refine je (s:=.ptr) (t:=some ⟨pS,0,none⟩) rfl (hx46.get hb14 (by simp)) rfl ?_
 refine zl (Bl.qjr rfl (hS.ext hx06 (by simp)) (by omega)) ?_
 rintro e w7 ⟨gv,ys,rfl,hx7,⟨bl,xl,rfl,hbl0,hbl,hxl,hy32⟩,hperm,_⟩
 refine⟨_,rfl,?_⟩
 have hx07:=hx06.trans hx7
 have hx47:=hx46.trans hx7
 have hS7:=hS.ext hx07 (by simp)
 have hM7:=hM4.ext hx47 (by simp)
 have hb67:=hx47.get hb4 (by simp)
 have hb17:=hx47.get hb14 (by simp)
 have hc7:=hx7.get hc6 (by simp)
 have s7:=hx7.1
 have sH:H.size < w2.heap.size\/H.size < b6:=by omega
 have hyl:ys.length=r.length:=by rw [hperm.length_eq,List.length_map]
 have hynd:ys.Nodup:=hperm.nodup_iff.2 (zcu hS).keys
 have hkey:∀ d,d∈ys ↔ (Bl.vw r d).isSome=true:=by
  intro d
  rw [hperm.mem_iff]
  constructor
  ·intro h
   obtain⟨z,hz,rfl⟩:=List.mem_map.1 h
   rw [Bl.ztk (zcu hS).keys hz];rfl
  ·intro h
   cases hv:Bl.vw r d with
   | none=>rw [hv] at h;cases h
   | some L=>
    unfold Bl.vw at hv
    cases hm:zbk r d with
    | none=>rw [hm] at hv;cases hv
    | some y=>
     obtain⟨c,hc⟩:=zcc hm
     exact List.mem_map.2 ⟨_,hc,rfl⟩
 have hfb:∀ b∈fp,b < H.size:=hfp
 have hxlt:=zbs hxl
 have hxge:=qx hxl
 have hbllt:=lt_of_get hbl
 have notfp:∀ b,H.size<=b->b∉b8 :: fp\/b=b8:=fun b h=>by
  by_cases hb:b=b8
  ·exact .inr hb
  ·left;intro hh
   rcases List.mem_cons.1 hh with h' | h'
   ·exact hb h'
   ·have:=hfb b h';omega
 refine zy1 (α:=List UInt8) (shs:=[.any]) (tv:=fun x=>arr x) (fp:=bl :: jk xl) (Bl.z5q rfl hbl hxl hy32 (by omega)) (b8 :: fp) ?_ ?_
  (fun pre W=>Ext (b8 :: fp) w7.heap W.heap/\∃ r' k',Bl.Store W.heap fp pS q r' k'/\(∀ d,Bl.vw r' d=if d∈pre/\d∉S then none else Bl.vw r d)/\Bl.total r'<=Bl.total r/\r'.length+(unm S pre).length=r.length/\W.heap[b8]?=some (.cells #[.int .i64 ((unm S pre).length:Int)] zbl (0,0)))
  (fun _=>False) (fun _ _=>False) ?_ (fun _ _ h _=>h.elim) (fun _ _ _ h _=>h.elim) ⟨.refl _ _,r,k,hS7,fun d=>by simp,Nat.le_refl _,by simp [unm],by simpa [unm] using hc7⟩ ?_ ?_ (fun _ h=>h.elim) (fun _ _ h=>h.elim)
 ·intro b hb
  rcases List.mem_cons.1 hb with rfl | hb
  ·refine⟨by omega,fun h=>?_⟩
   rcases List.mem_cons.1 h with h | h
   ·omega
   ·have:=hxge _ h;omega
  ·have:=hfb b hb
   refine⟨by have:=hx07.1;omega,fun h=>?_⟩
   have:=hx06.1
   rcases List.mem_cons.1 h with h | h
   ·omega
   ·have:=hxge _ h;omega
 ·intro b hb
  rcases List.mem_cons.1 hb with rfl | hb
  ·exact hbllt
  ·exact (hxlt b hb).1
 ·rintro pre W W' ⟨h1,r',k',h2,h3,h4,h5,h6⟩ hB
  exact⟨hB.ext (Nat.le_refl _) h1,r',k',Beside.store hB h2 (fun b hb=>by have:=hfb b hb;have:=hx07.1;omega),h3,h4,h5,hB.cells h6⟩
 ·rintro pre d W1 ⟨rest,hys⟩ ⟨hxW1,r',k',hS1,hv1,ht1,hl1,hc1⟩ hsz beg kc kr kx hbeg
  have hd32:d.length=32:=hy32 d (by rw [hys];simp)
  refine qg8 hd32 rfl fun W2 hW2=>?_
  have hx12:Ext [] W1.heap W2.heap:=by rw [hW2];exact .push _
  refine hbeg W2 _ hx12 fun W3 hB3 hs3 hkc _ _=>?_
  have hxW3:Ext (b8 :: fp) w7.heap W3.heap:=hB3.ext (Nat.le_refl _) (hxW1.trans (hx12.mono (by simp)))
  have hkey3:W3.heap[W1.heap.size]?=some (.cells (byteCells d).toArray zf (0,0)):=hB3.cells (by rw [hW2];exact zk)
  have hS3:Bl.Store W3.heap fp pS q r' k':=Beside.store hB3 (hS1.ext hx12 (by simp)) (fun b hb=>by have:=hfb b hb;have:=hx07.1;omega)
  have hc3:=hB3.cells (hx12.get hc1 (by simp))
  have sW1:=hxW1.1
  have ne6:b6∉b8 :: fp:=by
   rcases notfp b6 (by have:=hx02.1;omega) with h | h
   ·exact h
   ·omega
  have ne1:H.size∉b8 :: fp:=by
   rcases notfp H.size (Nat.le_refl _) with h | h
   ·exact h
   ·omega
  have nem:m∉b8 :: fp:=by
   rcases notfp m (by omega) with h | h
   ·exact h
   ·omega
  have hb63:=hxW3.get hb67 ne6
  have hb13:=hxW3.get hb17 ne1
  obtain⟨clk,l,g1,g2,g3⟩:=hM7.ext hxW3 nem
  have hdpre:d∉pre:=by
   rw [hys] at hynd
   intro h
   exact (List.nodup_append.1 hynd).2.2 d h d (by simp) rfl
  have hMlt:∀ b∈b8 :: fp,b < w7.heap.size:=fun b hb=>by
   rcases List.mem_cons.1 hb with rfl | hb
   ·omega
   ·have:=hfb b hb;have:=hx07.1;omega
  refine Go.Fw.joinP_of (fun _ W4=>Keep (b8 :: fp) w7.heap.size W3.heap W4.heap/\Ext (b8 :: fp) w7.heap W4.heap/\∃ r' k',Bl.Store W4.heap fp pS q r' k'/\(∀ x,Bl.vw r' x=if x∈pre++[d]/\x∉S then none else Bl.vw r x)/\Bl.total r'<=Bl.total r/\r'.length+(unm S (pre++[d])).length=r.length/\W4.heap[b8]?=some (.cells #[.int .i64 ((unm S (pre++[d])).length:Int)] zbl (0,0))) ?_ (fun _ W4 h=>hkc W4 h.1 h.2)
  refine je (s:=.map) (t:=some m) rfl hb63 rfl ?_
  refine qp rfl hkey3 (by simp [hd32]) ?_
  refine qm (s:=.int .i64) (if d∈S then 1 else 0) (by
   refine (zm0 Bl.K27 uMt qja rfl g1 g2 hd32).trans ?_
   rw [g3]
   split <;> rfl) ?_
  by_cases hin:d∈S
  ·rw [if_pos hin]
   refine jr (by decide) ?_
   refine⟨.refl _ _ _,hxW3,r',k',hS3,fun x=>?_,ht1,by rw [zy6,if_pos hin];exact hl1,by rw [zy6,if_pos hin];exact hc3⟩
   rw [hv1]
   by_cases hxd:x=d
   ·subst hxd;simp [hin]
   ·simp [hxd]
  ·rw [if_neg hin]
   refine zai (by decide) ?_
   refine je (s:=.ptr) (t:=some ⟨pS,0,none⟩) rfl hb13 rfl ?_
   refine qp rfl hkey3 (by simp [hd32]) ?_
   refine zl (Bl.qd7 rfl hS3 hd32 (by omega)) ?_
   rintro e W4 ⟨rfl,hS4,hx34⟩
   have hvd:Bl.vw r' d=Bl.vw r d:=by rw [hv1,if_neg (fun h=>hdpre h.1)]
   have hsome:(Bl.vw r' d).isSome=true:=by rw [hvd];exact (hkey d).1 (by rw [hys];simp)
   rw [if_pos hsome]
   refine⟨0,rfl,zai rfl ?_⟩
   have b8fp:b8∉fp:=fun h=>by have:=hfb b8 h;have:=hx02.1;omega
   have hc4:=hx34.get hc3 b8fp
   refine je (s:=.int .i64) (t:=((unm S pre).length:Int)) rfl hc4 rfl ?_
   refine jd (((unm S pre).length+1:Nat):Int) (by simp) (by omega) (by omega) ?_
   refine zbd rfl hc4 (by simp) fun W5 hW5=>?_
   have hx45:Ext [b8] W4.heap W5.heap:=by rw [hW5];exact Ext.set _ (by simp)
   have hx35:Ext (b8 :: fp) W3.heap W5.heap:=(hx34.mono (by simp +contextual)).trans (hx45.mono (by simp))
   have hun:(unm S (pre++[d])).length=(unm S pre).length+1:=by rw [zy6,if_neg hin];simp
   have hml:(zi9 r' d).length+1=r'.length:=qab (zcu hS3).keys (by
    unfold Bl.vw at hsome
    cases hm:zbk r' d with
    | none=>rw [hm] at hsome;cases hsome
    | some y=>rfl)
   refine⟨.of hx35 (fun b hb=>.inl hb) hMlt,hxW3.trans hx35,zi9 r' d,k',hS4.ext hx45 (fun b hb h=>by
    have h:=List.mem_singleton.1 h
    subst h;exact b8fp hb),fun x=>?_,?_,by omega,by rw [hun,hW5];exact qc hc4⟩
   ·rw [Bl.zs9,hv1]
    by_cases hxd:x=d
    ·subst hxd;simp [hin]
    ·simp [hxd]
   ·cases hg:zbk r' d with
    | none=>unfold Bl.vw at hsome;rw [hg] at hsome;cases hsome
    | some v=>have:=Bl.zvl (zcu hS3) hg;omega
 ·rintro xs W rfl ⟨hxW,r',k',hSW,hvW,htW,hlW,hcW⟩ hD
  refine je (s:=.int .i64) (t:=((unm S xs).length:Int)) rfl hcW rfl ?_
  refine⟨hD,fun W' hW'=>?_⟩
  have hB:Beside w7.heap.size W W':=by rw [hW'];exact .put (Nat.le_refl _) hD (by intro _ _ _ h;cases h)
  have hxW':=hB.ext (Nat.le_refl _) hxW
  refine⟨S,0,r',k',(unm S xs).length,rfl,hmk,?_,Beside.store hB hSW (fun b hb=>by have:=hfb b hb;have:=hx07.1;omega),hlW,htW,fun h=>absurd rfl h,fun _ d=>?_⟩
  ·refine ((hx07.mono (by simp)).own hxW' fun b hb hlt=>?_:Ext fp H W'.heap)
   rcases List.mem_cons.1 hb with rfl | hb
   ·have:=hx02.1;omega
   ·exact hb
  ·rw [hvW]
   by_cases hin:d∈S
   ·simp [hin]
   ·rw [if_neg hin]
    by_cases hy:d∈xs
    ·rw [if_pos ⟨hy,hin⟩]
    ·rw [if_neg (fun h=>hy h.1)]
     cases hv:Bl.vw r d with
     | none=>rfl
     | some L=>exact absurd ((hkey d).2 (by rw [hv];rfl)) hy
theorem z7j {w:World}{H:Heap}{a:Option Addr}{n nc:Nat}(hw:w.heap=H):zy P zf7 #[.pointer none,.slice a n nc] w fun e w'=>e=.returned (.tuple #[.int .i64 0,.int .i64 7])/\Ext [] H w'.heap:=by
 refine zqv ?_
 unfold zmq
 refine jm hw fun w1 hw1=>?_
 have hx1:Ext [] H w1.heap:=by rw [hw1];exact .push _
 have hb1:w1.heap[H.size]?=some (.cells #[.pointer none] zds (0,0)):=by rw [hw1];exact zk
 refine je (s:=.ptr) (t:=none) rfl hb1 rfl ?_
 have hm:zy P zgl #[.pointer none,.slice a n nc] w1 fun e w'=>e=.returned (.tuple #[.map none,.int .i64 7])/\w'=w1:=by
  refine zn9 ?_
  unfold zlm
  exact zai rfl ⟨rfl,rfl⟩
 refine zl hm ?_
 rintro e w2 ⟨rfl,rfl⟩
 refine⟨(none,7),rfl,?_⟩
 refine jm rfl fun w3 hw3=>?_
 have hx3:Ext [] w2.heap w3.heap:=by rw [hw3];exact .push _
 have hc3:w3.heap[w2.heap.size]?=some (.cells #[.map none] ji (0,0)):=by rw [hw3,qix];exact zk
 refine zbd rfl hc3 (by simp) fun w4 hw4=>?_
 have hx4:Ext [w2.heap.size] w3.heap w4.heap:=by rw [hw4];exact Ext.set _ (by simp)
 exact zai rfl ⟨rfl,hx1.trans (hx3.own hx4 (fun b hb hlt=>by simp at hb;omega))⟩
theorem qid {w:World}{H:Heap}(hw:w.heap=H){K:(Option Addr×Nat×Nat)->World->Prop}(hK:∀ w',Ext [] H w'.heap->Mine w'.heap H.size zf 32 (some ⟨H.size,0,none⟩,0,0) (([]:List (List UInt8)).flatMap Bl.zat)->K (some ⟨H.size,0,none⟩,0,0) w'):zaw P (Instr.buildSlice zo 0 #[]) .slc w K:=by
 refine zah (s:=.slc) (some ⟨H.size,0,none⟩,0,0) { w with heap:=H.push (.cells #[] zf) } (by rw [<-hw];kernel_rfl) ?_
 exact hK _ (.push _) (.inr ⟨H.size,#[],rfl,Nat.le_refl _,zk,rfl,rfl,Nat.le_refl _,rfl⟩)
theorem qiz {S:List (List UInt8)}:zcl (S.flatMap Bl.zat):=by
 intro v hv
 obtain⟨i,_,hi⟩:=List.mem_flatMap.1 hv
 exact Bl.zi4 v hi
theorem zuu (S:List (List UInt8)):(S.flatMap Bl.zat).length=S.length * 32:=by rw [zq Bl.zat Bl.zab]
theorem qgn {S:List (List UInt8)}{i:Nat}(hi:i<=S.length):(S.flatMap Bl.zat).take (i * 32)=(S.take i).flatMap Bl.zat:=by
 conv=>lhs;rw [<-List.take_append_drop i S,List.flatMap_append]
 rw [List.take_left' (by rw [zuu,List.length_take,Nat.min_eq_left hi])]
theorem qhh {S:List (List UInt8)}{i:Nat}(hi:i<=S.length):(S.flatMap Bl.zat).drop (i * 32)=(S.drop i).flatMap Bl.zat:=by
 conv=>lhs;rw [<-List.take_append_drop i S,List.flatMap_append]
 rw [List.drop_left' (by rw [zuu,List.length_take,Nat.min_eq_left hi])]
theorem qd0 {w:World}{H:Heap}{B:Nat}{x:Option Addr×Nat×Nat}{a:Option Addr}{l c:Nat}{xs ys:List (List UInt8)}(hw:w.heap=H) (hx:Mine H B zf 32 x (xs.flatMap Bl.zat)) (hB:B<=H.size) (hL:Cells H a (ys.flatMap Bl.zat)) (hl:l=ys.length) (hlen:xs.length+ys.length<=1099511627){K:(Option Addr×Nat×Nat)->World->Prop}
  (hK:∀ x' w',Mine w'.heap B zf 32 x' ((xs++ys).flatMap Bl.zat)->Ext (jk x) H w'.heap->(∀ b∈jk x',b∈jk x\/H.size<=b)->K x' w'):zaw P (Builtin.append_ #[zo,zo] zo #[.slice x.1 x.2.1 x.2.2,.slice a l c]) .slc w K:=by
 have hxl:x.2.1=xs.length:=by have:=hx.len;rw [zuu] at this;omega
 refine zcj ED (by omega) Bl.z6n (zbg Bl.z6n) hw hx hB (Src.slc hw hL (by rw [zuu,hl])) qiz (by omega) ?_
 intro x' w' hm hl' hx' hs
 refine hK x' w' ?_ hx' hs
 rw [List.flatMap_append];exact hm
theorem qgc:(P.info? zf).map (·.size)=some 32:=by kernel_rfl
set_option maxHeartbeats 16000000 in
theorem qe1 {w:World}{H:Heap}{x:Option Addr×Nat×Nat}{L:List (List UInt8)}{d:List UInt8}{B:Nat}(hw:w.heap=H) (hB:B<=H.size) (hL:Mine H B zf 32 x (L.flatMap Bl.zat)) (h32:∀ q∈L,q.length=32) (hd:d.length=32) (hr:zwe L) (hlen:L.length<=500000000) :
  zy P zmo #[.slice x.1 x.2.1 x.2.2,arr d] w fun e w'=>∃ x' L',e=.returned (zb2 x')/\Mine w'.heap B zf 32 x' (L'.flatMap Bl.zat)/\zwe L'/\(∀ k,k∈L' ↔ k∈L\/k=d)/\L'.length<=L.length+1/\Ext [] H w'.heap:=by
 have hxl:x.2.1=L.length:=by have:=hL.len;rw [zuu] at this;omega
 have hcap:=zic hL
 refine zyr ?_
 unfold zry
 rw [show (arr d).cells=(byteCells d).toArray from rfl]
 refine jm hw fun w1 hw1=>?_
 have hx1:Ext [] H w1.heap:=by rw [hw1];exact .push _
 have hb1:w1.heap[H.size]?=some (.cells (byteCells d).toArray zf (0,0)):=by rw [hw1];exact zk
 refine Go.Fw.joinP_of (fun (s:Int) W=>∃ i:Nat,s=(i:Int)/\i<=L.length/\(∀ q∈L.take i,Lib.compareBytes q d < 0)/\(∀ q,L[i]?=some q->¬Lib.compareBytes q d < 0)/\Ext [] w1.heap W.heap) ?_ ?_
 ·refine jg (fun (s:Int) W=>∃ i:Nat,s=(i:Int)/\i<=L.length/\(∀ q∈L.take i,Lib.compareBytes q d < 0)/\Ext [] w1.heap W.heap) (fun s _=>(L.length-s).toNat)
   ⟨0,rfl,Nat.zero_le _,by simp,.refl _ _⟩ ?_
  rintro _ W ⟨i,rfl,hi,hlow,hxW⟩
  refine Go.Fw.joinP_of (fun _ V=>i < L.length/\(∀ q,L[i]?=some q->Lib.compareBytes q d < 0)/\Ext [] w1.heap V.heap) ?_ ?_
  rotate_left
  ·rintro _ V ⟨hil,hlt,hxV⟩
   have hg:=List.getElem?_eq_getElem hil
   refine jd ((i+1:Nat):Int) (by simp) (by omega) (by omega) ?_
   refine⟨⟨i+1,rfl,by omega,fun q hq=>?_,hxV⟩,by omega⟩
   rw [List.take_add_one,hg] at hq
   rcases List.mem_append.1 hq with h | h
   ·exact hlow q h
   ·simp at h;subst h;exact hlt _ hg
  refine jv rfl fun w3 hw3=>?_
  have hx3:Ext [] W.heap w3.heap:=by rw [hw3];exact .refl _ _
  have hx13:=hxW.trans hx3
  refine zx (fun hlt=>?_) (fun hge=>?_)
  ·have hil:i < L.length:=by omega
   have hget:=List.getElem?_eq_getElem hil
   have hq:=h32 _ (List.getElem_mem hil)
   generalize L[i]=g at hget hq
   refine zci (i:=i) Bl.zab (by omega) rfl (hL.ext (hx1.trans hx13) (by simp)).cells hxl hget rfl ?_
   rw [Bl.za7 hq]
   refine qp rfl (hx13.get hb1 (by simp)) (by simp [hd]) ?_
   refine zl (Bl.zr5 hq hd) ?_
   rintro e w4 ⟨rfl,hx4⟩
   refine⟨_,rfl,?_⟩
   refine zx (fun h=>?_) (fun h=>?_)
   ·exact⟨hil,(fun q hq'=>by rw [hget] at hq';cases hq';exact h),hx13.trans hx4⟩
   ·exact⟨i,rfl,hi,hlow,(fun q hq'=>by rw [hget] at hq';cases hq';exact h),hx13.trans hx4⟩
  ·exact⟨i,rfl,hi,hlow,(fun q hq'=>by rw [List.getElem?_eq_none (by omega)] at hq';cases hq'),hx13⟩
 rintro _ W ⟨i,rfl,hi,hlow,hhigh,hxW⟩
 refine Go.Fw.joinP_of (fun _ V=>Ext [] w1.heap V.heap/\∀ q,L[i]?=some q->q≠d) ?_ ?_
 ·refine jv rfl fun w7 hw7=>?_
  have hx7:Ext [] W.heap w7.heap:=by rw [hw7];exact .refl _ _
  have hx17:=hxW.trans hx7
  refine zx (fun hlt=>?_) (fun hge=>?_)
  ·have hil:i < L.length:=by omega
   have hget:=List.getElem?_eq_getElem hil
   have hmem:=List.getElem_mem hil
   have hq:=h32 _ hmem
   generalize L[i]=g at hget hq hmem
   refine zci (i:=i) Bl.zab (by omega) rfl (hL.ext (hx1.trans hx17) (by simp)).cells hxl hget rfl ?_
   rw [Bl.za7 hq]
   refine qp rfl (hx17.get hb1 (by simp)) (by simp [hd]) ?_
   refine qm (s:=.bool) _ (zym Bl.u27 Bl.u5 Bl.c5 Bl.g27 hq hd) ?_
   refine zdv (p:=g=d) (by simp) (fun he=>?_) (fun he=>?_)
   ·subst he
    exact⟨x,L,rfl,hL.ext (hx1.trans hx17) (by simp),hr,fun k=>⟨.inl,fun h=>by rcases h with h | h;exact h;subst h;exact hmem⟩,by omega,hx1.trans hx17⟩
   ·exact⟨hx17,fun q hq'=>by rw [hget] at hq';cases hq';exact he⟩
  ·exact⟨hx17,fun q hq'=>by rw [List.getElem?_eq_none (by omega)] at hq';cases hq'⟩
 rintro _ V ⟨hxV,hne⟩
 refine qid rfl fun w9 hx9 hm9=>?_
 have hx19:=hxV.trans hx9
 have hx09:=hx1.trans hx19
 have s9:=hx9.1
 have sV:H.size<=V.heap.size:=(hx1.trans hxV).1
 obtain⟨a1,hcut1,hc1⟩:=qg2 (i:=i) (n:=(i:Int)) Bl.z6n qgc (hL.ext hx09 (by simp)).cells hcap (by omega) rfl
 rw [qgn hi] at hc1
 refine qm (s:=.slc) (a1,i,x.2.2) (hcut1 _) ?_
 refine qd0 (xs:=[]) (c:=x.2.2) rfl hm9 s9 hc1 (by simp;omega) (by simp;omega) fun x39 w10 hm10 hx10 hs10=>?_
 rw [List.nil_append] at hm10
 have hx910:Ext [] V.heap w10.heap:=hx9.own hx10 (fun b hb hlt=>by simp [jk] at hb;omega)
 have hx010:=(hx1.trans hxV).trans hx910
 have s10:=hx910.1
 refine qp rfl ((hxV.trans hx910).get hb1 (by simp)) (by simp [hd]) ?_
 refine zuw rfl hm10 s10 hd (by simp;omega) fun x43 w12 hm12 hx12 hs12=>?_
 have hxV12:Ext [] V.heap w12.heap:=hx910.own hx12 (fun b hb hlt=>by have:=qx hm10 b hb;omega)
 have hx012:=(hx1.trans hxV).trans hxV12
 have s12:=hxV12.1
 obtain⟨a2,hcut2,hc2⟩:=z3j (i:=i) (n:=(i:Int)) Bl.z6n qgc (hL.ext hx012 (by simp)).cells (by rw [zuu,hxl]) hcap (by omega) rfl
 rw [qhh hi] at hc2
 refine qm (s:=.slc) (a2,x.2.1-i,x.2.2-i) (hcut2 _) ?_
 refine qd0 (c:=x.2.2-i) rfl hm12 s12 hc2 (by simp;omega) (by simp;omega) fun x48 w13 hm13 hx13 hs13=>?_
 have hxV13:Ext [] V.heap w13.heap:=hxV12.own hx13 (fun b hb hlt=>by have:=qx hm12 b hb;omega)
 have hhd:∀ q∈L.drop i,Lib.compareBytes d q < 0:=by
  cases hdr:L.drop i with
  | nil=>simp
  | cons g rest=>
   have hil:i < L.length:=by
    have:=congrArg List.length hdr
    simp at this;omega
   have hgi:L[i]?=some g:=by
    have:=congrArg (fun l=>l[0]?) hdr
    simpa using this
   have h1:=hhigh g hgi
   have h2:=hne g hgi
   have h3:Lib.compareBytes d g < 0:=by
    have h5:Lib.compareBytes g d≠0:=fun e=>h2 (zez.1 e)
    rw [zji]
    rcases zg7 (a:=g) (b:=d) with e | e | e <;> omega
   have hrd:zwe (g :: rest):=by rw [<-hdr];exact hr.sublist (List.drop_sublist _ _)
   intro q hq
   rcases List.mem_cons.1 hq with rfl | hq
   ·exact h3
   ·have h4:=(List.pairwise_cons.1 hrd).1 q hq
    exact zdg.2 (List.lt_trans (zdg.1 h3) (zdg.1 h4))
 refine⟨x48,(L.take i++[d])++L.drop i,rfl,hm13.mono (by omega),?_,fun k=>?_,by simp;omega,(hx1.trans hxV).trans hxV13⟩
 ·rw [List.append_assoc]
  refine List.pairwise_append.2 ⟨hr.sublist (List.take_sublist _ _),List.pairwise_cons.2 ⟨hhd,hr.sublist (List.drop_sublist _ _)⟩,fun p hp q hq=>?_⟩
  rcases List.mem_cons.1 hq with rfl | hq
  ·exact hlow p hp
  ·exact zdg.2 (List.lt_trans (zdg.1 (hlow p hp)) (zdg.1 (hhd q hq)))
 ·conv=>rhs;rw [<-List.take_append_drop i L]
  simp only [List.mem_append,List.mem_singleton]
  constructor
  ·rintro ((h | h) | h)
   ·exact .inl (.inl h)
   ·exact .inr h
   ·exact .inl (.inr h)
  ·rintro ((h | h) | h)
   ·exact .inl (.inl h)
   ·exact .inr h
   ·exact .inl (.inr h)
theorem qfj {c:Array Value}{o:Nat}{it:Itm}(h32:it.sum.length=32) (hsz:o+34<=c.size) (hc:∀ j,j < 34->c[o+j]?=(zb0 it)[j]?):c.extract (o+2) (o+2+32)=(byteCells it.sum).toArray:=by
 apply Array.ext_getElem?
 intro j
 rw [Array.getElem?_extract]
 by_cases hj:j < 32
 ·rw [if_pos (by omega)]
  have:=hc (j+2) (by omega)
  rw [zqg h32,List.getElem?_append_right (by simp)] at this
  rw [show o+2+j=o+(j+2) by omega,this]
  simp
 ·rw [if_neg (by omega)]
  rw [Array.getElem?_eq_none (by simp [h32];omega)]
theorem qbp {c:Array Value}{o:Nat}{it:Itm}(hc:∀ j,j < 34->c[o+j]?=(zb0 it)[j]?):c[o+1]?=some (.int .i64 it.kind):=by rw [hc 1 (by omega)];rfl
set_option maxHeartbeats 16000000 in
theorem z81 {fp:List Nat}{pS:Nat}{q:Int}{r:Bl.SM}(hlen:∀ k L,Bl.vw r k=some L->L.length < 1099511627776){w:World}{H:Heap}{a:Option Addr}{n nc:Nat}{L:List Itm}(hw:w.heap=H) (hS:Bl.zdf H fp pS q r) (hrl:r.length<=100) (hL:Cells H a (L.flatMap zb0)) (hn:n=L.length) (h32:∀ i∈L,i.sum.length=32) (hl20:L.length<=20) :
  zy P znj #[.pointer (some ⟨pS,0,none⟩),.slice a n nc] w fun e w'=>∃ (S:List (List UInt8)) (c:Int) (x:Option Addr×Nat×Nat),e=.returned (.tuple #[zb2 x,.int .i64 c])/\MarkR (Bl.vw r) L [] S c/\Ext [] H w'.heap/\(c≠0->x=(none,0,0))/\(c=0->∃ ys,Mine w'.heap H.size zf 32 x (ys.flatMap Bl.zat)/\zwe ys/\(∀ d,d∈ys ↔ d∈S)/\(∀ d∈ys,d.length=32)/\ys.length<=2000000000):=by
 subst hn
 refine z2s ?_
 unfold zxy
 have hun:∀ s,unseen r s<=100:=fun s=>Nat.le_trans (List.length_filter_le _ _) hrl
 refine jg (fun (s:(Option Addr×Nat×Nat)×Int) W=>∃ (i:Nat) (S Ls:List (List UInt8)) (x:Option Addr×Nat×Nat),s=(x,(i:Int))/\i<=L.length/\(∀ S' c,MarkR (Bl.vw r) (L.drop i) S S' c->MarkR (Bl.vw r) L [] S' c)/\Mine W.heap H.size zf 32 x (Ls.flatMap Bl.zat)/\zwe Ls/\(∀ k,k∈Ls ↔ k∈S)/\(∀ k∈Ls,k.length=32)/\Ls.length<=10000000 * i/\Ext [] H W.heap) (fun s _=>(L.length-s.2).toNat)
  ⟨0,[],[],(none,0,0),rfl,Nat.zero_le _,fun _ _ h=>h,.inl ⟨rfl,rfl⟩,.nil,by simp,by simp,by simp,by rw [hw];exact .refl _ _⟩ ?_
 rintro _ W ⟨i,S,Ls,x,rfl,hi,hrec,hm,hrise,hmem,hL32,hLl,hxW⟩
 refine zx (fun hlt=>?_) (fun hge=>?_)
 rotate_left
 ·have hge:¬(i:Int) < (L.length:Int):=hge
  obtain rfl:i=L.length:=by omega
  rw [List.drop_length] at hrec
  exact⟨S,0,x,rfl,hrec S 0 .nil,hxW,fun h=>absurd rfl h,fun _=>⟨Ls,hm,hrise,hmem,hL32,by omega⟩⟩
 have hlt:(i:Int) < (L.length:Int):=hlt
 have hil:i < L.length:=by omega
 have hget:=List.getElem?_eq_getElem hil
 have hk32:=h32 _ (List.getElem_mem hil)
 rw [List.drop_eq_getElem_cons hil] at hrec
 generalize L[i]=it at hget hk32 hrec
 refine jv rfl fun w2 hw2=>?_
 have hx2:Ext [] W.heap w2.heap:=by rw [hw2];exact .refl _ _
 have hx02:=hxW.trans hx2
 refine Bl.zd6 (i:=i) zac (by omega) (hL.ext hx02 (by simp)) rfl hget rfl fun b1 o1 c1 T1 fr1 _ hb1 hs1 hc1 _=>?_
 refine Bl.zd6 (i:=i) zac (by omega) (hL.ext hx02 (by simp)) rfl hget rfl fun b2 o2 c2 T2 fr2 _ hb2 hs2 hc2 _=>?_
 refine zhc (o:=o1+2) rfl hb1 (by omega) ?_
 rw [qfj hk32 hs1 hc1]
 refine je (s:=.int .i64) (o:=o2+1) (t:=it.kind) rfl hb2 (qbp hc2) ?_
 have hm2:=hm.ext hx2 (by simp)
 by_cases hkd:it.kind=2\/it.kind=3
 rotate_left
 ·have h2:it.kind≠2:=fun h=>hkd (.inl h)
  have h3:it.kind≠3:=fun h=>hkd (.inr h)
  refine zl (z2d rfl h2 h3) ?_
  rintro e w5 ⟨rfl,hx5⟩
  refine⟨((none,0,0),100),rfl,?_⟩
  exact zai rfl ⟨S,100,(none,0,0),rfl,hrec S 100 (.kind h2 h3),hx02.trans hx5,fun _=>rfl,fun h=>absurd h (by decide)⟩
 obtain⟨N,t,c,hrun,hN⟩:=zxg r [(it.sum,it.kind)] ([],[])
 have hu:=hun []
 simp only [List.length_cons,List.length_nil] at hN
 refine zl (qc8 hlen rfl (hS.ext hx02 (by simp)) (by omega) hk32 hkd hrun (by omega)) ?_
 rintro e w5 ⟨x28,rfl,hx5,hn1,hy1⟩
 refine⟨(x28,c),rfl,?_⟩
 have hx05:=hx02.trans hx5
 refine zan (fun hc=>?_) (fun hc=>?_)
 ·exact⟨S,c,(none,0,0),rfl,hrec S c (.stop hkd hrun hc),hx05,fun _=>rfl,fun h=>absurd h hc⟩
 have hc:c=0:=hc
 subst hc
 obtain⟨hm28,ht32⟩:=hy1 rfl
 have htl:=zvu hrun
 simp only [List.length_nil,Nat.zero_add] at htl
 have hxl:x28.2.1=t.2.length:=by have:=hm28.len;rw [zuu] at this;omega
 have hm5:=hm2.ext hx5 (by simp)
 have s05:=hx05.1
 generalize hT:t.2=T at *
 refine jg (fun (s:(Option Addr×Nat×Nat)×Int) V=>∃ (j:Nat) (Lj:List (List UInt8)) (xj:Option Addr×Nat×Nat),s=(xj,(j:Int))/\j<=T.length/\Mine V.heap H.size zf 32 xj (Lj.flatMap Bl.zat)/\zwe Lj/\(∀ k,k∈Lj ↔ k∈S++T.take j)/\(∀ k∈Lj,k.length=32)/\Lj.length<=Ls.length+j/\Ext [] w5.heap V.heap) (fun s _=>(T.length-s.2).toNat)
  ⟨0,Ls,x,rfl,Nat.zero_le _,hm5,hrise,by simpa using hmem,hL32,by omega,.refl _ _⟩ ?_
 rintro _ V ⟨j,Lj,xj,rfl,hj,hmj,hrj,hmemj,hj32,hjl,hxV⟩
 refine zx (fun hlt2=>?_) (fun hge2=>?_)
 ·have hlt2:(j:Int) < (x28.2.1:Int):=hlt2
  have hjT:j < T.length:=by omega
  have hg2:=List.getElem?_eq_getElem hjT
  have hd:=ht32 _ (List.getElem_mem hjT)
  have htk:T.take (j+1)=T.take j++[T[j]]:=by rw [List.take_add_one,hg2];rfl
  generalize T[j]=d at hg2 hd htk
  refine zci (i:=j) Bl.zab (by omega) rfl (hm28.ext hxV (by simp)).cells hxl hg2 rfl ?_
  rw [Bl.za7 hd]
  have sV:=hxV.1
  refine zl (qe1 rfl (by omega) hmj hj32 hd hrj (by omega)) ?_
  rintro e w6 ⟨x46,L',rfl,hm6,hr6,hmem6,hl6,hx6⟩
  refine⟨x46,rfl,?_⟩
  refine jd ((j+1:Nat):Int) (by simp) (by omega) (by omega) ?_
  refine⟨⟨j+1,L',x46,rfl,by omega,hm6,hr6,fun k=>?_,fun k hk=>?_,by omega,hxV.trans hx6⟩,by simp only;omega⟩
  ·rw [hmem6,hmemj,htk]
   simp [or_assoc]
  ·rcases (hmem6 k).1 hk with h | h
   ·exact hj32 k h
   ·rw [h];exact hd
 ·have hge2:¬(j:Int) < (x28.2.1:Int):=hge2
  obtain rfl:j=T.length:=by omega
  rw [List.take_length] at hmemj
  refine jd ((i+1:Nat):Int) (by simp) (by omega) (by omega) ?_
  exact⟨⟨i+1,S++T,Lj,xj,rfl,by omega,fun S' c h=>hrec S' c (.step hkd hrun (by rw [hT];exact h)),hmj,hrj,hmemj,hj32,by omega,hx05.trans hxV⟩,by simp only;omega⟩
theorem zla {κ ν:Type} [DecidableEq κ] {f:κ->Bool}{d:κ}:∀ {l:ML κ ν},zbk (l.filter fun y=>f y.1) d=if f d then zbk l d else none
 | []=>by simp [zbk]
 | x :: l=>by
  have ih:=zla (f:=f) (d:=d) (l:=l)
  by_cases hx:f x.1=true
  ·rw [List.filter_cons,if_pos hx]
   unfold zbk at ih |-
   rw [List.find?_cons,List.find?_cons]
   by_cases hd:x.1=d
   ·subst hd;simp [hx]
   ·have h1:(x.1==d)=false:=by simp [hd]
    rw [h1];exact ih
  ·rw [List.filter_cons,if_neg hx,ih]
   unfold zbk
   rw [List.find?_cons]
   by_cases hd:x.1=d
   ·subst hd;simp [hx]
   ·have h1:(x.1==d)=false:=by simp [hd]
    rw [h1]
theorem qf9 {w:World}{H:Heap}{B:Nat}{x:Option Addr×Nat×Nat}{r:Bl.SM}{y:List UInt8×Bl.BV×Nat}(hw:w.heap=H) (hm:Mine H B za2 33 x (r.flatMap Bl.zff)) (hBs:B<=H.size) (hlen:r.length<=1000000){K:(Option Addr×Nat×Nat)->World->Prop}
  (hK:∀ x' w',Mine w'.heap B za2 33 x' ((r++[y]).flatMap Bl.zff)->Ext (jk x) H w'.heap->(∀ c∈jk x',c∈jk x\/H.size<=c)->K x' w') :
  zaw P (Instr.buildSlice jc 1 #[(0,.agg (Bl.zff y).toArray)]) .slc w fun (t27:(Option Addr×Nat×Nat)) w_13=>
  zaw P (Builtin.append_ #[jc,jc] jc #[(Value.slice x.1 x.2.1 x.2.2),(Value.slice t27.1 t27.2.1 t27.2.2)]) .slc w_13 K:=by
 have hlx:x.2.1=r.length:=Bl.zep (B:=B) hm
 refine zah (s:=.slc) (some ⟨w.heap.size,0,none⟩,1,1) _ (zen Bl.EB Bl.uB (v:=.agg (Bl.zff y).toArray) (by simp [Value.cells,Bl.zdq]) (by omega) (by omega)) ?_
 subst hw
 have hxp:Ext [] w.heap (w.heap.push (.cells (Value.agg (Bl.zff y).toArray).cells za2)):=.push _
 refine zcj (bts:=56) (n:=1) (us:=Bl.zff y) (H:=w.heap.push (.cells (Value.agg (Bl.zff y).toArray).cells za2)) Bl.EB (by omega) Bl.uB (zbg Bl.uB) rfl (hm.ext hxp (by simp)) (by simp;omega)
  (Src.slc rfl (.inr ⟨w.heap.size,0,_,_,_,rfl,zk,by simp [zft],by simp [zft,List.take_of_length_le]⟩) (by rw [Bl.zdq])) Bl.z4s (by omega) ?_
 intro x' w4 hm4 hl4 hx4 hs4
 refine hK x' w4 (by rw [List.flatMap_append,List.flatMap_singleton];exact hm4) ((hxp.mono (by simp)).trans hx4) (fun c hc=>?_)
 rcases hs4 c hc with h | h
 ·exact .inl h
 ·right;have:=hxp.1;omega
set_option maxHeartbeats 16000000 in
theorem qbg {fp:List Nat}{pS:Nat}{q:Int}{r:Bl.SM}(hlen:∀ k L,Bl.vw r k=some L->L.length < 1099511627776){w:World}{H:Heap}{a:Option Addr}{n nc:Nat}{L:List Itm}(hw:w.heap=H) (hS:Bl.zdf H fp pS q r) (hfp:∀ b∈fp,b < H.size) (hrl:r.length<=100) (hL:Cells H a (L.flatMap zb0)) (hn:n=L.length) (h32:∀ i∈L,i.sum.length=32) (hl20:L.length<=20) :
  zy P zom #[.pointer (some ⟨pS,0,none⟩),.slice a n nc] w fun e w'=>∃ (S:List (List UInt8)) (c:Int) (r2:Bl.SM) (fp2:List Nat) (m:Nat),e=.returned (.tuple #[.int .i64 (m:Int),.int .i64 c])/\MarkR (Bl.vw r) L [] S c/\Ext fp H w'.heap/\Bl.zdf w'.heap fp2 pS q r2/\(∀ b∈fp2,b∈fp\/(H.size<=b/\b < w'.heap.size))/\r2.length+m=r.length/\(c≠0->r2=r/\m=0)/\(c=0->∀ d,Bl.vw r2 d=if d∈S then Bl.vw r d else none):=by
 refine z1g ?_
 unfold zvr
 refine zl (z81 hlen hw hS hrl hL hn h32 hl20) ?_
 rintro e w1 ⟨S,c,xm,rfl,hmk,hx1,hno,hyes⟩
 refine⟨(xm,c),rfl,?_⟩
 refine zan (fun hc=>?_) (fun hc=>?_)
 ·exact⟨S,c,r,fp,0,rfl,hmk,hx1.mono (by simp),hS.ext hx1 (by simp),fun b hb=>.inl hb,rfl,fun _=>⟨rfl,rfl⟩,fun h=>absurd h hc⟩
 have hc:c=0:=hc
 subst hc
 obtain⟨ys,hmy,hry,hmemy,hy32,hyl⟩:=hyes rfl
 have hxml:xm.2.1=ys.length:=by have:=hmy.len;rw [zuu] at this;omega
 simp only [qg,vg,Nat.zero_add]
 obtain⟨x,h1,h2,h3,h4,h5,h6,h7⟩:=hS.ext hx1 (by simp)
 have hxl:x.2.1=r.length:=Bl.zep h2
 have s1:=hx1.1
 refine jg (fun (s:(Option Addr×Nat×Nat)×Int) W=>∃ (i:Nat) (xo:Option Addr×Nat×Nat),s=(xo,(i:Int))/\i<=r.length/\Mine W.heap w1.heap.size za2 33 xo (((r.take i).filter fun y=>decide (y.1∈ys)).flatMap Bl.zff)/\Ext [] w1.heap W.heap) (fun s _=>(r.length-s.2).toNat)
  ⟨0,(none,0,0),rfl,Nat.zero_le _,.inl ⟨rfl,rfl⟩,.refl _ _⟩ ?_
 rintro _ W ⟨i,xo,rfl,hi,hmo,hxW⟩
 have sW:=hxW.1
 have hfl:((r.take i).filter fun y=>decide (y.1∈ys)).length<=i:=by
  have:=List.length_filter_le (fun y:List UInt8×Bl.BV×Nat=>decide (y.1∈ys)) (r.take i)
  rw [List.length_take] at this;omega
 refine je (s:=.slc) (t:=x) rfl (hxW.get h1 (by simp)) rfl ?_
 refine zx (fun hlt=>?_) (fun hge=>?_)
 ·have hlt:(i:Int) < (x.2.1:Int):=hlt
  have hil:i < r.length:=by omega
  have hget:=List.getElem?_eq_getElem hil
  have hk32:=h7.len _ (List.getElem_mem hil)
  have htk:r.take (i+1)=r.take i++[r[i]]:=by rw [List.take_add_one,hget];rfl
  generalize r[i]=y at hget hk32 htk
  refine Go.Fw.joinP_of (fun (s:Option Addr×Nat×Nat) W'=>Mine W'.heap w1.heap.size za2 33 s (((r.take (i+1)).filter fun y=>decide (y.1∈ys)).flatMap Bl.zff)/\Ext [] w1.heap W'.heap) ?_ ?_
  rotate_left
  ·rintro s W' ⟨u1,u2⟩
   refine jd ((i+1:Nat):Int) (by simp) (by omega) (by omega) ?_
   exact⟨⟨i+1,s,rfl,by omega,u1,u2⟩,by simp only;omega⟩
  refine je (s:=.slc) (t:=x) rfl (hxW.get h1 (by simp)) rfl ?_
  refine Bl.zqs (i:=i) rfl (h2.ext hxW (by simp)).cells hxl hget rfl hk32 ?_
  refine zl (z8o (c:=xm.2.2) (L:=ys) rfl (hmy.ext hxW (by simp)).cells hxml hy32 hk32 (by omega)) ?_
  rintro e w3 ⟨rfl,hx3⟩
  refine⟨_,rfl,?_⟩
  have hx13:=hxW.trans hx3
  have hm3:=hmo.ext hx3 (by simp)
  by_cases hin:y.1∈ys
  ·refine zai (by simp [hin]) ?_
   refine je (s:=.slc) (t:=x) rfl (hx13.get h1 (by simp)) rfl ?_
   refine zci (i:=i) Bl.zdq (by omega) rfl (h2.ext hx13 (by simp)).cells hxl hget rfl ?_
   refine qf9 (y:=y) rfl hm3 hx13.1 (by omega) fun x' w' hm' hx' _=>?_
   exact⟨by rw [htk,List.filter_append];simpa [hin] using hm',hx13.own hx' (fun b hb hlt=>by have:=qx hm3 b hb;omega)⟩
  ·refine jr (by simp [hin]) ?_
   exact⟨by rw [htk,List.filter_append];simpa [hin] using hm3,hx13⟩
 have hge:¬(i:Int) < (x.2.1:Int):=hge
 obtain rfl:i=r.length:=by omega
 rw [List.take_length] at hmo hfl
 generalize hR2:(r.filter fun y=>decide (y.1∈ys))=r2 at hmo hfl
 have hol:xo.2.1=r2.length:=Bl.zep hmo
 have hW1:=hxW.get h1 (by simp)
 refine je (s:=.slc) (t:=x) rfl hW1 rfl ?_
 refine zb3 ((r.length-r2.length:Nat):Int) (by rw [hxl];simp only;omega) (by omega) (by omega) ?_
 refine zbd rfl hW1 (by simp) fun w7 hw7=>?_
 have hx7:Ext [pS] W.heap w7.heap:=by rw [hw7];exact Ext.set _ (by simp)
 have s7:=hx7.1
 have pfp:pS < H.size:=hfp pS h3
 have npo:pS∉jk xo:=fun h=>by have:=qx hmo _ h;omega
 have hsub:∀ y∈r2,y∈r:=fun y hy=>by rw [<-hR2] at hy;exact (List.mem_filter.1 hy).1
 have h5W:∀ z∈r,Mine w7.heap 0 qw 1 z.2.1.1 (byteCells z.2.1.2):=fun z hz=>((h5 z hz).1.ext hxW (by simp)).ext hx7 (fun b hb h=>by
  have h:=List.mem_singleton.1 h
  subst h
  obtain⟨cs,fr,hg⟩:=zgu (h5 z hz).1 _ hb
  rw [h1] at hg;simp only [Option.some.injEq,Obj.cells.injEq] at hg;exact absurd hg.2.1 (by decide))
 refine⟨S,0,r2,jk xo++fp,r.length-r2.length,rfl,hmk,(hx1.trans hxW).mono (by simp) |>.trans (hx7.mono (by simp;exact h3)),⟨xo,by rw [hw7];exact qc hW1,(hmo.ext hx7 (fun b hb h=>by
  have h:=List.mem_singleton.1 h
  subst h;exact npo hb)).mono (Nat.zero_le _),by simp [h3],fun b hb=>by simp [hb],fun z hz=>⟨h5W z (hsub z hz),fun b hb=>by simp [(h5 z (hsub z hz)).2 b hb]⟩,fun y hy z hz hne=>h6 y (hsub y hy) z (hsub z hz) hne,⟨fun y hy=>h7.len y (hsub y hy),by
   have:=h7.rise
   unfold Bl.zi1 at this |-
   rw [<-hR2];exact this.sublist List.filter_sublist⟩⟩,fun b hb=>?_,by omega,fun h=>absurd rfl h,fun _ d=>?_⟩
 ·rcases List.mem_append.1 hb with h | h
  ·right
   have:=qx hmo b h
   have:=(zbs hmo b h).1
   omega
  ·exact .inl h
 ·unfold Bl.vw
  rw [<-hR2,zla (f:=fun k=>decide (k∈ys))]
  by_cases hin:d∈S
  ·rw [if_pos (by simp [(hmemy d).2 hin]),if_pos hin]
  ·have hny:d∉ys:=fun h=>hin ((hmemy d).1 h)
   rw [if_neg (by simp [hny]),if_neg hin];rfl
def rU3:Bl.SM:=[(dCU,((none,0,0),bCU),0),(dFU,((none,0,0),bFU),1),(dRU,((none,0,0),bRU),2)]
def rUY:Bl.SM:=rU3++[(dCY,((none,0,0),bCY),3),(dFY,((none,0,0),bFY),4),(dRY,((none,0,0),bRY),5)]
def vU3 (k:List UInt8):Option (List UInt8):=if k=dCU then some bCU else if k=dFU then some bFU else if k=dRU then some bRU else none
def vUY (k:List UInt8):Option (List UInt8):=if k=dCY then some bCY else if k=dFY then some bFY else if k=dRY then some bRY else vU3 k
theorem qi5 {a b:List UInt8}(h:¬b=a):(a==b)=false:=beq_eq_false_iff_ne.2 fun e=>h e.symm
theorem zlj {κ ν:Type} [DecidableEq κ] {x:κ×ν×Nat}{l:ML κ ν}{k:κ}(h:¬k=x.1):zbk (x :: l) k=zbk l k:=by
 unfold zbk
 rw [List.find?_cons]
 have h2:¬x.1=k:=fun e=>h e.symm
 have:(x.1==k)=false:=by simp [h2]
 rw [this]
theorem qdz (k:List UInt8):Bl.vw rU3 k=vU3 k:=by
 unfold vU3
 by_cases k1:k=dCU
 ·subst k1;decide +kernel
 ·by_cases k2:k=dFU
  ·subst k2;decide +kernel
  ·by_cases k3:k=dRU
   ·subst k3;decide +kernel
   ·rw [if_neg k1,if_neg k2,if_neg k3]
    unfold Bl.vw rU3
    rw [zlj k1,zlj k2,zlj k3];rfl
theorem qdk:(rU3.map (·.1)).Nodup:=by decide +kernel
theorem qhy:(rUY.map (·.1)).Nodup:=by decide +kernel
theorem qf4 (k:List UInt8):Bl.vw rUY k=vUY k:=by
 unfold vUY vU3
 by_cases k1:k=dCU
 ·subst k1;decide +kernel
 ·by_cases k2:k=dFU
  ·subst k2;decide +kernel
  ·by_cases k3:k=dRU
   ·subst k3;decide +kernel
   ·by_cases k4:k=dCY
    ·subst k4;decide +kernel
    ·by_cases k5:k=dFY
     ·subst k5;decide +kernel
     ·by_cases k6:k=dRY
      ·subst k6;decide +kernel
      ·rw [if_neg k1,if_neg k2,if_neg k3,if_neg k4,if_neg k5,if_neg k6]
       unfold Bl.vw rUY rU3
       simp only [List.cons_append,List.nil_append]
       rw [zlj k1,zlj k2,zlj k3,zlj k4,zlj k5,zlj k6];rfl
theorem z7c {r r':Bl.SM}{code:Int}(hv:∀ k,Bl.vw r k=vU3 k) (hk:(r.map (·.1)).Nodup) (h:Bl.zl0 65536 r [bCY,bFY,bRY] code r'):code=0/\∀ k,Bl.vw r' k=vUY k:=by
 have hs:∀ k,Bl.vw r k=Bl.vw rU3 k:=fun k=>(hv k).trans (qdz k).symm
 obtain⟨ht,_⟩:=Bl.zik hk qdk hs
 obtain⟨_,_,h3⟩:=h
 have hl:¬Bl.long [bCY,bFY,bRY]:=by
  rintro ⟨L,hL,h⟩
  simp only [List.mem_cons,List.not_mem_nil,or_false] at hL
  rcases hL with rfl | rfl | rfl <;> revert h <;> decide +kernel
 have hx:¬(65536:Int) < ((Bl.total r:Nat):Int)+((Bl.extra r (Bl.fresh [bCY,bFY,bRY]):Nat):Int):=by
  rw [ht,Bl.zxn hs,qd5];decide +kernel
 obtain⟨h0,hv'⟩:=h3 hl hx
 rw [qd5] at hv'
 refine⟨h0,fun k=>?_⟩
 rw [hv',hv]
 unfold vUY
 by_cases k1:k=dCY
 ·subst k1;decide +kernel
 ·by_cases k2:k=dFY
  ·subst k2;decide +kernel
  ·by_cases k3:k=dRY
   ·subst k3;decide +kernel
   ·rw [if_neg k1,if_neg k2,if_neg k3]
    simp [Bl.znl,List.find?_cons,qi5 k1,qi5 k2,qi5 k3,Bl.zwo]
theorem qi2 {v:List UInt8->Option (List UInt8)}{d b:List UInt8}{n:Nod}{kind:Int}(hv:v d=some b) (hs:Sha.sum b=d) (hn:zhg b=(n,0)) (hk:n.kind=kind):znq (v d) d kind=(n,0):=by
 rw [zu9 (kind:=kind) hv (by rw [hv];simp [Bl.got,hs]),hn]
 rw [if_neg (by simp [hk])]
theorem qlc:vUY dCU=some bCU:=by decide +kernel
theorem qkq:vUY dFU=some bFU:=by decide +kernel
theorem qkk:vUY dRU=some bRU:=by decide +kernel
theorem qgt:Run (zcb vUY) 3 [((dRU,3):Pr)] ([],[]) ([(dRU,3),(dFU,2),(dCU,1)],[dRU,dFU,dCU]) 0:=by
 have g1:=qi2 (kind:=3) qkk sRU vRU rfl
 have g2:=qi2 (kind:=2) qkq sFU vFU rfl
 have g3:=qi2 (kind:=1) qlc sCU vCU rfl
 have e1:zcb vUY ([],[]) (dRU,3)=(([(dRU,3)],[dRU]),[(dFU,2)],0):=by
  unfold zcb
  rw [if_neg (by simp),g1,if_neg (by simp)]
  rfl
 have e2:zcb vUY ([(dRU,3)],[dRU]) (dFU,2)=(([(dRU,3),(dFU,2)],[dRU,dFU]),[(dCU,1)],0):=by
  unfold zcb
  rw [if_neg (by simp),g2,if_neg (by simp),if_neg (by decide +kernel)]
  rfl
 have e3:zcb vUY ([(dRU,3),(dFU,2)],[dRU,dFU]) (dCU,1)=(([(dRU,3),(dFU,2),(dCU,1)],[dRU,dFU,dCU]),[],0):=by
  unfold zcb
  rw [if_neg (by simp),g3,if_neg (by simp),if_neg (by decide +kernel)]
  rfl
 refine .step (by rw [e1]) ?_
 rw [e1]
 show Run (zcb vUY) 2 [((dFU,2):Pr)] ([(dRU,3)],[dRU]) _ 0
 refine .step (by rw [e2]) ?_
 rw [e2]
 show Run (zcb vUY) 1 [((dCU,1):Pr)] ([(dRU,3),(dFU,2)],[dRU,dFU]) _ 0
 refine .step (by rw [e3]) ?_
 rw [e3]
 exact .nil
theorem qeh:MarkR vUY [⟨[],3,dRU⟩] [] [dRU,dFU,dCU] 0:=.step (.inr rfl) qgt .nil
theorem qck (k:List UInt8):(if k∈([dRU,dFU,dCU]:List (List UInt8)) then vUY k else none)=vU3 k:=by
 unfold vU3
 by_cases k1:k=dCU
 ·subst k1;decide +kernel
 ·by_cases k2:k=dFU
  ·subst k2;decide +kernel
  ·by_cases k3:k=dRU
   ·subst k3;decide +kernel
   ·rw [if_neg k1,if_neg k2,if_neg k3,if_neg (by simp [k1,k2,k3])]
theorem qky (w:World):(Instr.build zu #[(1,(Value.int .i64 3)),(2,arr dRU)]).run P w=.ok (.agg (zb0 ⟨[],3,dRU⟩).toArray) w:=by kernel_rfl
theorem qkx (w:World):(Instr.buildSlice xg 1 #[(0,.agg (zb0 ⟨[],3,dRU⟩).toArray)]).run P w=.ok (.slice (some ⟨w.heap.size,0,none⟩) 1 1) { w with heap:=w.heap.push (.cells ([(⟨[],3,dRU⟩:Itm)].flatMap zb0).toArray zu) }:=by kernel_rfl
theorem qf7:dRU.length=32:=by decide +kernel
set_option maxHeartbeats 16000000 in
theorem qbx {w:World}{H:Heap}(hw:w.heap=H) (hR:Bl.Rounds H):zy P zoj #[] w fun e w'=>e=.returned (.bool true)/\Ext [] H w'.heap:=by
 have hH0:0 < H.size:=by obtain⟨_,_,_,h,_⟩:=hR;exact lt_of_get h
 refine z1j ?_
 unfold zto
 refine zl (Bl.z9t 65536 hw) ?_
 rintro e w1 ⟨p,fp,rfl,hS1,hx1,hfp1⟩
 refine⟨some ⟨p,0,none⟩,rfl,?_⟩
 rw [show max (65536:Int) 0=65536 from by decide] at hS1
 refine qm (s:=.any) (.agg (zol fU).toArray) (qhk _ _ _) ?_
 refine zah (s:=.slc) (some ⟨w1.heap.size,0,none⟩,1,1) _ (qjz fU w1) ?_
 generalize hw2:({ w1 with heap:=w1.heap.push (.cells ([fU].flatMap zol).toArray za1) }:World)=w2
 have hh2:w2.heap=w1.heap.push (.cells ([fU].flatMap zol).toArray za1):=by rw [<-hw2]
 have hx2:Ext [] w1.heap w2.heap:=by rw [hh2];exact .push _
 have hc2:Cells w2.heap (some ⟨w1.heap.size,0,none⟩) (LU.flatMap zol):=.inr ⟨w1.heap.size,0,_,_,_,rfl,by rw [hh2];exact zk,by simp [LU],by simp [LU,zol]⟩
 have hx02:=hx1.trans hx2
 have s1:=hx1.1
 have s2:=hx2.1
 have hS2:=hS1.ext hx2 (by simp)
 refine zl (z4e (L:=LU) (nc:=1) rfl hS2 (fun b hb=>by have:=(hfp1 b hb).2;omega) (hR.ext hx02 (by simp)) (fun h=>by have:=(hfp1 0 h).1;omega) hc2 rfl (by decide) (by simp [Bl.total]) (by decide) (by decide) (by intro k L h;simp [Bl.vw,zbk] at h)) ?_
 rintro e w3 ⟨c1,d1,r3,k3,fp3,rfl,hd1,hS3,hx3,hf3a,hf3b,hP3,ht3⟩
 obtain⟨hP,hd⟩:=hP3.2 qk2
 rw [qi8] at hP hd
 obtain⟨rfl,hv3⟩:=qi4 hP
 rw [if_pos rfl] at hd
 have hd:d1=dRU:=hd
 subst hd
 refine⟨(arr dRU,0),rfl,?_⟩
 have hx03:Ext [] H w3.heap:=hx02.own hx3 (fun c hc hlt=>by have:=(hfp1 c hc).1;omega)
 have s3:=hx3.1
 have tz:Bl.total ([]:Bl.SM)=0:=rfl
 have l1:LU.length=1:=rfl
 have l2:LY.length=1:=rfl
 rw [tz,l1] at ht3
 have lo3:∀ b∈fp3,H.size<=b:=fun b hb=>by
  rcases hf3b b hb with h | h
  ·have:=(hfp1 b h).1;omega
  ·omega
 refine qg8 hd1 rfl fun w5 hw5=>?_
 have hx5:Ext [] w3.heap w5.heap:=by rw [hw5];exact .push _
 have hb5:w5.heap[w3.heap.size]?=some (.cells (byteCells dRU).toArray zf (0,0)):=by rw [hw5];exact zk
 have s5:=lt_of_get hb5
 refine qm (s:=.any) (.agg (zol fY).toArray) (qhk _ _ _) ?_
 refine zah (s:=.slc) (some ⟨w5.heap.size,0,none⟩,1,1) _ (qjz fY w5) ?_
 generalize hw6:({ w5 with heap:=w5.heap.push (.cells ([fY].flatMap zol).toArray za1) }:World)=w6
 have hh6:w6.heap=w5.heap.push (.cells ([fY].flatMap zol).toArray za1):=by rw [<-hw6]
 have hx6:Ext [] w5.heap w6.heap:=by rw [hh6];exact .push _
 have hc6:Cells w6.heap (some ⟨w5.heap.size,0,none⟩) (LY.flatMap zol):=.inr ⟨w5.heap.size,0,_,_,_,rfl,by rw [hh6];exact zk,by simp [LY],by simp [LY,zol]⟩
 have hx36:=hx5.trans hx6
 have hx06:=hx03.trans hx36
 have s6:=hx6.1
 refine zl (z4e (L:=LY) (nc:=1) rfl (hS3.ext hx36 (by simp)) (fun b hb=>by have:=hf3a b hb;omega) (hR.ext hx06 (by simp)) (fun h=>by have:=lo3 0 h;omega) hc6 rfl (by decide) (by omega) (by decide) (by decide) (fun k L hv=>by have:=qat (zcu hS3) hv;omega)) ?_
 rintro e w7 ⟨c2,d2,r6,k6,fp6,rfl,hd2,hS7,hx7,hf7a,hf7b,hP7,ht7⟩
 obtain⟨hPY,_⟩:=hP7.2 qkg
 rw [qis] at hPY
 obtain⟨_,hv6⟩:=z7c hv3 (zcu hS3).keys hPY
 rw [l2] at ht7
 refine⟨(arr d2,c2),rfl,?_⟩
 have s7:=hx7.1
 have hx07:Ext [] H w7.heap:=hx06.own hx7 (fun b hb hlt=>by have:=lo3 b hb;omega)
 have lo7:∀ b∈fp6,H.size<=b:=fun b hb=>by
  rcases hf7b b hb with h | h
  ·exact lo3 b h
  ·have:=hx06.1;omega
 have hb7:=hx7.get (hx6.get hb5 (by simp)) (fun h=>by have:=hf3a _ h;omega)
 refine qp rfl hb7 (by simp [hd1]) ?_
 refine qm (s:=.any) _ (qky _) ?_
 refine zah (s:=.slc) (some ⟨w7.heap.size,0,none⟩,1,1) _ (qkx w7) ?_
 generalize hw8:({ w7 with heap:=w7.heap.push (.cells ([(⟨[],3,dRU⟩:Itm)].flatMap zb0).toArray zu) }:World)=w8
 have hh8:w8.heap=w7.heap.push (.cells ([(⟨[],3,dRU⟩:Itm)].flatMap zb0).toArray zu):=by rw [<-hw8]
 have hx8:Ext [] w7.heap w8.heap:=by rw [hh8];exact .push _
 have hc8:Cells w8.heap (some ⟨w7.heap.size,0,none⟩) ([(⟨[],3,dRU⟩:Itm)].flatMap zb0):=.inr ⟨w7.heap.size,0,_,_,_,rfl,by rw [hh8];exact zk,by simp,by simp [List.take_of_length_le]⟩
 have s8:=hx8.1
 have hx08:=hx07.trans hx8
 have e6:=Bl.zik (zcu hS7).keys qhy (fun k=>(hv6 k).trans (qf4 k).symm)
 have l6:r6.length=6:=e6.2
 refine zl (z8c (L:=[⟨[],3,dRU⟩]) (nc:=1) (fun k L hv=>by have:=qat (zcu hS7) hv;omega) rfl (hS7.ext hx8 (by simp)) (fun b hb=>by have:=hf7a b hb;omega) (hR.ext hx08 (by simp)) (by omega) (by omega) hc8 rfl (by simpa using qf7) (by simp)) ?_
 rintro e w9 ⟨S,c,r7,k7,m,rfl,hmk,hx9,hS9,hl9,_,_,hv9⟩
 refine⟨((m:Int),c),rfl,?_⟩
 rw [show Bl.vw r6=vUY from funext hv6] at hmk
 obtain⟨rfl,rfl⟩:=hmk.same qeh
 have hv9:=hv9 rfl
 have e7:=Bl.zik (zcu hS9).keys qdk (fun k=>by rw [hv9,hv6,qdz];exact qck k)
 have l7:r7.length=3:=e7.2
 obtain rfl:m=3:=by omega
 have hx09:Ext [] H w9.heap:=hx08.own hx9 (fun b hb hlt=>by have:=lo7 b hb;omega)
 refine zl (z7j rfl) ?_
 rintro e w10 ⟨rfl,hx10⟩
 refine⟨(0,7),rfl,?_⟩
 refine zai rfl (zai rfl (zai rfl ?_))
 refine zl (Bl.z88 rfl (hS9.ext hx10 (by simp))) ?_
 rintro e w11 ⟨rfl,rfl⟩
 refine⟨_,rfl,?_⟩
 rw [l7]
 exact zai rfl ⟨rfl,hx09.trans hx10⟩
theorem qj7 (n:Int) (w:World):(Instr.build zu #[(0,(Value.string (ByteArray.mk #[97,110,121]))),(1,(Value.int .i64 n))]).run P w=.ok (.agg ([Value.string (strOf [97,110,121]),Value.int .i64 n]++byteCells (List.replicate 32 0)).toArray) w:=by kernel_rfl
def zzp (H:Heap) (a:Option Addr) (n:Nat):Prop:=∀ i,i < n->∃ (b o:Nat) (c:Array Value) (T:TypeId) (fr:Nat×Nat) (at_ kd:Int),a=some ⟨b,o,none⟩/\H[b]?=some (.cells c T fr)/\c[o+i * 2]?=some (.int .i64 at_)/\c[o+i * 2+1]?=some (.int .i64 kd)
theorem zzp.ext {H H':Heap}{a:Option Addr}{n:Nat}(h:zzp H a n) (hx:Ext [] H H'):zzp H' a n:=by
 intro i hi
 obtain⟨b,o,c,T,fr,at_,kd,h1,h2,h3⟩:=h i hi
 exact⟨b,o,c,T,fr,at_,kd,h1,hx.get h2 (by simp),h3⟩
set_option maxHeartbeats 64000000 in
theorem z94 {w:World}{H:Heap}{a la:Option Addr}{n nc ln lnc:Nat}{dr sp:Int}(hw:w.heap=H) (hR:Bl.Rounds H) (hr:z1t H a n) (hM:zzp H la ln) :
  zy P zl6 #[.agg #[.slice a n nc,.int .i64 dr,.int .i64 sp],.slice la ln lnc] w fun e w'=>e=.returned (.bool true)/\Ext [] H w'.heap:=by
 refine zsz ?_
 unfold zmb
 refine jm hw fun w1 hw1=>?_
 have hx1:Ext [] H w1.heap:=by rw [hw1];exact .push _
 have hb1:w1.heap[H.size]?=some (.cells #[.slice a n nc,.int .i64 dr,.int .i64 sp] zew (0,0)):=by rw [hw1];exact zk
 refine zl (qbx rfl (hR.ext hx1 (by simp))) ?_
 rintro e w2 ⟨rfl,hx2⟩
 refine⟨true,rfl,jr rfl ?_⟩
 have hx02:=hx1.trans hx2
 refine qp rfl (hx2.get hb1 (by simp)) rfl ?_
 refine zl (qjl rfl (hR.ext hx02 (by simp)) (hr.ext hx02)) ?_
 rintro e w3 ⟨p,fp,r,k,p',fp',rl,x,ds,rfl,hLY,hx3⟩
 refine⟨(some ⟨p,0,none⟩,some ⟨p',0,none⟩,x),rfl,?_⟩
 have hx03:=hx02.trans hx3
 have hxl:x.2.1=ds.length:=by have:=hLY.sums.len;rw [zuu] at this;omega
 have hd20:=hLY.dlen
 have hM3:=hM.ext hx03
 simp only [qg,vg,Nat.zero_add]
 refine Go.Fw.joinP_of (fun (s:Option Addr×Nat×Nat) W=>∃ its:List Itm,Mine W.heap w3.heap.size zu 34 s (its.flatMap zb0)/\its.length<=10/\(∀ i∈its,i.sum.length=32)/\Ext [] w3.heap W.heap) ?_ ?_
 ·refine jg (fun (s:(Option Addr×Nat×Nat)×Int) W=>∃ (i:Nat) (its:List Itm) (xs:Option Addr×Nat×Nat),s=(xs,(i:Int))/\Mine W.heap w3.heap.size zu 34 xs (its.flatMap zb0)/\its.length=i/\i<=10/\(∀ i∈its,i.sum.length=32)/\Ext [] w3.heap W.heap) (fun s _=>(10-s.2).toNat)
   ⟨0,[],(none,0,0),rfl,.inl ⟨rfl,rfl⟩,rfl,by omega,by simp,.refl _ _⟩ ?_
  rintro _ W ⟨i,its,xs,rfl,hm,hil,hi,h32,hxW⟩
  have out:∃ its:List Itm,Mine W.heap w3.heap.size zu 34 xs (its.flatMap zb0)/\its.length<=10/\(∀ i∈its,i.sum.length=32)/\Ext [] w3.heap W.heap:=⟨its,hm,by omega,h32,hxW⟩
  refine Go.Fw.joinP_of (fun _ W'=>W'=W/\i < 10/\i < ln) ?_ ?_
  ·refine zx (fun h1=>?_) (fun _=>out)
   refine zx (fun h2=>?_) (fun _=>out)
   have h1:(i:Int) < (ln:Int):=h1
   have h2:(i:Int) < 10:=h2
   exact⟨rfl,by omega,by omega⟩
  rintro _ V ⟨hV,h10,hiln⟩
  have hV:=hV.symm
  subst hV
  refine Go.Fw.joinP_of (fun (s:Option Addr×Nat×Nat) W'=>∃ its:List Itm,Mine W'.heap w3.heap.size zu 34 s (its.flatMap zb0)/\its.length=i+1/\(∀ i∈its,i.sum.length=32)/\Ext [] w3.heap W'.heap) ?_ ?_
  rotate_left
  ·rintro s W' ⟨its',u1,u2,u3,u4⟩
   refine jd ((i+1:Nat):Int) (by simp) (by omega) (by omega) ?_
   exact⟨⟨i+1,its',s,rfl,u1,u2,by omega,u3,u4⟩,by simp only;omega⟩
  obtain⟨b,o,c,T,fr,at_,kd,rfl,hb,hca,hck⟩:=hM3 i hiln
  have sW:=hxW.1
  refine z07 i rfl hiln ?_
  refine je (s:=.int .i64) (o:=o+i * 2+1) (t:=kd) rfl (hxW.get hb (by simp)) hck ?_
  have e0:zb0 ⟨[97,110,121],kd,Bl.nought⟩=[Value.string (strOf [97,110,121]),Value.int .i64 kd]++byteCells (List.replicate 32 0):=zqg Bl.zbf
  refine qm (s:=.any) (.agg (zb0 ⟨[97,110,121],kd,Bl.nought⟩).toArray) (by rw [e0];exact qj7 _ _) ?_
  refine qdt ⟨[97,110,121],kd,Bl.nought⟩ rfl fun w7 hw7=>?_
  have hx7:Ext [] W.heap w7.heap:=by rw [hw7];exact .push _
  have hb7:w7.heap[W.heap.size]?=some (.cells (zb0 ⟨[97,110,121],kd,Bl.nought⟩).toArray zu (0,0)):=by rw [hw7];exact zk
  have s7:=lt_of_get hb7
  refine Go.Fw.joinP_of (fun _ V=>∃ s:List UInt8,s.length=32/\V.heap[W.heap.size]?=some (.cells (zb0 ⟨[97,110,121],kd,s⟩).toArray zu (0,0))/\Ext [] W.heap V.heap) ?_ ?_
  ·refine zx (fun hpos=>?_) (fun _=>⟨Bl.nought,Bl.zbf,hb7,hx7⟩)
   have hpos:(x.2.1:Int) > 0:=hpos
   refine z07 i rfl hiln ?_
   refine je (s:=.int .i64) (o:=o+i * 2) (t:=at_) rfl ((hxW.trans hx7).get hb (by simp)) hca ?_
   refine zy0 fun m hm=>?_
   refine zf6 (by show (0:Int)<=(x.2.1:Int);omega) (by show (x.2.1:Int) < _;omega) ?_
   refine zw0 m ds.length rfl (by show (x.2.1:Int)=_;omega) (by omega) ?_
   have hmod:=Nat.mod_lt m (show 0 < ds.length by omega)
   refine zhb (by omega) (by omega) ?_
   generalize m % ds.length=j at hmod |-
   have hget:=List.getElem?_eq_getElem hmod
   have hq:=hLY.d32 _ (List.getElem_mem hmod)
   generalize ds[j]=d at hget hq
   refine zci (i:=j) Bl.zab (by omega) rfl (hLY.sums.ext (hxW.trans hx7) (by simp)).cells hxl hget rfl ?_
   rw [Bl.za7 hq]
   refine zay (v:=arr d) (by rw [szD,Bl.xq,hq]) (by rw [Bl.xq];omega) (by simpa [Value.cells,arr] using jo) rfl hb7 (by rw [Bl.xq];simp [zac,hq]) fun w8 hw8=>?_
   have hx8:Ext [W.heap.size] w7.heap w8.heap:=by rw [hw8];exact Ext.set _ (by simp)
   rw [show setCells (zb0 ⟨[97,110,121],kd,Bl.nought⟩).toArray 2 (arr d).cells.toList=(zb0 ⟨[97,110,121],kd,d⟩).toArray from zsa hq] at hw8
   exact⟨d,hq,by rw [hw8];exact qc hb7,hx7.own hx8 (fun b hb hlt=>by simp at hb;omega)⟩
  rintro _ V ⟨s,hs,hbV,hxV⟩
  refine qp rfl hbV (by simp [zac]) ?_
  have sV:=hxV.1
  refine zre (i:=⟨[97,110,121],kd,s⟩) rfl (hm.ext hxV (by simp)) (by omega) (by omega) fun x' w11 hm11 hx11 _=>?_
  refine⟨its++[⟨[97,110,121],kd,s⟩],hm11,by simp [hil],fun i hi=>?_,(hxW.trans hxV).own hx11 (fun b hb hlt=>by have:=qx hm b hb;omega)⟩
  rcases List.mem_append.1 hi with h | h
  ·exact h32 i h
  ·rw [List.mem_singleton.1 h];exact hs
 rintro xs W ⟨its,hmi,hil,hi32,hxW⟩
 have hLW:=hLY.ext hxW
 have hxHW:=hx03.trans hxW
 have hRW:=hR.ext hxHW (by simp)
 have hview:=hLW.view
 have hrl:=hLW.rlen
 have htot:=hLW.tot
 have hxsl:xs.2.1=its.length:=by have:=hmi.len;rw [qf6] at this;omega
 have hv:Bl.vw r=Bl.vw rl:=funext hLW.same
 have hlen:∀ k L,Bl.vw r k=some L->L.length < 1099511627776:=fun k L h=>by have:=hLW.small k L h;omega
 have hlen':∀ k L,Bl.vw rl k=some L->L.length < 1099511627776:=fun k L h=>hlen k L (by rw [hv];exact h)
 refine zl (qgv (nc:=xs.2.2) hlen rfl hLW.st (fun b hb=>(hLW.lo b hb).2) hRW (by omega) hmi.cells hxsl hi32 (by omega)) ?_
 rintro e w14 ⟨S,c,x67,rfl,hmk,hx14,hn1,hy1⟩
 refine⟨(x67,c),rfl,?_⟩
 refine zl (z81 (nc:=xs.2.2) hlen' rfl (hLW.rs.ext hx14 (by simp)) (by omega) (hmi.ext hx14 (by simp)).cells hxsl hi32 (by omega)) ?_
 rintro e w15 ⟨S2,c2,x73,rfl,hmk2,hx15,hn2,hy2⟩
 refine⟨(x73,c2),rfl,?_⟩
 rw [<-hv] at hmk2
 obtain⟨rfl,rfl⟩:=hmk.same hmk2
 have hx1415:=hx14.trans hx15
 refine Go.Fw.joinP_of (fun _ V=>Ext [] W.heap V.heap) ?_ ?_
 ·refine zan (fun h=>absurd rfl h) (fun _=>?_)
  have fin:∀ {y1 y2:Option Addr×Nat×Nat}{L:List (List UInt8)},Cells w15.heap y1.1 (L.flatMap Bl.zat)->y1.2.1=L.length->Cells w15.heap y2.1 (L.flatMap Bl.zat)->y2.2.1=L.length->(∀ q∈L,q.length=32)->L.length<=1099511627776 ->
    qy P zid #[(Value.slice y1.1 y1.2.1 y1.2.2),(Value.slice y2.1 y2.2.1 y2.2.2)] [.bool] false w15 fun (t82:Bool) w_16=>xu (!t82) (Ending.returned (Value.bool false)=.returned (.bool true)/\Ext [] H w_16.heap) (Ext [] W.heap w_16.heap):=by
   intro y1 y2 L h1 h2 h3 h4 h5 h6
   refine zl (qah (c:=y1.2.2) (d:=y2.2.2) rfl h1 h2 h3 h4 h5 h5 h6) ?_
   rintro e w' ⟨rfl,hw'⟩
   refine⟨_,rfl,jr (by simp) ?_⟩
   rw [hw'];exact hx1415
  by_cases hc:c=0
  ·obtain⟨ys,m1,r1,e1,q1,l1⟩:=hy1 hc
   obtain⟨zs,m2,r2,e2,q2,l2⟩:=hy2 hc
   obtain rfl:=z4o r1 r2 (fun d=>(e1 d).trans (e2 d).symm)
   exact fin (y1:=x67) (y2:=x73) (m1.ext hx15 (by simp)).cells (by have:=m1.len;rw [zuu] at this;omega) m2.cells (by have:=m2.len;rw [zuu] at this;omega) q1 (by omega)
  ·rw [hn1 hc,hn2 hc]
   exact fin (L:=[]) (.inl rfl) rfl (.inl rfl) rfl (by simp) (by simp)
 rintro _ V ⟨hxV⟩
 have hxV:Ext [] W.heap V.heap:=⟨‹_›,‹_›⟩
 have hxHV:=hxHW.trans hxV
 have hLV:=hLW.ext hxV
 refine zl (z8c (nc:=xs.2.2) hlen rfl hLV.st (fun b hb=>(hLV.lo b hb).2) (hR.ext hxHV (by simp)) (by omega) (by omega) (hmi.ext hxV (by simp)).cells hxsl hi32 (by omega)) ?_
 rintro e w18 ⟨S3,c3,r3,k3,m3,rfl,hmk3,hx18,hS18,hl18,ht18,hz18,hv18⟩
 refine⟨((m3:Int),c3),rfl,?_⟩
 obtain⟨rfl,rfl⟩:=hmk.same hmk3
 have s18:=hx18.1
 have lo:∀ b∈fp,w3.heap.size<=b\/b < w3.heap.size:=fun b _=>by omega
 have hmiV:=hmi.ext hxV (by simp)
 have fpW:∀ b∈fp,b < w3.heap.size:=fun b hb=>(hLY.lo b hb).2
 have fpW':∀ b∈fp',b < w3.heap.size:=fun b hb=>(hLY.lo' b hb).2
 have hmi18:=hmiV.ext hx18 (fun b hb h=>by have:=qx hmi b hb;have:=fpW b h;omega)
 refine zl (qbg (nc:=xs.2.2) hlen' rfl (hLV.rs.ext hx18 (fun b hb h=>hLV.ap b h hb)) (fun b hb=>by have:=(hLV.lo' b hb).2;omega) (by omega) hmi18.cells hxsl hi32 (by omega)) ?_
 rintro e w19 ⟨S4,c4,r4,fp4,m4,rfl,hmk4,hx19,hS19,hsub19,hl19,hz19,hv19⟩
 refine⟨((m4:Int),c4),rfl,?_⟩
 rw [<-hv] at hmk4
 obtain⟨rfl,rfl⟩:=hmk.same hmk4
 have hS19b:=hS18.ext hx19 (fun b hb h=>hLV.ap b hb h)
 have hsame:∀ d,Bl.vw r3 d=Bl.vw r4 d:=by
  intro d
  by_cases hc:c=0
  ·rw [hv18 hc,hv19 hc,hv]
  ·rw [(hz18 hc).1,(hz19 hc).1,hv]
 have hvw:=Bl.zik (zcu hS18).keys (zkz hS19) hsame
 have hxH19:Ext [] H w19.heap:=(hxHV.own hx18 (fun b hb hlt=>by have:=(hLY.lo b hb).1;have:=hx02.1;omega)).own hx19 (fun b hb hlt=>by have:=(hLY.lo' b hb).1;have:=hx02.1;omega)
 refine Go.Fw.joinP_of (fun _ U=>Ext [] w19.heap U.heap) ?_ ?_
 ·refine jv rfl fun w20 hw20=>?_
  have hx20:Ext [] w19.heap w20.heap:=by rw [hw20];exact .refl _ _
  refine zan (fun h=>absurd rfl h) (fun _=>?_)
  refine zan (fun h=>absurd (show (m3:Int)=(m4:Int) by omega) h) (fun _=>?_)
  have hT20:=hS19.ext hx20 (by simp)
  obtain⟨xh,h1,h2,_⟩:=id hT20
  have hxh:xh.2.1=r4.length:=Bl.zep h2
  refine je (s:=.slc) (t:=xh) rfl h1 rfl ?_
  refine zl (Bl.z88 rfl (hS19b.ext hx20 (by simp))) ?_
  rintro e w21 ⟨rfl,rfl⟩
  refine⟨_,rfl,?_⟩
  refine⟨je (s:=.slc) (o:=1) (t:=xh) (K:=fun z=>Value.slice z.1 z.2.1 z.2.2=Value.slice xh.1 xh.2.1 xh.2.2) rfl h1 rfl rfl,?_⟩
  refine zan (fun h=>absurd (by rw [hxh,hvw.2]) h) (fun _=>?_)
  refine zl (Bl.z3f rfl (hS19b.ext hx20 (by simp))) ?_
  rintro e w22 ⟨rfl,rfl⟩
  refine⟨_,rfl,?_⟩
  refine zl (Bl.z4v rfl hT20 (by omega) (by omega)) ?_
  rintro e w23 ⟨rfl,rfl⟩
  refine⟨_,rfl,?_⟩
  exact zan (fun h=>absurd (by rw [hvw.1]) h) (fun _=>hx20)
 rintro _ U hxU
 have hxHU:=hxH19.trans hxU
 have hSU:=hS19b.ext hxU (by simp)
 have hTU:=hS19.ext hxU (by simp)
 obtain⟨xh,h1,h2,_,_,_,_,h7⟩:=id hTU
 have hxh:xh.2.1=r4.length:=Bl.zep h2
 refine jg (fun (s:Int) Z=>∃ i:Nat,s=(i:Int)/\i<=r4.length/\Ext [] U.heap Z.heap) (fun s _=>(r4.length-s).toNat) ⟨0,rfl,Nat.zero_le _,.refl _ _⟩ ?_
 rintro _ Z ⟨i,rfl,hi,hxZ⟩
 refine je (s:=.slc) (t:=xh) rfl (hxZ.get h1 (by simp)) rfl ?_
 refine zx (fun hlt=>?_) (fun hge=>⟨trivial,hxHU.trans hxZ⟩)
 have hlt:(i:Int) < (xh.2.1:Int):=hlt
 have hil2:i < r4.length:=by omega
 have hget:=List.getElem?_eq_getElem hil2
 have hmem:=List.getElem_mem hil2
 generalize r4[i]=y at hget hmem
 have hk32:=h7.len _ hmem
 refine je (s:=.slc) (t:=xh) rfl (hxZ.get h1 (by simp)) rfl ?_
 refine Bl.zqs (i:=i) rfl (h2.ext hxZ (by simp)).cells hxh hget rfl hk32 ?_
 refine zl (Bl.qil rfl (hSU.ext hxZ (by simp)) hk32) ?_
 rintro e w26 ⟨rfl,hx26⟩
 refine⟨_,rfl,?_⟩
 rw [hsame,Bl.ztk (zkz hTU) hmem]
 refine jr rfl ?_
 refine jd ((i+1:Nat):Int) (by simp) (by omega) (by omega) ?_
 exact⟨⟨i+1,rfl,by omega,hxZ.trans hx26⟩,by omega⟩
open Go.ChangeShapes Go.WideShapes Go.ChangeAt Go.RowKit
variable {Hh:Type}
theorem qcn (d:DataW Hh):1<=Rows.uptoBulk d:=by
 cases d with
 | lit l=>cases l <;> simp [Rows.uptoBulk]
 | _=>simp [Rows.uptoBulk]
theorem zr7:∀ {l:List (DataW Hh)},l.length<=Rows.uptoBulkAll l
 | []=>by simp [Rows.uptoBulkAll]
 | d :: l=>by
  have:=zr7 (l:=l)
  have:=qcn d
  simp only [Rows.uptoBulkAll,List.length_cons];omega
theorem zth:∀ {l:List (DataW Hh)}{d:DataW Hh},d∈l->Rows.uptoBulk d<=Rows.uptoBulkAll l
 | x :: l,d,h=>by
  simp only [Rows.uptoBulkAll]
  rcases List.mem_cons.1 h with rfl | h
  ·omega
  ·have:=zth h;omega
theorem zyt (d:DataW Hh):big d<=Rows.uptoBulk d:=by
 cases d with
 | slice es rest=>have:=zr7 (l:=es);simp only [big,Rows.uptoBulk];omega
 | _=>simp [big]
theorem zw9 {es rest:List (DataW Hh)}{d:DataW Hh}(h:d∈es):Rows.uptoBulk d<=Rows.uptoBulk (.slice es rest):=by
 have:=zth h;simp only [Rows.uptoBulk];omega
theorem z4g {es:List (DataW Hh)}{d:DataW Hh}(h:d∈es):Rows.uptoBulk d<=Rows.uptoBulk (.agg es):=by
 have:=zth h;simp only [Rows.uptoBulk];omega
variable {enc:TypeId×Value->Hh}{W:World}
theorem z4t {t:TypeId}(ht:P.underlying t=some .string){v:Value}{fuel:Nat}{x:DataW Hh×List MemPlace}(h:DataW.trod enc P W 0 (fun _=>true) true fuel t [v]=some x):∃ L:List UInt8,v=.string (strOf L)/\L.length<=Rows.uptoBulk x.1:=by
 cases fuel with
 | zero=>simp [DataW.trod] at h
 | succ m=>
  unfold DataW.trod at h
  rw [ht] at h
  split at h <;> simp_all
  refine⟨_,z5s.symm,?_⟩
  rw [<-h.2]
  simp [Rows.uptoBulk]
theorem qas {t e:TypeId}(ht:P.underlying t=some (.slice e)) (hc:P.cellsOf e=1){α:Type}{f:α->Value}{Q:α->Nat->Prop}(hQ:∀ y m n,Q y m->m<=n->Q y n) (hel:∀ {v:Value}{fuel:Nat}{x:DataW Hh×List MemPlace},DataW.trod enc P W 0 (fun _=>true) true fuel e [v]=some x->∃ y,v=f y/\Q y (Rows.uptoBulk x.1))
  {v:Value}{fuel:Nat}{x:DataW Hh×List MemPlace}(h:DataW.trod enc P W 0 (fun _=>true) true fuel t [v]=some x):∃ (a:Option Addr) (n nc:Nat) (L:List α),v=.slice a n nc/\Cells W.heap a (L.map f)/\n=L.length/\L.length<=Rows.uptoBulk x.1/\∀ y∈L,Q y (Rows.uptoBulk x.1):=by
 obtain⟨a,n,nc,ys,rfl,hle,hn,hx,hes⟩:=row_of ht hc (by omega) h
 have key:∀ i (hi:i < ys.length),∃ y:α,(∃ (b o:Nat) (c:Array Value) (T:TypeId) (fr:Nat×Nat),a=some ⟨b,o,none⟩/\W.heap[b]?=some (.cells c T fr)/\o+i < c.size/\c[o+i]?=some (f y))/\Q y (Rows.uptoBulk x.1):=by
  intro i hi
  obtain⟨b,o,c,T,fr,m,ps,rfl,hb,hsz,ht2⟩:=hes i hi
  rw [Nat.mul_one] at hsz ht2
  rw [take_one (by omega)] at ht2
  obtain⟨y,hv,hq⟩:=hel ht2
  refine⟨y,⟨b,o,c,T,fr,rfl,hb,by omega,by rw [<-hv];exact Array.getElem?_eq_getElem _⟩,hQ _ _ _ hq ?_⟩
  rcases hx with⟨h1,h2,_⟩ | ⟨rest,h3⟩
  ·omega
  ·rw [h3];exact zw9 (List.getElem_mem _)
 have hlen:∃ L:List α,L.length=ys.length/\∀ i (hi:i < ys.length) (h:i < L.length),(∃ (b o:Nat) (c:Array Value) (T:TypeId) (fr:Nat×Nat),a=some ⟨b,o,none⟩/\W.heap[b]?=some (.cells c T fr)/\o+i < c.size/\c[o+i]?=some (f L[i]))/\Q L[i] (Rows.uptoBulk x.1):=by
  classical
  by_cases h0:ys.length=0
  ·exact⟨[],by simp [h0],fun i hi=>by omega⟩
  ·refine⟨(List.range ys.length).map fun i=>if h:i < ys.length then Classical.choose (key i h) else Classical.choose (key 0 (by omega)),by simp,fun i hi h=>?_⟩
   have:=Classical.choose_spec (key i hi)
   simpa [hi] using this
 obtain⟨L,hl,hL⟩:=hlen
 refine⟨a,n,nc,L,rfl,?_,by omega,?_,fun y hy=>?_⟩
 ·by_cases h0:n=0
  ·left;rw [List.eq_nil_of_length_eq_zero (by omega:L.length=0)];rfl
  ·obtain⟨⟨b,o,c,T,fr,rfl,hb,_,_⟩,_⟩:=hL 0 (by omega) (by omega)
   have at_:∀ i (hi:i < L.length),o+i < c.size/\c[o+i]?=some (f L[i]):=by
    intro i hi
    obtain⟨⟨b2,o2,c2,T2,fr2,he,hb2,h3,h4⟩,_⟩:=hL i (by omega) hi
    cases he
    rw [hb] at hb2;cases hb2
    exact⟨h3,h4⟩
   refine .inr ⟨b,o,c,T,fr,rfl,hb,?_,?_⟩
   ·have:=(at_ (L.length-1) (by omega)).1
    rw [List.length_map];omega
   ·apply List.ext_getElem?
    intro j
    rw [Array.getElem?_toList,Array.getElem?_extract,List.length_map,List.getElem?_map]
    by_cases hj:j < L.length
    ·have hjc:=(at_ j hj).1
     rw [if_pos (by omega),(at_ j hj).2,List.getElem?_eq_getElem hj];rfl
    ·rw [if_neg (by omega),List.getElem?_eq_none (by omega)];rfl
 ·rcases hx with⟨h1,h2,_⟩ | ⟨rest,h3⟩
  ·have:L.length=0:=by omega
   omega
  ·have h5:=zyt x.1
   have h6:big x.1=ys.length:=by rw [h3];rfl
   omega
 ·obtain⟨i,hi,rfl⟩:=List.getElem_of_mem hy
  exact (hL i (by omega) hi).2
theorem z9p {Ks:List Int}:(Ks.flatMap fun n=>[Value.int .i64 n])=Ks.map fun n=>Value.int .i64 n:=by
 induction Ks with
 | nil=>rfl
 | cons a l ih=>rw [List.flatMap_cons,ih];rfl
theorem qib:shapeOf P zgs=some [(zbl,0),(jw,1),(zbl,2),(jq,3),(zam,4),(zvq,5),(jq,6)]:=by kernel_rfl
theorem qlh:P.cellsOf zgs=7:=by kernel_rfl
theorem qd8:shapeOf P zew=some [(zit,0),(zbl,1),(zbl,2)]:=by kernel_rfl
theorem qip:P.cellsOf zew=3:=by kernel_rfl
theorem qji:P.cellsOf zit=1:=by kernel_rfl
theorem qig:P.underlying zit=some (.slice zgs):=by kernel_rfl
theorem cSb:P.cellsOf zi=1:=by kernel_rfl
theorem qjx:P.cellsOf jq=1:=by kernel_rfl
theorem cSs:P.cellsOf zam=1:=by kernel_rfl
theorem cSi:P.cellsOf zvq=1:=by kernel_rfl
theorem cIn:P.cellsOf zbl=1:=by kernel_rfl
theorem cU8:P.cellsOf qw=1:=by kernel_rfl
theorem uIn:P.underlying zbl=some (.int .i64):=by kernel_rfl
theorem uU8:P.underlying qw=some (.int .u8):=by kernel_rfl
theorem uSb:P.underlying zi=some (.slice qw):=by kernel_rfl
theorem qj4:P.underlying jq=some (.slice zi):=by kernel_rfl
theorem uSs:P.underlying zam=some (.slice jw):=by kernel_rfl
theorem uSi:P.underlying zvq=some (.slice zbl):=by kernel_rfl
theorem qcr {c:Array Value}{o:Nat}{fuel:Nat}{x:DataW Hh×List MemPlace}(hsz:o+7<=c.size) (h:DataW.trod enc P W 0 (fun _=>true) true fuel zgs ((c.toList.drop o).take 7)=some x) (hb:Rows.uptoBulk x.1<=1048576):RawW W.heap (c.extract o (o+7)):=by
 obtain⟨zs,hy,_,hzl,hf⟩:=zty qib h
 obtain⟨xd,xps⟩:=x
 have hy:xd=.agg zs:=hy
 subst hy
 have field:∀ j ti,([(zbl,0),(jw,1),(zbl,2),(jq,3),(zam,4),(zvq,5),(jq,6)]:List (TypeId×Nat))[j]?=some (ti,j)->P.cellsOf ti=1->j < 7->∃ m ps z v,Rows.uptoBulk z<=1048576/\c[o+j]?=some v/\DataW.trod enc P W 0 (fun _=>true) true m ti [v]=some (z,ps):=by
  intro j ti hj hc1 hj5
  obtain⟨m',ps',z,hz,htr⟩:=hf j ti j hj
  rw [hc1,zze hj5 hsz] at htr
  exact⟨m',ps',z,_,Nat.le_trans (z4g (List.mem_of_getElem? hz)) hb,Array.getElem?_eq_getElem _,htr⟩
 obtain⟨m0,p0,z0,v0,hz0,hc0,ht0⟩:=field 0 zbl rfl cIn (by omega)
 obtain⟨m1,p1,z1,v1,hz1,hc1,ht1⟩:=field 1 jw rfl cStr (by omega)
 obtain⟨m2,p2,z2,v2,hz2,hc2,ht2⟩:=field 2 zbl rfl cIn (by omega)
 obtain⟨m3,p3,z3,v3,hz3,hc3,ht3⟩:=field 3 jq rfl qjx (by omega)
 obtain⟨m4,p4,z4,v4,hz4,hc4,ht4⟩:=field 4 zam rfl cSs (by omega)
 obtain⟨m5,p5,z5,v5,hz5,hc5,ht5⟩:=field 5 zvq rfl cSi (by omega)
 obtain⟨m6,p6,z6,v6,hz6,hc6,ht6⟩:=field 6 jq rfl qjx (by omega)
 obtain⟨k0,rfl,_⟩:=zvp uIn ht0
 obtain⟨D,rfl,hD⟩:=z4t z4r ht1
 obtain⟨k2,rfl,_⟩:=zvp uIn ht2
 obtain⟨a3,n3,nc3,Ps,es3,rfl,_,hR3,hn3,hx3,_⟩:=qhq qj4 uSb uU8 cU8 cSb ht3
 obtain⟨a4,n4,nc4,Ns,rfl,hC4,hn4,hl4,hq4⟩:=qas (f:=fun L:List UInt8=>Value.string (strOf L)) (Q:=fun L n=>L.length<=n) uSs cStr (fun _ _ _ h h'=>Nat.le_trans h h') (fun h=>z4t z4r h) ht4
 obtain⟨a5,n5,nc5,Ks,rfl,hC5,hn5,hl5,_⟩:=qas (f:=fun n:Int=>Value.int .i64 n) (Q:=fun _ _=>True) uSi cIn (fun _ _ _ _ _=>trivial) (fun h=>by obtain⟨n,hv,_⟩:=zvp uIn h;exact⟨n,hv,trivial⟩) ht5
 obtain⟨a6,n6,nc6,Ss,es6,rfl,_,hR6,hn6,hx6,_⟩:=qhq qj4 uSb uU8 cU8 cSb ht6
 have qh9:=zyt z3
 have big6:=zyt z6
 have l3:Ps.length<=1048576:=by
  have:=hR3.1
  rcases hx3 with⟨h1,_,_⟩ | ⟨rest,h3⟩
  ·omega
  ·have h3:z3=.slice es3 rest:=h3
   rw [h3] at qh9 hz3;simp only [big] at qh9;omega
 have l6:Ss.length<=1048576:=by
  have:=hR6.1
  rcases hx6 with⟨h1,_,_⟩ | ⟨rest,h3⟩
  ·omega
  ·have h3:z6=.slice es6 rest:=h3
   rw [h3] at big6 hz6;simp only [big] at big6;omega
 simp only at hD hl4 hl5 hq4
 refine⟨k0,k2,D,(a3,n3,nc3),(a4,n4,nc4),(a5,n5,nc5),(a6,n6,nc6),Ps,Ns,Ss,Ks,?_,hR3,hC4,hn4,?_,hn5,hR6,l3,by omega,by omega,l6,by omega,fun L hL=>by have:=hq4 L hL;omega⟩
 ·apply Array.ext_getElem?
  intro j
  rw [Array.getElem?_extract]
  by_cases hj:j < 7
  ·rw [if_pos (by omega)]
   match j,hj with
   | 0,_=>exact hc0
   | 1,_=>exact hc1
   | 2,_=>exact hc2
   | 3,_=>exact hc3
   | 4,_=>exact hc4
   | 5,_=>exact hc5
   | 6,_=>exact hc6
  ·rw [if_neg (by omega),Array.getElem?_eq_none (by simp;omega)]
 ·rw [z9p];exact hC5
theorem qaz {v:Value}{fuel:Nat}{x:DataW Hh×List MemPlace}(h:DataW.trod enc P W 0 (fun _=>true) true fuel zew v.cells.toList=some x) (hv:∃ cs:Array Value,v=.agg cs) (hb:Rows.uptoBulk x.1<=1048576) :
  ∃ a n nc dr sp,v=.agg #[.slice a n nc,.int .i64 dr,.int .i64 sp]/\z1t W.heap a n:=by
 obtain⟨cs,rfl⟩:=hv
 obtain⟨zs,hy,hcl,hzl,hf⟩:=zty qd8 h
 obtain⟨xd,xps⟩:=x
 have hy:xd=.agg zs:=hy
 subst hy
 have hsz:cs.size=3:=by rw [qip] at hcl;simpa [Value.cells] using hcl
 have field:∀ j ti,([(zit,0),(zbl,1),(zbl,2)]:List (TypeId×Nat))[j]?=some (ti,j)->P.cellsOf ti=1->j < 3->∃ m ps z v,Rows.uptoBulk z<=1048576/\cs[j]?=some v/\DataW.trod enc P W 0 (fun _=>true) true m ti [v]=some (z,ps):=by
  intro j ti hj hc1 hj5
  obtain⟨m',ps',z,hz,htr⟩:=hf j ti j hj
  rw [hc1,show (Value.agg cs).cells=cs from rfl,take_one (by omega)] at htr
  exact⟨m',ps',z,_,Nat.le_trans (z4g (List.mem_of_getElem? hz)) hb,Array.getElem?_eq_getElem _,htr⟩
 obtain⟨m0,p0,z0,v0,hz0,hc0,ht0⟩:=field 0 zit rfl qji (by omega)
 obtain⟨m1,p1,z1,v1,hz1,hc1,ht1⟩:=field 1 zbl rfl cIn (by omega)
 obtain⟨m2,p2,z2,v2,hz2,hc2,ht2⟩:=field 2 zbl rfl cIn (by omega)
 obtain⟨k1,rfl,_⟩:=zvp uIn ht1
 obtain⟨k2,rfl,_⟩:=zvp uIn ht2
 obtain⟨a,n,nc,ys,rfl,hle,hn,hx,hel⟩:=row_of qig qlh (by omega) ht0
 refine⟨a,n,nc,k1,k2,?_,fun i hi=>?_⟩
 ·congr 1
  apply Array.ext_getElem?
  intro j
  by_cases hj:j < 3
  ·match j,hj with
   | 0,_=>exact hc0
   | 1,_=>exact hc1
   | 2,_=>exact hc2
  ·rw [Array.getElem?_eq_none (by omega),Array.getElem?_eq_none (by simp;omega)]
 ·obtain⟨b,o,c,T,fr,m,ps,rfl,hbk,hsz2,ht3⟩:=hel i (by omega)
  refine⟨b,o,c,T,fr,rfl,hbk,hsz2,qcr hsz2 ht3 ?_⟩
  rcases hx with⟨h1,_,_⟩ | ⟨rest,h3⟩
  ·omega
  ·have h3:z0=.slice ys rest:=h3
   have:=zw9 (rest:=rest) (List.getElem_mem (l:=ys) (n:=i) (by omega))
   rw [<-h3] at this;simp only;omega
theorem qak {Q:Program}{t:TypeId}{L:List (TypeId×Nat)}(hs:shapeOf Q t=some L){W:World}{r:Reach}{base:Nat}{v:Value}(h:Value.okWide Q W r base t v):∃ cs:Array Value,v=.agg cs:=by
 unfold shapeOf at hs
 split at hs
 ·rename_i fs hu
  unfold Value.okWide at h
  rw [hu] at h
  obtain⟨cs,hc,_⟩:=h
  exact⟨cs,hc⟩
 ·cases hs
variable {Hh:Type}{enc:TypeId×Value->Hh}{W:World}
theorem z7k {t e:TypeId}(ht:P.underlying t=some (.slice e)) (hs:shapeOf P e=some [(zbl,0),(zbl,1)]) (hc:P.cellsOf e=2){v:Value}{fuel:Nat}{x:DataW Hh×List MemPlace}(h:DataW.trod enc P W 0 (fun _=>true) true fuel t [v]=some x):∃ (a:Option Addr) (n nc:Nat),v=.slice a n nc/\zzp W.heap a n:=by
 obtain⟨a,n,nc,ys,rfl,hle,hn,hx,hel⟩:=row_of ht hc (by omega) h
 refine⟨a,n,nc,rfl,fun i hi=>?_⟩
 obtain⟨b,o,c,T,fr,m,ps,rfl,hb,hsz,ht2⟩:=hel i (by omega)
 obtain⟨zs,_,_,_,hf⟩:=zty hs ht2
 obtain⟨a0,b0,e0,_,g0⟩:=hf 0 zbl 0 rfl
 obtain⟨a1,b1,e1,_,g1⟩:=hf 1 zbl 1 rfl
 rw [cIn,zze (by omega) hsz] at g0 g1
 obtain⟨k0,h0,_⟩:=zvp uIn g0
 obtain⟨k1,h1,_⟩:=zvp uIn g1
 have cell:∀ {j:Nat}{w:Value}(hj:j < 2),c[o+i * 2+j]'(by omega)=w->c[o+i * 2+j]?=some w:=fun hj h=>by rw [<-h];exact Array.getElem?_eq_getElem _
 exact⟨b,o,c,T,fr,k0,k1,rfl,hb,cell (j:=0) (by omega) h0,cell (j:=1) (by omega) h1⟩
end Go.Proofs.YtbmegmbnlajbbaaGreatDoor
