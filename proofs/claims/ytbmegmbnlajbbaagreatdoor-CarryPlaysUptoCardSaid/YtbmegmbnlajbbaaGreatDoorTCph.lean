/- Part 8 of the texts below the card, joined. -/
import Derived.Test.YtbmegmbnlajbbaaGreatDoorTCpg
import Derived.Test.YtbmegmbnlajbbaaGreatDoorTCpf
import Derived.Laws.Runes
namespace Go.Proofs.YtbmegmbnlajbbaaGreatDoor
open Go Go.Fw Go.Proofs Go.Sort
theorem z05 {v:Option (List UInt8)}{k L:List UInt8}{kind:Int}(hv:v=some L) (h:Bl.got v k=0):zr7 v k kind=if (zcg L).2≠0\/(zcg L).1.kind≠kind then (zd1,21) else ((zcg L).1,0):=by
 unfold zr7;rw [if_neg (by simpa using h),hv];rfl
theorem zqg {p:Pr}(h:p.1.length=32):(zcu p).toArray.extract 0 (0+32)=(byteCells p.1).toArray:=by
 apply Array.toList_inj.1
 have:(zcu p).take 32=byteCells p.1:=List.take_left' (by simp [h])
 simpa using this
theorem zpl {p:Pr}(h:p.1.length=32):(zcu p).toArray[32]?=some (.int .i64 p.2):=by simp [zcu,<-h]
theorem Run.cons_c {σ:Type}{stp:σ->Pr->σ×List Pr×Int}{n:Nat}{p:Pr}{todo:List Pr}{s t:σ}{c:Int}(h:Run stp n (p :: todo) s t c):(c≠0/\n=1/\t=(stp s p).1/\c=(stp s p).2.2)\/∃ n',n=n'+1/\(stp s p).2.2=0/\Run stp n' ((stp s p).2.1++todo) (stp s p).1 t c:=by
 cases h with
 | stop h=>exact .inl ⟨h,rfl,rfl,rfl⟩
 | step h0 h1=>exact .inr ⟨_,rfl,h0,h1⟩
theorem Run.nil_c {σ:Type}{stp:σ->Pr->σ×List Pr×Int}{n:Nat}{s t:σ}{c:Int}(h:Run stp n [] s t c):n=0/\t=s/\c=0:=by
 cases h;exact⟨rfl,rfl,rfl⟩
set_option maxHeartbeats 16000000 in
theorem look_ok {fp:List Nat}{pS:Nat}{q:Int}{r:Bl.SM}{k:Nat}(hlen:∀ k L,Bl.zaa r k=some L->L.length < 1099511627776):∀ n,qdy fp pS q r k n:=by
 intro n
 induction n using Nat.strongRecOn with
 | ind n ih=>
 intro w H cf c s t p hw hC hcf hS hfp hR h0 hp hrun hb
 rcases hrun.cons_c with⟨h,_⟩ | ⟨n,rfl,hc0,hrun⟩
 ·exact absurd rfl h
 rw [List.append_nil] at hrun
 refine zm2 ?_
 unfold zib
 rw [show (prV p).cells=(zcu p).toArray from rfl]
 refine jv hw fun w1 hw1=>?_
 have hx1:Ext [] H w1.heap:=by rw [hw1];exact .push _
 have hb1:w1.heap[H.size]?=some (.cells (zcu p).toArray zo (0,0)):=by rw [hw1];exact zn
 have s1:=lt_of_get hb1
 have l33:=zkg hp
 refine jl rfl fun w2 hw2=>?_
 have hx2:Ext [] H w2.heap:=by rw [hw2];exact hx1
 have hb2:w2.heap[H.size]?=some (.cells (zcu p).toArray zo (0,0)):=by rw [hw2];exact hb1
 have s2:H.size < w2.heap.size:=by rw [hw2];exact s1
 obtain⟨m,clk,l,x,g1,g2,g3,g4,g5,g6,g7,g8,g9⟩:=hC.ext hx2 (by simp)
 simp only [zy,jo,Nat.zero_add]
 refine je (s:=.map) (t:=some m) rfl g1 rfl ?_
 refine qx rfl hb2 (by simp [l33]) ?_
 refine qp (s:=.int .i64) (if p∈s.seen then 1 else 0) (by
  refine (zts KPr uMp qkx rfl g2 g3 hp).trans ?_
  rw [g4]
  split <;> rfl) ?_
 have hfin:∀ {u:LSt},Run (zc0 (Bl.zaa r)) n [] u t 0->t=u:=fun h=>h.nil_c.2.1
 by_cases hin:p∈s.seen
 ·rw [if_pos hin]
  refine zah (by decide) ?_
  have hst:zc0 (Bl.zaa r) s p=(s,[],0):=by unfold zc0;rw [if_pos hin]
  rw [hst] at hrun
  rw [hfin hrun]
  exact⟨rfl,cf,⟨m,clk,l,x,g1,g2,g3,g4,g5,g6,g7,g8,g9⟩,hx2.mono (by simp),fun b hb=>by have:=hcf b hb;omega,fun b hb=>.inl hb⟩
 rw [if_neg hin]
 refine jm (by decide) ?_
 refine jl rfl fun w3 hw3=>?_
 rw [<-hw3] at g1 g2 g5 hx2 hb2 s2
 refine je (s:=.map) (t:=some m) rfl g1 rfl ?_
 refine qx rfl hb2 (by simp [l33]) ?_
 refine zru _ (zm6 KPr uMp rfl g2 g3 hp 1 rfl) ?_
 generalize hw4:({ w3 with heap:=w3.heap.setIfInBounds m (.map (ents prV (vl iv (zje l p 1 clk))) (zn1 l p clk)) }:World)=w4
 have hh4:w4.heap=w3.heap.setIfInBounds m (.map (ents prV (vl iv (zje l p 1 clk))) (zn1 l p clk)):=by rw [<-hw4]
 have hx4:Ext [m] w3.heap w4.heap:=by rw [hh4];exact Ext.set _ (by simp)
 have hm4:w4.heap[m]?=some (.map (ents prV (vl iv (zje l p 1 clk))) (zn1 l p clk)):=by rw [hh4];exact qg g2
 have ne_m:∀ {b:Nat}{cs:Array Value}{T:TypeId}{fr:Nat×Nat},w3.heap[b]?=some (.cells cs T fr)->b≠m:=by
  rintro b cs T fr h rfl;rw [g2] at h;cases h
 have hc4:=hx4.get g1 (by simp;exact ne_m g1)
 have hb4:=hx4.get hb2 (by simp;exact ne_m hb2)
 have g54:Mine w4.heap 0 zo 33 x (s.want.flatMap zc2):=g5.ext hx4 (fun b hb h=>by
  simp at h;subst h
  obtain⟨cs,fr,hg⟩:=zeb g5 _ hb
  exact ne_m hg rfl)
 have g34:=MOk.upd g3 hp 1
 have g44:∀ p',zbx (zje l p 1 clk) p'=if p'∈s.seen++[p] then some 1 else none:=by
  intro p'
  rw [znl,g4]
  by_cases h:p'=p
  ·subst h;simp
  ·simp [h]
 have hmlt:=lt_of_get g2
 have hmcf:=hcf m g7
 have hx04:Ext cf H w4.heap:=(hx2.mono (by simp)).trans (hx4.mono (by simp;exact g7))
 have s4:=hx4.1
 have hS4:=hS.ext hx04 (fun b hb=>(hfp b hb).2)
 have hR4:=hR.ext hx04 h0
 refine jl rfl fun w5 hw5=>?_
 rw [<-hw5] at hm4 hc4 hb4 g54 hx04 hS4 hR4
 have s5:H.size < w5.heap.size:=by rw [hw5];omega
 refine je (s:=.ptr) (t:=some ⟨pS,0,none⟩) rfl hc4 rfl ?_
 refine zf9 rfl hb4 (by simp [l33]) ?_
 rw [zqg hp]
 refine zk (Bl.qdd (k:=p.1) rfl hS4 hp hR4 (hlen p.1)) ?_
 rintro e w6 ⟨y,rfl,hx6,hgot,_⟩
 refine⟨(y,Bl.got (Bl.zaa r p.1) p.1),rfl,?_⟩
 have hm6:=hx6.get hm4 (by simp)
 have hc6:=hx6.get hc4 (by simp)
 have hb6:=hx6.get hb4 (by simp)
 have g56:=g54.ext hx6 (by simp)
 have hx06:Ext cf H w6.heap:=hx04.trans (hx6.mono (by simp))
 have s6:=hx6.1
 have hcne:c≠m:=ne_m g1
 refine zay (fun hg=>?_) (fun hg=>?_)
 ·have hg:Bl.got (Bl.zaa r p.1) p.1≠0:=hg
  have hst:zc0 (Bl.zaa r) s p=(⟨s.seen++[p],s.want++[p],s.foul⟩,[],0):=by unfold zc0;rw [if_neg hin,if_pos hg]
  rw [hst] at hrun
  have ht:=hfin hrun
  subst ht
  refine jl rfl fun w7 hw7=>?_
  rw [<-hw7] at hm6 hc6 hb6 g56 hx06 s6
  refine je (s:=.slc) (t:=x) rfl hc6 rfl ?_
  refine qx rfl hb6 (by simp [l33]) ?_
  refine qcw (p:=p) hp rfl g56 (Nat.zero_le _) (by omega) (fun w8 hx8=>je (s:=.slc) (o:=2) (t:=x) (K:=fun z=>Value.slice z.1 z.2.1 z.2.2=Value.slice x.1 x.2.1 x.2.2) rfl (hx8.get hc6 (by simp)) rfl rfl) fun x9 w9 hm9 hx9 hs9=>?_
  have cno:c∉jf x:=fun h=>by
   obtain⟨cs,fr,hg⟩:=zeb g56 _ h
   rw [hc6] at hg;simp only [Option.some.injEq,Obj.cells.injEq] at hg;exact absurd hg.2.1 (by decide)
  have mno:m∉jf x:=fun h=>by
   obtain⟨cs,fr,hg⟩:=zeb g56 _ h
   rw [hm6] at hg;cases hg
  have hc9:=hx9.get hc6 cno
  have hm9':=hx9.get hm6 mno
  refine za9 rfl hc9 (by simp) fun w10 hw10=>?_
  have hx10:Ext [c] w9.heap w10.heap:=by rw [hw10];exact Ext.set _ (by simp)
  have s9:=hx9.1
  have s10:=hx10.1
  have x9no:c∉jf x9:=fun h=>by
   obtain⟨cs,fr,hg⟩:=zeb hm9 _ h
   rw [hc9] at hg;simp only [Option.some.injEq,Obj.cells.injEq] at hg;exact absurd hg.2.1 (by decide)
  have hxA:Ext cf H w10.heap:=(hx06.trans (hx9.mono fun b hb=>g8 b hb)).trans (hx10.mono (by simp;exact g6))
  refine⟨rfl,c :: m :: jf x9,⟨m,_,_,x9,by rw [hw10];exact qg hc9,hx10.get hm9' (by simp;exact fun h=>hcne h.symm),g34,g44,hm9.ext hx10 (fun b hb h=>by simp at h;subst h;exact x9no hb),by simp,by simp,fun b hb=>by simp [hb],fun p' hp'=>?_⟩,hxA,fun b hb=>?_,fun b hb=>?_⟩
  ·rcases List.mem_append.1 hp' with h | h
   ·exact g9 p' h
   ·simp at h;subst h;exact hp
  ·simp only [List.mem_cons] at hb
   rcases hb with rfl | rfl | hb
   ·have:=hcf _ g6;omega
   ·omega
   ·have:=(zbh hm9 b hb).1;omega
  ·simp only [List.mem_cons] at hb
   rcases hb with rfl | rfl | hb
   ·exact .inl g6
   ·exact .inl g7
   ·rcases hs9 b hb with h | h
    ·exact .inl (g8 b h)
    ·right;omega
 have hg:Bl.got (Bl.zaa r p.1) p.1=0:=hg
 obtain⟨L,hL,hmy⟩:=hgot hg
 have hyl:y.2.1=L.length:=by have:=hmy.len;simp at this;omega
 have hv:=z05 (kind:=p.2) hL hg
 refine zk (ztv (L:=L) rfl hmy.cells hyl (by have:=hlen _ L hL;omega)) ?_
 rintro e w7 ⟨xp,xi,rfl,hN7,hx7⟩
 refine⟨(.agg (zca (zcg L).1 xp xi).toArray,(zcg L).2),rfl,?_⟩
 have hit:=zrz (v:=Bl.zaa r p.1) (k:=p.1) (kind:=p.2)
 generalize hD:zcg L=D at *
 refine z8c D.1 xp xi rfl fun w9 hw9=>?_
 have hx9:Ext [] w7.heap w9.heap:=by rw [hw9];exact .push _
 have hn9:w9.heap[w7.heap.size]?=some (.cells (zca D.1 xp xi).toArray zh (0,0)):=by rw [hw9];exact zn
 have hx69:=hx7.trans hx9
 have hm9:=hx69.get hm6 (by simp)
 have hc9:=hx69.get hc6 (by simp)
 have hb9:=hx69.get hb6 (by simp)
 have g59:=g56.ext hx69 (by simp)
 have hx09:Ext cf H w9.heap:=hx06.trans (hx69.mono (by simp))
 have s9:=hx69.1
 have foul:∀ {w':World},(D.2≠0\/D.1.kind≠p.2)->w'.heap=w9.heap.setIfInBounds c (.cells (#[Value.pointer (some (⟨pS,0,none⟩:Addr)),.map (some m),zbv x,.bool s.foul].setIfInBounds 3 (.bool true)) zef (0,0))->zti H cf c pS t (.returned (.tuple #[])) w':=by
  intro w' hbad hw'
  have hst:zc0 (Bl.zaa r) s p=(⟨s.seen++[p],s.want,true⟩,[],0):=by
   unfold zc0
   rw [if_neg hin,if_neg (by simpa using hg),hv,if_pos hbad]
   rfl
  rw [hst] at hrun
  have ht:=hfin hrun
  subst ht
  have hx10:Ext [c] w9.heap w'.heap:=by rw [hw'];exact Ext.set _ (by simp)
  have cno:c∉jf x:=fun h=>by
   obtain⟨cs,fr,hg⟩:=zeb g59 _ h
   rw [hc9] at hg;simp only [Option.some.injEq,Obj.cells.injEq] at hg;exact absurd hg.2.1 (by decide)
  have s10:=hx10.1
  exact⟨rfl,cf,⟨m,_,_,x,by rw [hw'];exact qg hc9,hx10.get hm9 (by simp;exact fun h=>hcne h.symm),g34,g44,g59.ext hx10 (fun b hb h=>by simp at h;subst h;exact cno hb),g6,g7,g8,g9⟩,hx09.trans (hx10.mono (by simp;exact g6)),fun b hb=>by have:=hcf b hb;omega,fun b hb=>.inl hb⟩
 refine Go.Fw.joinP_of (fun _ W=>W=w9/\¬(D.2≠0\/D.1.kind≠p.2)) ?_ ?_
 ·refine zay (fun h1=>?_) (fun h1=>?_)
  ·exact za9 rfl hc9 (by simp) fun w10 hw10=>foul (.inl h1) hw10
  ·refine je (s:=.int .i64) (t:=D.1.kind) rfl hn9 rfl ?_
   refine je (s:=.int .i64) (t:=p.2) rfl hb9 (zpl hp) ?_
   refine zay (fun h2=>?_) (fun h2=>?_)
   ·exact za9 rfl hc9 (by simp) fun w10 hw10=>foul (.inr h2) hw10
   ·exact⟨rfl,fun h=>h.elim (fun h=>h h1) (fun h=>h h2)⟩
 rintro _ W ⟨hW,hok⟩
 subst hW
 rw [hv,if_neg hok] at hit
 have hst:zc0 (Bl.zaa r) s p=(⟨s.seen++[p],s.want,s.foul⟩,zhf D.1,0):=by
  unfold zc0
  rw [if_neg hin,if_neg (by simpa using hg),hv,if_neg hok]
  rfl
 rw [hst] at hrun
 refine qx rfl hn9 rfl ?_
 have hCW:zh7 W.heap cf c pS ⟨s.seen++[p],s.want,s.foul⟩:=⟨m,_,_,x,hc9,hm9,g34,g44,g59,g6,g7,g8,g9⟩
 have hN9:=(hN7.ext hx9 (by simp)).nodW
 refine zk (z97 (fun m' hm'=>ih m' (by omega)) rfl hCW (fun b hb=>by have:=hcf b hb;omega) (hS.ext hx09 (fun b hb=>(hfp b hb).2)) (fun b hb=>⟨by have:=(hfp b hb).1;omega,(hfp b hb).2⟩) (hR.ext hx09 h0) h0 hN9 hit.2.2.2.2 hit.1 hrun (by simp only;omega)) ?_
 rintro e w17 ⟨rfl,cf2,hC2,hx17,hcf2,hsub2⟩
 refine⟨(),rfl,rfl,cf2,hC2,hx09.trans hx17,hcf2,fun b hb=>?_⟩
 rcases hsub2 b hb with h | h
 ·exact .inl h
 ·right;omega
theorem qhx {fp:List Nat}{pS:Nat}{q:Int}{r:Bl.SM}{k N:Nat}(hlen:∀ k L,Bl.zaa r k=some L->L.length < 1099511627776){w:World}{H:Heap}{cf:List Nat}{c:Nat}{s t:LSt}{D:Nod}{xp xi:Option Addr×Nat×Nat}(hw:w.heap=H) (hC:zh7 H cf c pS s) (hcf:∀ b∈cf,b < H.size) (hS:Bl.Store H fp pS q r k) (hfp:∀ b∈fp,b < H.size/\b∉cf) (hR:Bl.Rounds H) (h0:0∉cf)
  (hN:NodW H D xp xi) (hpl:D.parts.length<=65536) (hil:D.items.length<=65) (hrun:Run (zc0 (Bl.zaa r)) N (zhf D) s t 0) (hb:s.want.length+N<=1000000000) :
  qc P zda #[.pointer (some ⟨c,0,none⟩),.agg (zca D xp xi).toArray] w (zti H cf c pS t):=
 z97 (fun m _=>look_ok hlen m) hw hC hcf hS hfp hR h0 hN hpl hil hrun hb
abbrev RSt:=List Pr×List (List UInt8)
def qkv (b8 b3 b9 b10 b11:Nat):Value:=.func (.func zve) #[] #[.pointer (some ⟨b8,0,none⟩),.pointer (some ⟨b3,0,none⟩),.pointer (some ⟨b9,0,none⟩),.pointer (some ⟨b10,0,none⟩),.pointer (some ⟨b11,0,none⟩)]
def qir (H:Heap) (cf:List Nat) (b8 b9 b10:Nat) (st:RSt):Prop:=
 ∃ (m clk:Nat) (l:ML Pr Int) (m2 clk2:Nat) (l2:ML (List UInt8) Int) (x:Option Addr×Nat×Nat),H[b8]?=some (.cells #[.map (some m)] zdu (0,0))/\H[m]?=some (.map (ents prV (vl iv l)) clk)/\MOk (fun p:Pr=>p.1.length=32) l clk/\(∀ p,zbx l p=if p∈st.1 then some 1 else none) /\
  H[b9]?=some (.cells #[.map (some m2)] zpb (0,0))/\H[m2]?=some (.map (ents arr (vl iv l2)) clk2)/\MOk (fun L:List UInt8=>L.length=32) l2 clk2/\(∀ d,zbx l2 d=if d∈st.2 then some 1 else none) /\
  H[b10]?=some (.cells #[zbv x] jc (0,0))/\Mine H 0 zf 32 x (st.2.flatMap Bl.zbp)/\m≠m2/\(b8∈cf/\b9∈cf/\b10∈cf/\m∈cf/\m2∈cf)/\(∀ b∈jf x,b∈cf)/\∀ d∈st.2,d.length=32
theorem qir.ext {H H':Heap}{cf M:List Nat}{b8 b9 b10:Nat}{st:RSt}(h:qir H cf b8 b9 b10 st) (hx:Ext M H H') (hM:∀ b∈cf,b∉M):qir H' cf b8 b9 b10 st:=by
 obtain⟨m,clk,l,m2,clk2,l2,x,h1,h2,h3,h4,h5,h6,h7,h8,h9,h10,h11,⟨i1,i2,i3,i4,i5⟩,h12,h13⟩:=h
 exact⟨m,clk,l,m2,clk2,l2,x,hx.get h1 (hM _ i1),hx.get h2 (hM _ i4),h3,h4,hx.get h5 (hM _ i2),hx.get h6 (hM _ i5),h7,h8,hx.get h9 (hM _ i3),h10.ext hx (fun b hb=>hM b (h12 b hb)),h11,⟨i1,i2,i3,i4,i5⟩,h12,h13⟩
def qio (H:Heap) (b8 b3 b9 b10 b11 pS:Nat):Prop:=H[b3]?=some (.cells #[.pointer (some ⟨pS,0,none⟩)] zwf (0,0))/\H[b11]?=some (.cells #[qkv b8 b3 b9 b10 b11] zyw (0,0))
theorem qio.ext {H H':Heap}{M:List Nat}{b8 b3 b9 b10 b11 pS:Nat}(h:qio H b8 b3 b9 b10 b11 pS) (hx:Ext M H H') (h3:b3∉M) (h11:b11∉M):qio H' b8 b3 b9 b10 b11 pS:=⟨hx.get h.1 h3,hx.get h.2 h11⟩
theorem Run.one {σ:Type}{stp:σ->Pr->σ×List Pr×Int}{n:Nat}{p:Pr}{s t:σ}{c:Int}(h:Run stp n [p] s t c) (h0:(stp s p).2.1=[]):t=(stp s p).1/\c=(stp s p).2.2:=by
 rcases h.cons_c with⟨_,_,h2,h3⟩ | ⟨n',_,h2,h3⟩
 ·exact⟨h2,h3⟩
 ·rw [h0] at h3
  obtain⟨_,h4,h5⟩:=h3.nil_c
  exact⟨h4,by rw [h5,h2]⟩
theorem qjk {w:World}{H:Heap}(hw:w.heap=H){K:(Option Addr×Nat×Nat)->World->Prop}(hK:∀ w',Ext [] H w'.heap->Mine w'.heap H.size qm 33 (some ⟨H.size,0,none⟩,0,0) (([]:List Pr).flatMap zc2)->K (some ⟨H.size,0,none⟩,0,0) w'):zas P (Instr.buildSlice qy 0 #[]) .slc w K:=by
 refine zam (s:=.slc) (some ⟨H.size,0,none⟩,0,0) { w with heap:=H.push (.cells #[] qm) } (by rw [<-hw];kernel_rfl) ?_
 exact hK _ (.push _) (.inr ⟨H.size,#[],rfl,Nat.le_refl _,zn,rfl,rfl,Nat.le_refl _,rfl⟩)
theorem qkh {S:List Pr}:zcs (S.flatMap zc2):=by
 intro v hv
 obtain⟨i,_,hi⟩:=List.mem_flatMap.1 hv
 exact zgx v hi
theorem qea {w:World}{H:Heap}{B:Nat}{x:Option Addr×Nat×Nat}{a:Option Addr}{l c:Nat}{xs ys:List Pr}(hw:w.heap=H) (hx:Mine H B qm 33 x (xs.flatMap zc2)) (hB:B<=H.size) (hL:Cells H a (ys.flatMap zc2)) (hl:l=ys.length) (hlen:xs.length+ys.length<=1099511627){K:(Option Addr×Nat×Nat)->World->Prop}
  (hK:∀ x' w',Mine w'.heap B qm 33 x' ((xs++ys).flatMap zc2)->Ext (jf x) H w'.heap->(∀ b∈jf x',b∈jf x\/H.size<=b)->K x' w'):zas P (Builtin.append_ #[qy,qy] qy #[.slice x.1 x.2.1 x.2.2,.slice a l c]) .slc w K:=by
 have hxl:x.2.1=xs.length:=by have:=hx.len;rw [ztg] at this;omega
 refine zch Eq8 (by omega) uSq (zbf uSq) hw hx hB (Src.slc hw hL (by rw [ztg,hl])) qkh (by omega) ?_
 intro x' w' hm hl' hx' hs
 refine hK x' w' ?_ hx' hs
 rw [List.flatMap_append];exact hm
theorem qjp {w:World}{H:Heap}{p:Pr}(hp:p.1.length=32) (hw:w.heap=H){K:Nat->World->Prop}(hK:∀ w',w'.heap=H.push (.cells (zcu p).toArray qm (0,0))->K H.size w') :
  zbk (zc P qm) qm w fun b w1=>zbz P (storeVar qm (⟨b,0,none⟩:Addr) (.agg (zcu p).toArray)) w1 fun w2=>K b w2:=
 zui (v:=.agg (zcu p).toArray) (by rw [show P.cellsOf qm=33 by kernel_rfl];simp [Value.cells,zcu,hp]) (by rw [show (zc P qm).size=33 by kernel_rfl];simp [Value.cells,zcu,hp]) (by simp [Value.cells,zcu]) (by
  rw [<-zka hp];simpa [Value.cells] using zgx) hw fun w' hw'=>hK w' hw'
structure RRI (r:Bl.SM) (N:Nat) (t:RSt) (c:Int) (H H':Heap) (n':Nat) (xs xt xd:Option Addr×Nat×Nat) (u:RSt) (todo:List Pr):Prop where
 run:Run (qhn (Bl.zaa r)) n' todo u t c
 l1:u.1.length+n'<=N
 l2:u.2.length+n'<=N
 l3:todo.length+70001 * unseen r u.1<=1+70001 * r.length
 p1:∀ p∈u.1,p.1.length=32
 p2:∀ d∈u.2,d.length=32
 p3:∀ p∈todo,p.1.length=32
 m1:Mine H' H.size qm 33 xs (u.1.flatMap zc2)
 m2:Mine H' H.size zf 32 xt (u.2.flatMap Bl.zbp)
 m3:Mine H' H.size qm 33 xd (todo.flatMap zc2)
 ap:∀ b∈jf xs,b∉jf xd
 ex:Ext [] H H'
theorem z94 {n:Nod}(h1:∀ p∈n.parts,p.length=32) (h2:∀ i∈n.items,i.sum.length=32):∀ p∈zhf n,p.1.length=32:=by
 intro p hp
 unfold zhf at hp
 rcases List.mem_append.1 hp with h | h
 ·obtain⟨q,hq,rfl⟩:=List.mem_map.1 h;exact h1 q hq
 ·obtain⟨q,hq,rfl⟩:=List.mem_map.1 h;exact h2 q hq
theorem qhq {H:Heap}{x:Option Addr×Nat×Nat}{B:Nat}{p:Pr}{ps:List Pr}(h:Mine H B qm 33 x ((p :: ps).flatMap zc2)):∃ a',(∀ w,(Instr.sliceAt qy (.slice x.1 x.2.1 x.2.2) (some (.int .i64 1)) none none).run P w=.ok (.slice a' (x.2.1-1) (x.2.2-1)) w)/\Cells H a' (ps.flatMap zc2):=by
 have hl:=h.len
 obtain⟨a',h1,h2⟩:=qct (i:=1) (n:=1) uSq szq h.cells hl (zfm h) (by rw [ztg] at hl;simp at hl;omega) rfl
 refine⟨a',h1,?_⟩
 rw [List.flatMap_cons,List.drop_left' (by rw [zae])] at h2
 exact h2
def zhd (H:Heap) (cf:List Nat) (c pS:Nat) (st:LSt):Prop:=
 ∃ xs xw:Option Addr×Nat×Nat,H[c]?=some (.cells #[.pointer (some ⟨pS,0,none⟩),zbv xs,zbv xw,.bool st.foul] zdj (0,0))/\Mine H 0 qm 33 xs (st.seen.flatMap zc2)/\Mine H 0 qm 33 xw (st.want.flatMap zc2)/\(∀ b∈jf xs,b∉jf xw)/\c∈cf/\(∀ b∈jf xs,b∈cf)/\(∀ b∈jf xw,b∈cf)/\(∀ p∈st.seen,p.1.length=32)/\∀ p∈st.want,p.1.length=32
theorem zhd.ext {H H':Heap}{cf M:List Nat}{c pS:Nat}{st:LSt}(h:zhd H cf c pS st) (hx:Ext M H H') (hM:∀ b∈cf,b∉M):zhd H' cf c pS st:=by
 obtain⟨xs,xw,h1,h2,h3,h4,h5,h6,h7,h8,h9⟩:=h
 exact⟨xs,xw,hx.get h1 (hM _ h5),h2.ext hx (fun b hb=>hM b (h6 b hb)),h3.ext hx (fun b hb=>hM b (h7 b hb)),h4,h5,h6,h7,h8,h9⟩
def z9t (H:Heap) (cf:List Nat) (c pS:Nat) (t:LSt) (e:Ending) (w':World):Prop:=
 e=.returned (.tuple #[])/\∃ cf',zhd w'.heap cf' c pS t/\Ext cf H w'.heap/\(∀ b∈cf',b < w'.heap.size)/\∀ b∈cf',b∈cf\/H.size<=b
theorem z4k {w:World}{H:Heap}{B:Nat}{x:Option Addr×Nat×Nat}{L:List Pr}{p:Pr}{Q:World->Prop}(hp:p.1.length=32) (hw:w.heap=H) (hm:Mine H B qm 33 x (L.flatMap zc2)) (hBs:B<=H.size) (hlen:L.length<=1073741824) (hQ:∀ w',Ext [] H w'.heap->Q w'){K:(Option Addr×Nat×Nat)->World->Prop}
  (hK:∀ x' w',Mine w'.heap B qm 33 x' ((L++[p]).flatMap zc2)->Ext (jf x) H w'.heap->(∀ c∈jf x',c∈jf x\/H.size<=c)->K x' w') :
  zas P (Instr.buildSlice qy 1 #[(0,.agg (zcu p).toArray)]) .slc w fun (t27:(Option Addr×Nat×Nat)) w_13=>Q w_13 /\
  zas P (Builtin.append_ #[qy,qy] qy #[(Value.slice x.1 x.2.1 x.2.2),(Value.slice t27.1 t27.2.1 t27.2.2)]) .slc w_13 K:=qdi hp hw hm hBs hlen hQ hK
theorem z0l {v:List UInt8->Option (List UInt8)}:∀ {n:Nat}{todo:List Pr}{s t:LSt}{c:Int},Run (zc0 v) n todo s t c->t.seen.length<=s.seen.length+n:=by
 have h1:∀ (s:LSt) (p:Pr),(zc0 v s p).1.seen.length<=s.seen.length+1:=by
  intro s p
  unfold zc0;repeat' split
  all_goals simp
 intro n todo s t c h
 induction h with
 | nil=>omega
 | stop h0=>exact h1 _ _
 | step h0 _ ih=>
  rename_i n p todo s t c _
  have:=h1 s p
  omega
structure RLI (r:Bl.SM) (N M:Nat) (t:LSt) (H H':Heap) (cf:List Nat) (c pS n':Nat) (xd:Option Addr×Nat×Nat) (u:LSt) (todo:List Pr) (cf':List Nat):Prop where
 run:Run (zc0 (Bl.zaa r)) n' todo u t 0
 l1:u.seen.length+n'<=N
 l2:u.want.length+n'<=N
 l3:todo.length+70001 * unseen r u.seen<=M
 p3:∀ p∈todo,p.1.length=32
 m3:Mine H' 0 qm 33 xd (todo.flatMap zc2)
 cw:zhd H' cf' c pS u
 ap:∀ b∈jf xd,b∉cf'
 lt:∀ b∈cf',b < H'.size
 sub:∀ b∈cf',b∈cf\/H.size<=b
 ex:Ext cf H H'
set_option maxHeartbeats 64000000 in
theorem z9d {fp:List Nat}{pS:Nat}{q:Int}{r:Bl.SM}{N:Nat}(hlen:∀ k L,Bl.zaa r k=some L->L.length < 1099511627776){w:World}{H:Heap}{cf:List Nat}{c:Nat}{s t:LSt}{todo:List Pr}{x:Option Addr×Nat×Nat}(hw:w.heap=H) (hC:zhd H cf c pS s) (hcf:∀ b∈cf,b < H.size) (hS:Bl.zc4 H fp pS q r) (hfp:∀ b∈fp,b < H.size/\b∉cf) (hrl:r.length<=1000)
  (hx:Mine H 0 qm 33 x (todo.flatMap zc2)) (hxo:∀ b∈jf x,b∉cf) (h32:∀ p∈todo,p.1.length=32) (htl:todo.length<=70000) (hrun:Run (zc0 (Bl.zaa r)) N todo s t 0) (hb1:s.seen.length+N<=1000000000) (hb2:s.want.length+N<=1000000000) :
  qc P ze7 #[.pointer (some ⟨c,0,none⟩),.slice x.1 x.2.1 x.2.2] w (z9t H cf c pS t):=by
 subst hw
 refine zoo ?_
 unfold zjg
 simp only [zy,jo,Nat.zero_add]
 have hun0:unseen r s.seen<=r.length:=List.length_filter_le _ _
 refine zni (fun (n':Nat) (xd:Option Addr×Nat×Nat) W=>∃ u td cf',RLI r 1000000000 71000000 t w.heap W.heap cf c pS n' xd u td cf') N ⟨s,todo,cf,⟨hrun,hb1,hb2,by omega,h32,hx,hC,hxo,hcf,fun b hb=>.inl hb,.refl _ _⟩⟩ ?_
 clear hx hxo h32 htl hun0
 rintro n' xd W ⟨u,td,cf',hI⟩ K hK
 have hdl:xd.2.1=td.length:=by have:=hI.m3.len;rw [ztg] at this;omega
 refine zq (fun hpos=>?_) (fun hz=>?_)
 rotate_left
 ·have hz:¬(xd.2.1:Int) > 0:=hz
  have htd:td=[]:=List.eq_nil_of_length_eq_zero (by omega)
  have hr:=hI.run
  rw [htd] at hr
  obtain⟨_,rfl,_⟩:=hr.nil_c
  exact⟨rfl,cf',hI.cw,hI.ex,hI.lt,hI.sub⟩
 have hpos:(xd.2.1:Int) > 0:=hpos
 cases td with
 | nil=>exfalso;simp at hdl;omega
 | cons p todo=>
 obtain⟨xs,xw,g1,g2,g3,g4,g5,g6,g7,g8,g9⟩:=hI.cw
 have hp:p.1.length=32:=hI.p3 p (by simp)
 have l33:=zkg hp
 have hl1:=hI.l1
 have hl2:=hI.l2
 have hl3:=hI.l3
 simp only [List.length_cons] at hl3
 have hsl:xs.2.1=u.seen.length:=by have:=g2.len;rw [ztg] at this;omega
 have hH:=hI.ex.1
 have clt:=hI.lt c g5
 refine zal ?_
 refine zce (i:=0) zae (by omega) rfl hI.m3.cells hdl rfl rfl ?_
 rw [zka hp]
 refine qjp hp rfl fun w6 hw6=>?_
 have hx6:Ext [] W.heap w6.heap:=by rw [hw6];exact .push _
 have hb6:w6.heap[W.heap.size]?=some (.cells (zcu p).toArray qm (0,0)):=by rw [hw6];exact zn
 have s6:=lt_of_get hb6
 refine qjk rfl fun w7 hx7 hm7=>?_
 have hx67:=hx6.trans hx7
 have s7:=hx7.1
 obtain⟨a',hcut,hca⟩:=qhq (hI.m3.ext hx67 (by simp))
 refine qp (s:=.slc) (a',xd.2.1-1,xd.2.2-1) (hcut _) ?_
 have hdl':xd.2.1-1=todo.length:=by rw [hdl];simp
 refine qea (xs:=[]) (c:=xd.2.2-1) rfl hm7 s7 hca hdl' (by simp;omega) fun x35 w8 hm8 hx8 hs8=>?_
 rw [List.nil_append] at hm8
 have s8:=hx8.1
 have hx68:Ext [] w6.heap w8.heap:=hx7.own hx8 (fun b hb hlt=>by simp [jf] at hb;omega)
 have hx08:Ext [] W.heap w8.heap:=hx6.trans hx68
 have hb8:=hx68.get hb6 (by simp)
 have p3':∀ p'∈todo,p'.1.length=32:=fun p' h=>hI.p3 p' (by simp [h])
 have h35:∀ b∈jf x35,W.heap.size < b:=fun b hb=>by have:=xu hm8 b hb;omega
 refine jl rfl fun w9 hw9=>?_
 have hx89:Ext [] w8.heap w9.heap:=by rw [hw9];exact .refl _ _
 have hx09:=hx08.trans hx89
 have hb9:=hx89.get hb8 (by simp)
 have hm9:=hm8.ext hx89 (by simp)
 refine je (s:=.slc) (t:=xs) rfl (hx09.get g1 (by simp)) rfl ?_
 refine qx rfl hb9 (by simp [l33]) ?_
 refine zk (qg1 (c:=xs.2.2) (L:=u.seen) (p:=p) rfl (g2.ext hx09 (by simp)).cells hsl g8 hp (by omega)) ?_
 rintro e w10 ⟨rfl,hx10⟩
 refine⟨_,rfl,?_⟩
 have hx010:=hx09.trans hx10
 have s10:=hx10.1
 have s09:=hx09.1
 have hm10:=(hm9.ext hx10 (by simp)).mono (Nat.zero_le _)
 obtain⟨h,_⟩ | ⟨n2,rfl,hc0,hr2⟩:=hI.run.cons_c
 ·exact absurd rfl h
 by_cases hin:p∈u.seen
 ·refine zah (by simp [hin]) ?_
  have hst:zc0 (Bl.zaa r) u p=(u,[],0):=by unfold zc0;rw [if_pos hin]
  rw [hst,List.nil_append] at hr2
  refine hK n2 _ _ (by omega) ⟨u,todo,cf',hr2,by omega,by omega,by omega,p3',hm10,hI.cw.ext hx010 (by simp),fun b hb h=>by have:=hI.lt b h;have:=h35 b hb;omega,fun b hb=>by have:=hI.lt b hb;have:=hx010.1;omega,hI.sub,hI.ex.trans (hx010.mono (by simp))⟩
 refine jm (by simp [hin]) ?_
 refine jl rfl fun w11 hw11=>?_
 have hx1011:Ext [] w10.heap w11.heap:=by rw [hw11];exact .refl _ _
 have hx011:=hx010.trans hx1011
 have hb11:=(hx10.trans hx1011).get hb9 (by simp)
 have g1':=hx011.get g1 (by simp)
 refine je (s:=.slc) (t:=xs) rfl g1' rfl ?_
 refine qx rfl hb11 (by simp [l33]) ?_
 have cT:∀ {B':Nat}{y:Option Addr×Nat×Nat}{vs:List Value}{G:Heap},G[c]?=some (.cells #[.pointer (some (⟨pS,0,none⟩:Addr)),zbv xs,zbv xw,.bool u.foul] zdj (0,0))->Mine G B' qm 33 y vs->c∉jf y:=fun hg hm h=>by
  obtain⟨cs,fr,hg2⟩:=zeb hm _ h
  rw [hg] at hg2;simp only [Option.some.injEq,Obj.cells.injEq] at hg2;exact absurd hg2.2.1 (by decide)
 have g2':=g2.ext hx011 (by simp)
 have g3':=g3.ext hx011 (by simp)
 have cxs:=cT g1' g2'
 have cxw:=cT g1' g3'
 refine z4k (p:=p) hp rfl g2' (Nat.zero_le _) (by omega) (fun w' hx'=>je (s:=.slc) (o:=1) (t:=xs) (K:=fun z=>Value.slice z.1 z.2.1 z.2.2=Value.slice xs.1 xs.2.1 xs.2.2) rfl (hx'.get g1' (by simp)) rfl rfl) fun xs2 w12 hm12 hx12 hs12=>?_
 have k12:=hx12.get g1' cxs
 refine za9 rfl k12 (by simp) fun w13 hw13=>?_
 have hx13:Ext [c] w12.heap w13.heap:=by rw [hw13];exact Ext.set _ (by simp)
 have k13:w13.heap[c]?=some (.cells #[.pointer (some ⟨pS,0,none⟩),zbv xs2,zbv xw,.bool u.foul] zdj (0,0)):=by rw [hw13];exact qg k12
 have c2no:c∉jf xs2:=fun h=>by
  rcases hs12 c h with h | h
  ·exact cxs h
  ·have:=hx011.1;omega
 have s11:=hx011.1
 have s12:=hx12.1
 have s13:=hx13.1
 have m13:Mine w13.heap 0 qm 33 xs2 ((u.seen++[p]).flatMap zc2):=hm12.ext hx13 (fun b hb h=>by
  have h:=List.mem_singleton.1 h
  subst h;exact c2no hb)
 have hxwb:∀ b∈jf xw,b < W.heap.size:=fun b hb=>hI.lt b (g7 b hb)
 have mw13:Mine w13.heap 0 qm 33 xw (u.want.flatMap zc2):=(g3'.ext hx12 (fun b hb h=>g4 b h hb)).ext hx13 (fun b hb h=>by
  have h:=List.mem_singleton.1 h
  subst h;exact cxw hb)
 have ap13:∀ b∈jf xs2,b∉jf xw:=fun b hb h=>by
  rcases hs12 b hb with h' | h'
  ·exact g4 b h' h
  ·have:=hxwb b h;omega
 have hx1113:Ext cf' w11.heap w13.heap:=(hx12.mono g6).trans (hx13.mono (by simp;exact g5))
 have hxW13:Ext cf' W.heap w13.heap:=(hx011.mono (by simp)).trans hx1113
 have fresh:∀ b,W.heap.size<=b->b∉cf':=fun b hb h=>by have:=hI.lt b h;omega
 have hb13:=hx1113.get hb11 (fresh _ (Nat.le_refl _))
 have hx1011':=hx10.trans hx1011
 have hm13:Mine w13.heap 0 qm 33 x35 (todo.flatMap zc2):=((hm10.ext hx1011 (by simp)).ext hx1113 (fun b hb=>fresh b (by have:=h35 b hb;omega)))
 generalize hcf2:jf xs2++cf'=cf2
 have hsub2:∀ b∈cf2,b∈cf\/w.heap.size<=b:=by
  subst hcf2
  intro b hb
  rcases List.mem_append.1 hb with h | h
  ·rcases hs12 b h with h | h
   ·exact hI.sub b (g6 b h)
   ·right;omega
  ·exact hI.sub b h
 have hlt2:∀ b∈cf2,b < w13.heap.size:=by
  subst hcf2
  intro b hb
  rcases List.mem_append.1 hb with h | h
  ·exact (zbh m13 b h).1
  ·have:=hI.lt b h;omega
 have h35c:∀ b∈jf x35,b∉cf2:=by
  subst hcf2
  intro b hb h
  rcases List.mem_append.1 h with h | h
  ·rcases hs12 b h with h | h
   ·exact fresh b (by have:=h35 b hb;omega) (g6 b h)
   ·have:=(zbh hm10 b hb).1;have:=hx1011.1;omega
  ·exact fresh b (by have:=h35 b hb;omega) h
 have hcs2:∀ b∈jf xs2,b∈cf2:=by subst hcf2;intro b hb;simp [hb]
 have hin2:∀ b∈cf',b∈cf2:=by subst hcf2;intro b hb;simp [hb]
 have hxH13:Ext cf w.heap w13.heap:=hI.ex.own hxW13 (fun b hb hlt=>by
  rcases hI.sub b hb with h | h
  ·exact h
  ·omega)
 have own2:∀ b∈cf2,b < w.heap.size->b∈cf:=fun b hb hlt=>by
  rcases hsub2 b hb with h | h
  ·exact h
  ·omega
 have hseen2:∀ p'∈u.seen++[p],p'.1.length=32:=fun p' h=>by
  rcases List.mem_append.1 h with h | h
  ·exact g8 p' h
  ·rw [List.mem_singleton.1 h];exact hp
 have b4W:w13.heap[W.heap.size]?=some (.cells (zcu p).toArray qm (0,0)):=hb13
 clear hb13 hb11 hb9 hb8 hb6 k12 g1' g2' g3' g2 g3 g1 hm12 hm9 hm8 hm7 cxs cT hs12 hs8 hx12 hx13 hx1113 hxW13 hm10
 refine jl rfl fun w14 hw14=>?_
 have hx1314:Ext [] w13.heap w14.heap:=by rw [hw14];exact .refl _ _
 have k14:=hx1314.get k13 (by simp)
 have b14:=hx1314.get b4W (by simp)
 refine je (s:=.ptr) (t:=some ⟨pS,0,none⟩) rfl k14 rfl ?_
 refine zf9 rfl b14 (by simp [l33]) ?_
 rw [zqg hp]
 have hxH14:=hxH13.trans (hx1314.mono (by simp))
 refine zk (Bl.qeb (k:=p.1) rfl (hS.ext hxH14 (fun b hb h=>(hfp b hb).2 h)) hp (by omega) (hlen p.1)) ?_
 rintro e w15 ⟨y,rfl,hx15,hgot,_⟩
 refine⟨(y,Bl.got (Bl.zaa r p.1) p.1),rfl,?_⟩
 have hx1315:=hx1314.trans hx15
 have hunl:unseen r (u.seen++[p])<=unseen r u.seen:=zq0
 refine zay (fun hg=>?_) (fun hg=>?_)
 ·have hg:Bl.got (Bl.zaa r p.1) p.1≠0:=hg
  have hst:zc0 (Bl.zaa r) u p=(⟨u.seen++[p],u.want++[p],u.foul⟩,[],0):=by unfold zc0;rw [if_neg hin,if_pos hg]
  rw [hst,List.nil_append] at hr2
  refine jl rfl fun w16 hw16=>?_
  have hx1316:Ext [] w13.heap w16.heap:=by rw [hw16];exact hx1315
  have k16:=hx1316.get k13 (by simp)
  have mw16:=mw13.ext hx1316 (by simp)
  refine je (s:=.slc) (t:=xw) rfl k16 rfl ?_
  refine qx rfl (hx1316.get b4W (by simp)) (by simp [l33]) ?_
  refine z4k (p:=p) hp rfl mw16 (Nat.zero_le _) (by omega) (fun w' hx'=>je (s:=.slc) (o:=2) (t:=xw) (K:=fun z=>Value.slice z.1 z.2.1 z.2.2=Value.slice xw.1 xw.2.1 xw.2.2) rfl (hx'.get k16 (by simp)) rfl rfl) fun xw2 w17 hm17 hx17 hs17=>?_
  have k17:=hx17.get k16 cxw
  refine za9 rfl k17 (by simp) fun w18 hw18=>?_
  have hx18:Ext [c] w17.heap w18.heap:=by rw [hw18];exact Ext.set _ (by simp)
  have s16:=hx1316.1
  have s17:=hx17.1
  have s18:=hx18.1
  have cw2no:c∉jf xw2:=fun h=>by
   rcases hs17 c h with h | h
   ·exact cxw h
   ·omega
  have hxs2lt:∀ b∈jf xs2,b < w13.heap.size:=fun b hb=>hlt2 b (hcs2 b hb)
  have hx1618:Ext cf2 w16.heap w18.heap:=(hx17.mono (fun b hb=>hin2 b (g7 b hb))).trans (hx18.mono (by simp;exact hin2 c g5))
  refine hK n2 _ _ (by omega) ⟨⟨u.seen++[p],u.want++[p],u.foul⟩,todo,jf xw2++cf2,hr2,by simp;omega,by simp;omega,by simp only;omega,p3',(hm13.ext hx1316 (by simp)).ext hx1618 h35c,⟨xs2,xw2,by rw [hw18];exact qg k17,((m13.ext hx1316 (by simp)).ext hx17 ap13).ext hx18 (fun b hb h=>by
   have h:=List.mem_singleton.1 h
   subst h;exact c2no hb),hm17.ext hx18 (fun b hb h=>by
   have h:=List.mem_singleton.1 h
   subst h;exact cw2no hb),fun b hb h=>by
   rcases hs17 b h with h | h
   ·exact ap13 b hb h
   ·have:=hxs2lt b hb;omega,by simp [hin2 c g5],fun b hb=>by simp [hcs2 b hb],fun b hb=>by simp [hb],hseen2,fun p' h=>by
   rcases List.mem_append.1 h with h | h
   ·exact g9 p' h
   ·rw [List.mem_singleton.1 h];exact hp⟩,fun b hb h=>by
   rcases List.mem_append.1 h with h | h
   ·rcases hs17 b h with h | h
    ·exact h35c b hb (hin2 b (g7 b h))
    ·have:=(zbh hm13 b hb).1;omega
   ·exact h35c b hb h,fun b hb=>by
   rcases List.mem_append.1 hb with h | h
   ·have:=(zbh hm17 b h).1;omega
   ·have:=hlt2 b h;omega,fun b hb=>by
   rcases List.mem_append.1 hb with h | h
   ·rcases hs17 b h with h | h
    ·exact hsub2 b (hin2 b (g7 b h))
    ·right;have:=hxH13.1;omega
   ·exact hsub2 b h,(hxH13.trans (hx1316.mono (by simp))).own hx1618 own2⟩
 have hg:Bl.got (Bl.zaa r p.1) p.1=0:=hg
 obtain⟨L,hL,hmy⟩:=hgot hg
 have hyl:y.2.1=L.length:=by have:=hmy.len;simp at this;omega
 have hv:=z05 (kind:=p.2) hL hg
 refine zk (z1v (L:=L) rfl hmy.cells hyl (zfm hmy) (by have:=hlen _ L hL;omega)) ?_
 rintro e w18 ⟨xp,xi,rfl,hN18,hx18⟩
 refine⟨(.agg (zca (zcg L).1 xp xi).toArray,decide ((zcg L).2=0)),rfl,?_⟩
 have hit:=zrz (v:=Bl.zaa r p.1) (k:=p.1) (kind:=p.2)
 generalize hD:zcg L=D at *
 refine z8c D.1 xp xi rfl fun w20 hw20=>?_
 have hx20:Ext [] w18.heap w20.heap:=by rw [hw20];exact .push _
 have hn20:w20.heap[w18.heap.size]?=some (.cells (zca D.1 xp xi).toArray zh (0,0)):=by rw [hw20];exact zn
 have hx1320:=(hx1315.trans hx18).trans hx20
 have k20:=hx1320.get k13 (by simp)
 have s20:=hx1320.1
 have bad:∀ {w':World},(D.2≠0\/D.1.kind≠p.2)->w'.heap=w20.heap.setIfInBounds c (.cells (#[Value.pointer (some (⟨pS,0,none⟩:Addr)),zbv xs2,zbv xw,.bool u.foul].setIfInBounds 3 (.bool true)) zdj (0,0))->K x35 w':=by
  intro w' hbad hw'
  have hst:zc0 (Bl.zaa r) u p=(⟨u.seen++[p],u.want,true⟩,[],0):=by
   unfold zc0
   rw [if_neg hin,if_neg (by simpa using hg),hv,if_pos hbad]
   rfl
  rw [hst,List.nil_append] at hr2
  have hx21:Ext [c] w20.heap w'.heap:=by rw [hw'];exact Ext.set _ (by simp)
  have s21:=hx21.1
  have hx21':Ext cf2 w20.heap w'.heap:=hx21.mono (by simp;exact hin2 c g5)
  refine hK n2 _ _ (by omega) ⟨⟨u.seen++[p],u.want,true⟩,todo,cf2,hr2,by simp;omega,by simp only;omega,by simp only;omega,p3',(hm13.ext hx1320 (by simp)).ext hx21' h35c,⟨xs2,xw,by rw [hw'];exact qg k20,(m13.ext hx1320 (by simp)).ext hx21 (fun b hb h=>by
   have h:=List.mem_singleton.1 h
   subst h;exact c2no hb),(mw13.ext hx1320 (by simp)).ext hx21 (fun b hb h=>by
   have h:=List.mem_singleton.1 h
   subst h;exact cxw hb),ap13,hin2 c g5,hcs2,fun b hb=>hin2 b (g7 b hb),hseen2,g9⟩,h35c,fun b hb=>by have:=hlt2 b hb;omega,hsub2,(hxH13.trans (hx1320.mono (by simp))).own hx21' own2⟩
 refine Go.Fw.joinP_of (fun _ V=>V=w20/\¬(D.2≠0\/D.1.kind≠p.2)) ?_ ?_
 ·by_cases hd:D.2=0
  ·refine jm (by simp [hd]) ?_
   refine je (s:=.int .i64) (t:=D.1.kind) rfl hn20 rfl ?_
   refine je (s:=.int .i64) (t:=p.2) rfl (hx1320.get b4W (by simp)) (zpl hp) ?_
   refine zay (fun h2=>?_) (fun h2=>⟨rfl,fun h=>h.elim (fun h=>h hd) (fun h=>h h2)⟩)
   exact za9 rfl k20 (by simp) fun w' hw'=>bad (.inr h2) hw'
  ·refine zah (by simp [hd]) ?_
   exact za9 rfl k20 (by simp) fun w' hw'=>bad (.inl hd) hw'
 rintro _ V ⟨hV,hok⟩
 have hV:=hV.symm
 subst hV
 rw [hv,if_neg hok] at hit
 have hst:zc0 (Bl.zaa r) u p=(⟨u.seen++[p],u.want,u.foul⟩,zhf D.1,0):=by
  unfold zc0
  rw [if_neg hin,if_neg (by simpa using hg),hv,if_neg hok]
  rfl
 have hstep:=z02 (r:=r) u p
 rw [hst] at hr2 hstep
 simp only at hr2 hstep
 clear bad hst
 have hiti:D.1.items.length<=65:=hit.1
 have hitp:D.1.parts.length<=65536:=hit.2.2.2.2
 have hNV:=hN18.ext hx20 (by simp)
 refine qx rfl hn20 rfl ?_
 refine zk (qae rfl hNV.nodW hitp hiti) ?_
 rintro e w24 ⟨x75,rfl,hm24,hx24⟩
 refine⟨x75,rfl,?_⟩
 have hk32:=z94 hNV.p32 hNV.i32
 have hkl:(zhf D.1).length<=70000:=hstep.1
 have hx1324:=hx1320.trans hx24
 have hxl35:x35.2.1=todo.length:=by have:=hm13.len;rw [ztg] at this;omega
 have s24:=hx24.1
 refine qea (c:=x35.2.2) rfl hm24 s24 (hm13.ext hx1324 (by simp)).cells hxl35 (by omega) fun x77 w25 hm25 hx25 hs25=>?_
 have h75:∀ b∈jf x75,w20.heap.size<=b:=xu hm24
 have h77:∀ b∈jf x77,w20.heap.size<=b:=xu hm25
 have s25:=hx25.1
 have hx1325:Ext (jf x75) w13.heap w25.heap:=(hx1324.mono (by simp)).trans hx25
 have old:∀ b∈cf2,b∉jf x75:=fun b hb h=>by have:=hlt2 b hb;have:=h75 b h;omega
 refine hK n2 _ _ (by omega) ⟨⟨u.seen++[p],u.want,u.foul⟩,zhf D.1++todo,cf2,hr2,by simp;omega,by simp only;omega,?_,fun p' h=>by
  rcases List.mem_append.1 h with h | h
  ·exact hk32 p' h
  ·exact p3' p' h,hm25.mono (Nat.zero_le _),⟨xs2,xw,hx1325.get k13 (old c (hin2 c g5)),m13.ext hx1325 (fun b hb=>old b (hcs2 b hb)),mw13.ext hx1325 (fun b hb=>old b (hin2 b (g7 b hb))),ap13,hin2 c g5,hcs2,fun b hb=>hin2 b (g7 b hb),hseen2,g9⟩,fun b hb h=>by have:=hlt2 b h;have:=h77 b hb;omega,fun b hb=>by have:=hlt2 b hb;omega,hsub2,hxH13.own hx1325 (fun b hb hlt=>by have:=h75 b hb;have:=hxH13.1;omega)⟩
 simp only [List.length_append]
 by_cases hk0:zhf D.1=[]
 ·rw [hk0];have:=hstep.2.1;simp only [List.length_nil];omega
 ·have:=hstep.2.2 hk0;omega
theorem z2s {α:Type}{enc:α->List Value}{sz:Nat}{T:TypeId}(hk:∀ x,(enc x).length=sz) (h0:0 < sz){H H':Heap}{B b i o:Nat}{x:Option Addr×Nat×Nat}{L:List α}{v:α}{c:Array Value}{T':TypeId}(hm:Mine H B T sz x (L.flatMap enc)) (hi:i < L.length) (hx:x.1.map (·.block)=some b) (hb:H[b]?=some (.cells c T' (0,0))) (ho:o=i * sz) (hw:H'=H.setIfInBounds b (.cells (setCells c o (enc v)) T' (0,0))) :
  Mine H' B T sz x ((L.set i v).flatMap enc):=by
 rcases hm with⟨rfl,h⟩ | ⟨b1,c1,e1,e2,e3,e4,e5,e6,e7⟩
 ·simp at hx
 rw [e1] at hx
 simp only [Option.map_some,Option.some.injEq] at hx
 subst hx
 rw [hb] at e3
 simp only [Option.some.injEq,Obj.cells.injEq] at e3
 obtain⟨rfl,rfl,_⟩:=e3
 rw [zu enc hk] at e5 e7
 have hll:x.2.1=L.length:=Nat.eq_of_mul_eq_mul_right h0 e5.symm
 have hlc:L.length * sz<=c.size:=by rw [e4];exact Nat.mul_le_mul_right _ (by omega)
 have hoi:i * sz+sz<=L.length * sz:=by rw [<-Nat.succ_mul];exact Nat.mul_le_mul_right _ hi
 subst ho
 refine .inr ⟨b1,_,e1,e2,by rw [hw];exact qg hb,by rw [<-e4,Go.Fw.size_setCells],by rw [zu enc hk];simpa using e5,e6,?_⟩
 rw [zu enc hk,List.length_set]
 have hsz:(setCells c (i * sz) (enc v)).size=c.size:=Go.Fw.size_setCells
 apply List.ext_getElem?
 intro j
 rw [Array.getElem?_toList,Array.getElem?_extract,Nat.zero_add,getElem_flatMap enc hk h0]
 by_cases hj:j < L.length * sz
 ·rw [if_pos (by omega),zcv (by rw [hk];omega),hk]
  have hold:c[j]?=(L[j / sz]?).bind fun v=>(enc v)[j % sz]?:=by
   have:=congrArg (fun l=>l[j]?) e7
   simp only [Array.getElem?_toList,Array.getElem?_extract,Nat.zero_add] at this
   rw [if_pos (by omega),getElem_flatMap enc hk h0] at this
   exact this
  have hdm:=Nat.div_add_mod j sz
  have hmod:=Nat.mod_lt j h0
  by_cases hin:i * sz<=j/\j < i * sz+sz
  ·rw [if_pos hin]
   have hd:j / sz=i:=by
    apply Nat.div_eq_of_lt_le
    ·rw [Nat.mul_comm];rw [Nat.mul_comm];exact hin.1
    ·rw [Nat.succ_mul];exact hin.2
   have hr:j % sz=j-i * sz:=by rw [hd,Nat.mul_comm] at hdm;omega
   rw [hd,List.getElem?_set_self hi]
   simp [hr]
  ·rw [if_neg hin,hold]
   have hd:i≠j / sz:=by
    rintro rfl
    apply hin
    rw [Nat.mul_comm]
    omega
   rw [List.getElem?_set_ne hd]
 ·rw [if_neg (by omega),List.getElem?_eq_none (l:=L.set i v)]
  ·rfl
  ·rw [List.length_set,Nat.le_div_iff_mul_le h0];omega
def qak (b5:Nat):Value:=.func (.func zdh) #[] #[.pointer (some ⟨b5,0,none⟩)]
theorem zyc {w:World}{b5:Nat}{d:List UInt8}{T:TypeId}{fr:Nat×Nat}{p:Pr}(hb:w.heap[b5]?=some (.cells (byteCells d).toArray T fr)) (hd:d.length=32) (hp:p.1.length=32) :
  qc P zdh #[prV p,.pointer (some ⟨b5,0,none⟩)] w fun e w'=>e=.returned (.bool (decide (p.1=d)))/\Ext [] w.heap w'.heap:=by
 refine zkf ?_
 unfold zg1
 rw [show (prV p).cells=(zcu p).toArray from rfl]
 refine jv rfl fun w1 hw1=>?_
 have hx1:Ext [] w.heap w1.heap:=by rw [hw1];exact .push _
 have hb1:w1.heap[w.heap.size]?=some (.cells (zcu p).toArray zo (0,0)):=by rw [hw1];exact zn
 refine zf9 rfl hb1 (by simp [zkg hp]) ?_
 rw [zqg hp]
 simp only [zy]
 refine qx rfl (hx1.get hb (by simp)) (by simp [hd]) ?_
 refine qp (s:=.bool) _ (zry Bl.u27 Bl.u5 Bl.c5 Bl.g27 hp hd) ?_
 exact⟨rfl,hx1⟩
theorem z4h {w:World}{H:Heap}{a:Option Addr}{n nc b5:Nat}{L:List Pr}{d:List UInt8}{T:TypeId}{fr:Nat×Nat}(hw:w.heap=H) (hL:Cells H a (L.flatMap zc2)) (hn:n=L.length) (hm:L.length<=1099511627776) (h32:∀ p∈L,p.1.length=32)
  (hb:H[b5]?=some (.cells (byteCells d).toArray T fr)) (hd:d.length=32) :
  qc P zau #[.slice a n nc,qak b5] w fun e w'=>∃ k:Int,e=.returned (.int .i64 k)/\((k=-1/\∀ p∈L,p.1≠d)\/∃ i:Nat,k=(i:Int)/\i < L.length/\(∀ p∈L.take i,p.1≠d)/\∃ p,L[i]?=some p/\p.1=d)/\Ext [] H w'.heap:=by
 subst hn
 refine zer ?_
 unfold zcc
 refine jg (fun (s:Int) W=>∃ i:Nat,s=(i:Int)/\i<=L.length/\(∀ p∈L.take i,p.1≠d)/\Ext [] H W.heap) (fun s _=>(L.length-s).toNat) ⟨0,rfl,Nat.zero_le _,by simp,by rw [hw];exact .refl _ _⟩ ?_
 rintro _ W ⟨i,rfl,hi,hno,hxW⟩
 refine zq (fun hlt=>?_) (fun hge=>?_)
 ·have hil:i < L.length:=by omega
  have hget:=List.getElem?_eq_getElem hil
  have hp:=h32 _ (List.getElem_mem hil)
  generalize L[i]=p at hget hp
  refine zce (i:=i) zae (by omega) rfl (hL.ext hxW (by simp)) rfl hget rfl ?_
  rw [<-zug hp]
  refine zho (args:=#[prV p]) (cap:=#[.pointer (some ⟨b5,0,none⟩)]) ?_
  refine (zyc (hxW.get hb (by simp)) hd hp).mono ?_
  rintro e w2 ⟨rfl,hx2⟩
  refine⟨decide (p.1=d),rfl,?_⟩
  by_cases h:p.1=d
  ·exact zah (by simp [h]) ⟨_,rfl,.inr ⟨i,rfl,hil,hno,p,hget,h⟩,hxW.trans hx2⟩
  ·refine jm (by simp [h]) ?_
   refine jd ((i+1:Nat):Int) (by omega) (by omega) (by omega) ?_
   refine⟨⟨i+1,rfl,by omega,fun p' hp'=>?_,hxW.trans hx2⟩,by omega⟩
   rw [List.take_add_one,hget] at hp'
   rcases List.mem_append.1 hp' with h' | h'
   ·exact hno p' h'
   ·simp at h';subst h';exact h
 ·rw [List.take_of_length_le (by omega)] at hno
  exact⟨_,rfl,.inl ⟨rfl,hno⟩,hxW⟩
theorem z3s {w:World}{H:Heap}{a:Option Addr}{n nc b5:Nat}{L:List Pr}{d:List UInt8}{T:TypeId}{fr:Nat×Nat}(hw:w.heap=H) (hL:Cells H a (L.flatMap zc2)) (hn:n=L.length) (hm:L.length<=1099511627776) (h32:∀ p∈L,p.1.length=32)
  (hb:H[b5]?=some (.cells (byteCells d).toArray T fr)) (hd:d.length=32) :
  qc P za8 #[.slice a n nc,qak b5] w fun e w'=>∃ t,e=.returned (.bool t)/\(t=true ↔ ∃ p∈L,p.1=d)/\Ext [] H w'.heap:=by
 refine zd4 ?_
 unfold zb1
 refine zk (z4h hw hL hn hm h32 hb hd) ?_
 rintro e w1 ⟨k,rfl,hk,hx⟩
 refine⟨k,rfl,_,rfl,?_,hx⟩
 rw [decide_eq_true_eq]
 rcases hk with⟨rfl,h⟩ | ⟨i,rfl,hi,_,p,hg,hp⟩
 ·exact⟨fun h=>by omega,fun ⟨p,hp,e⟩=>absurd e (h p hp)⟩
 ·exact⟨fun _=>⟨p,List.mem_of_getElem? hg,hp⟩,fun _=>by omega⟩
theorem z2l {w:World}{H:Heap}{a:Option Addr}{n nc:Nat}{L:List Pr}{p:Pr}(hw:w.heap=H) (hL:Cells H a (L.flatMap zc2)) (hn:n=L.length) (hm:L.length<=1099511627776) (h32:∀ p∈L,p.1.length=32) (hp:p.1.length=32) :
  qc P zbi #[.slice a n nc,prV p] w fun e w'=>e=.returned (.bool (decide (p∈L)))/\Ext [] H w'.heap:=by
 subst hn
 refine ze3 ?_
 unfold zcl
 have l33:=zkg hp
 rw [show (prV p).cells=(zcu p).toArray from rfl]
 refine jv hw fun w1 hw1=>?_
 have hx1:Ext [] H w1.heap:=by rw [hw1];exact .push _
 have hb1:w1.heap[H.size]?=some (.cells (zcu p).toArray zo (0,0)):=by rw [hw1];exact zn
 refine qx rfl hb1 (by simp [l33]) ?_
 have h:qc P zbt #[.slice a L.length nc,prV p] w1 fun e w'=>∃ k:Int,e=.returned (.int .i64 k)/\(0<=k ↔ p∈L)/\Ext [] H w'.heap:=by
  refine zfe ?_
  unfold zc3
  rw [show (prV p).cells=(zcu p).toArray from rfl]
  refine jv rfl fun w2 hw2=>?_
  have hx2:Ext [] w1.heap w2.heap:=by rw [hw2];exact .push _
  have hb2:w2.heap[w1.heap.size]?=some (.cells (zcu p).toArray zo (0,0)):=by rw [hw2];exact zn
  refine jg (fun (s:Int) W=>∃ i:Nat,s=(i:Int)/\i<=L.length/\p∉L.take i/\W.heap=w2.heap) (fun s _=>(L.length-s).toNat) ⟨0,rfl,Nat.zero_le _,by simp,rfl⟩ ?_
  rintro _ W ⟨i,rfl,hi,hno,hW⟩
  have hxW:Ext [] H W.heap:=by rw [hW];exact hx1.trans hx2
  refine zq (fun hlt=>?_) (fun hge=>?_)
  ·have hil:i < L.length:=by omega
   have hget:=List.getElem?_eq_getElem hil
   have hmem:=List.getElem_mem hil
   generalize L[i]=q at hget hmem
   have hq:=h32 q hmem
   refine jl rfl fun w3 hw3=>?_
   have hx3:Ext [] H w3.heap:=by rw [hw3];exact hxW
   have hb3:w3.heap[w1.heap.size]?=some (.cells (zcu p).toArray zo (0,0)):=by rw [hw3,hW];exact hb2
   refine Bl.zcd (i:=i) zae (by omega) (hL.ext hx3 (by simp)) rfl hget rfl fun ba oa ca Ta fra _ hba hsa hca _=>?_
   refine qx rfl hb3 (by simp [l33]) ?_
   refine zf9 rfl hba hsa ?_
   rw [qib hq hsa hca]
   refine qp (s:=.bool) _ (qjc hp hq) ?_
   refine zdk (p:=p=q) (by simp) (fun h=>?_) (fun h=>?_)
   ·subst h
    exact⟨_,rfl,⟨fun _=>hmem,fun _=>by omega⟩,hx3⟩
   ·refine jd ((i+1:Nat):Int) (by simp) (by omega) (by omega) ?_
    refine⟨⟨i+1,rfl,by omega,?_,by rw [hw3,hW]⟩,by omega⟩
    rw [List.take_add_one,hget]
    simp only [Option.toList_some,List.mem_append,List.mem_singleton]
    rintro (h' | h')
    ·exact hno h'
    ·exact h h'
  ·rw [List.take_of_length_le (by omega)] at hno
   exact⟨_,rfl,⟨fun h=>by omega,fun h=>absurd h hno⟩,hxW⟩
 refine zk h ?_
 rintro e w3 ⟨k,rfl,hk,hx⟩
 refine⟨k,rfl,?_,hx⟩
 congr 2
 rw [Bool.eq_iff_iff,decide_eq_true_eq,decide_eq_true_eq,<-hk]
def zwy:List Value:=byteCells (List.replicate 32 0)++[Value.int .i64 0]
theorem qjq (w:World):(zeroValue zo).run P w=.ok (.agg zwy.toArray) w:=by kernel_rfl
theorem qa4:∀ j,j < 33->(zwy.toArray[j]!).oneCell'=true:=by decide
theorem zz9 {w:World}{H:Heap}{b o n cap:Nat}{c:Array Value}{T ty:TypeId}(hw:w.heap=H) (hb:H[b]?=some (.cells c T (0,0))) (hn:o+n * 33<=c.size) :
  ∃ w',(Builtin.clear_ #[vk] ty #[.slice (some ⟨b,o,none⟩) n cap]).run P w=.ok (.tuple #[]) w'/\Go.Fw.Calm w w'/\∃ zs:List Value,zs.length=n * 33/\w'.heap=H.setIfInBounds b (.cells (setCells c o zs) T (0,0)):=by
 cases n with
 | zero=>
  refine⟨w,?_,.refl w,[],by simp,?_⟩
  ·simp [Builtin.clear_,qj uSc]
  ·simp only [setCells]
   rw [hw]
   apply Array.ext_getElem?
   intro j
   by_cases hj:b=j
   ·subst hj;rw [qg hb,hb]
   ·rw [Array.getElem?_setIfInBounds_ne hj]
 | succ n=>
  have hzs:(Builtin.zeroCells zwy.toArray (n+1)).toList.length=(n+1) * 33:=by simp [Builtin.zeroCells,zwy]
  have hz1:zcs (Builtin.zeroCells zwy.toArray (n+1)).toList:=by
   intro v hv
   simp only [Builtin.zeroCells,Array.toList_map,List.mem_map] at hv
   obtain⟨i,_,rfl⟩:=hv
   exact qa4 _ (Nat.mod_lt _ (by simp [zwy]))
  obtain⟨w',h1,h2,h3⟩:=zjk (P:=P) _ w H c o 0 hz1 hw hb (by rw [hzs];omega)
  refine⟨w',?_,h2,_,hzs,by simpa using h3⟩
  simp only [Builtin.clear_,List.getElem?_toArray,List.getElem?_cons_zero,Sem.run_bind,qj uSc,Result.andThen_ok,qjq,Value.cells,h1,Sem.run_pure]
theorem zza {α:Type}{R:List α}{m:Nat}{v:α}(h:m < R.length):(R.set m v).take (m+1)=R.take m++[v]:=by
 rw [List.take_add_one,List.getElem?_set_self h,List.take_set,List.set_eq_of_length_le (by simp;omega)]
 rfl
set_option maxHeartbeats 8000000 in
theorem z9e {w:World}{H:Heap}{B b5:Nat}{x:Option Addr×Nat×Nat}{L:List Pr}{d:List UInt8}{T:TypeId}{fr:Nat×Nat}(hw:w.heap=H) (hm:Mine H B zo 33 x (L.flatMap zc2)) (hlen:L.length<=1099511627776) (h32:∀ p∈L,p.1.length=32)
  (hb:H[b5]?=some (.cells (byteCells d).toArray T fr)) (hd:d.length=32) (hb5:b5∉jf x) (hex:∃ p∈L,p.1=d) :
  qc P zbe #[.slice x.1 x.2.1 x.2.2,qak b5] w fun e w'=>∃ x',e=.returned (zbv x')/\Mine w'.heap B zo 33 x' ((L.filter fun p=>decide (p.1≠d)).flatMap zc2)/\Ext (jf x) H w'.heap/\∀ c∈jf x',c∈jf x:=by
 have hxl:x.2.1=L.length:=by have:=hm.len;rw [ztg] at this;omega
 obtain⟨xa,xl,xc⟩:=x
 simp only at hxl hm
 subst hxl
 refine zeg ?_
 unfold zb8
 refine zk (z4h hw hm.cells rfl hlen h32 hb hd) ?_
 rintro e w1 ⟨k,rfl,hk,hx1⟩
 refine⟨k,rfl,?_⟩
 rcases hk with⟨_,h⟩ | ⟨i0,rfl,hi0,hno,p0,hg0,hp0⟩
 ·obtain⟨p,hp,e⟩:=hex
  exact absurd e (h p hp)
 refine zax (fun h=>by omega) (fun _=>?_)
 refine jd ((i0+1:Nat):Int) (by omega) (by omega) (by omega) ?_
 have hm1:=hm.ext hx1 (by simp)
 have hf0:(L.take (i0+1)).filter (fun p=>decide (p.1≠d))=L.take i0:=by
  rw [List.take_add_one,hg0,List.filter_append]
  rw [List.filter_eq_self.2 fun p hp=>by simpa using hno p hp]
  simp [hp0]
 obtain⟨bx,hbx⟩:∃ bx,xa=some ⟨bx,0,none⟩:=by
  rcases id hm with⟨h,_⟩ | ⟨b,c,hx,_⟩
  ·simp only [Prod.mk.injEq] at h;omega
  ·exact⟨b,hx⟩
 subst hbx
 have hcap:=zfm hm
 simp only at hcap
 refine jg (fun (s:Int×Int) W=>∃ (m j:Nat) (R:List Pr),s=((m:Int),(j:Int))/\m < j/\j<=L.length/\R.length=L.length/\Mine W.heap B zo 33 (some ⟨bx,0,none⟩,L.length,xc) (R.flatMap zc2)/\R.take m=(L.take j).filter (fun p=>decide (p.1≠d))/\R.drop j=L.drop j/\Ext [bx] H W.heap) (fun s _=>(L.length-s.2).toNat)
  ⟨i0,i0+1,L,rfl,by omega,by omega,rfl,hm1,hf0.symm,rfl,hx1.mono (by simp)⟩ ?_
 rintro _ W ⟨m,j,R,rfl,hmj,hj,hRl,hmW,htk,hdr,hxW⟩
 have hbW:=hxW.get hb (by simpa [jf] using hb5)
 refine zq (fun hlt=>?_) (fun hge=>?_)
 ·have hjl:j < L.length:=by simp only at hlt;omega
  have hgL:=List.getElem?_eq_getElem hjl
  have hgR:R[j]?=some L[j]:=by
   have:=congrArg (fun l=>l[0]?) hdr
   simp only [List.getElem?_drop,Nat.add_zero] at this
   rw [this,hgL]
  have hp:=h32 _ (List.getElem_mem hjl)
  have hdr':R.drop (j+1)=L.drop (j+1):=by
   rw [show j+1=j+1 from rfl,<-List.drop_drop,<-List.drop_drop,hdr]
  have htake:L.take (j+1)=L.take j++[L[j]]:=by rw [List.take_add_one,hgL];rfl
  generalize L[j]=p at hgL hgR hp htake
  refine Go.Fw.joinP_of (fun (s2:Int) W'=>∃ (m':Nat) (R':List Pr),s2=(m':Int)/\m' < j+1/\R'.length=L.length/\Mine W'.heap B zo 33 (some ⟨bx,0,none⟩,L.length,xc) (R'.flatMap zc2)/\R'.take m'=(L.take (j+1)).filter (fun p=>decide (p.1≠d))/\R'.drop (j+1)=L.drop (j+1)/\Ext [bx] H W'.heap) ?_ ?_
  rotate_left
  ·rintro _ W' ⟨m',R',rfl,k1,k2,k3,k4,k5,k6⟩
   refine jd ((j+1:Nat):Int) (by simp) (by omega) (by omega) ?_
   exact⟨⟨m',j+1,R',rfl,k1,by omega,k2,k3,k4,k5,k6⟩,by simp only;omega⟩
  refine zce (i:=j) zae (by omega) rfl hmW.cells hRl.symm hgR rfl ?_
  have hvar:∀ {K:Nat->World->Prop},(∀ w',w'.heap=W.heap.push (.cells (zcu p).toArray zo (0,0))->K W.heap.size w') ->
    zbk (zc P zo) zo W fun b w1=>zbz P (storeVar zo (⟨b,0,none⟩:Addr) (.agg (zc2 p).toArray)) w1 fun w2=>K b w2:=by
   intro K hK
   refine zui (v:=.agg (zc2 p).toArray) (by rw [show P.cellsOf zo=33 by kernel_rfl];simp [Value.cells,zae]) (by rw [show (zc P zo).size=33 by kernel_rfl];simp [Value.cells,zae]) (by simp [Value.cells,zae]) (by simpa [Value.cells] using zgx) rfl fun w' hw'=>hK w' ?_
   rw [hw',<-zka hp];rfl
  refine hvar fun w4 hw4=>?_
  have hx4:Ext [] W.heap w4.heap:=by rw [hw4];exact .push _
  have hb4:w4.heap[W.heap.size]?=some (.cells (zcu p).toArray zo (0,0)):=by rw [hw4];exact zn
  have l33:=zkg hp
  refine qx rfl hb4 (by simp [l33]) ?_
  refine zho (args:=#[prV p]) (cap:=#[.pointer (some ⟨b5,0,none⟩)]) ?_
  refine (zyc (hx4.get hbW (by simp)) hd hp).mono ?_
  rintro e w5 ⟨rfl,hx5⟩
  refine⟨decide (p.1=d),rfl,?_⟩
  have hm5:=(hmW.ext hx4 (by simp)).ext hx5 (by simp)
  have hb5':=hx5.get hb4 (by simp)
  have hx05:Ext [bx] H w5.heap:=hxW.trans ((hx4.trans hx5).mono (by simp))
  by_cases he:p.1=d
  ·refine jm (by simp [he]) ?_
   refine⟨m,R,rfl,by omega,hRl,hm5,?_,hdr',hx05⟩
   rw [htake,List.filter_append,<-htk]
   simp [he]
  ·refine zah (by simp [he]) ?_
   refine qx rfl hb5' (by simp [l33]) ?_
   have hgm:=List.getElem?_eq_getElem (show m < R.length by omega)
   refine Bl.zcd (i:=m) zae (by omega) hm5.cells hRl.symm hgm rfl fun ba oa ca Ta fra hka hba hsa hca hoff=>?_
   simp only [Option.map_some,Option.some.injEq] at hka
   subst hka
   have hoff:=hoff rfl
   have hfr:fra=(0,0):=by
    rcases id hm5 with⟨h,_⟩ | ⟨b,c,hx,_,hg,_⟩
    ·simp only [Prod.mk.injEq] at h;omega
    ·simp only [Option.some.injEq,Addr.mk.injEq] at hx
     rw [<-hx.1,hba] at hg
     simp only [Option.some.injEq,Obj.cells.injEq] at hg
     exact hg.2.2
   subst hfr
   rw [show (Value.agg (zcu p).toArray)=.agg (zc2 p).toArray by rw [zka hp]]
   refine zaz (v:=.agg (zc2 p).toArray) (by rw [show P.cellsOf zo=33 by kernel_rfl];simp [Value.cells,zae]) (by simp [Value.cells,zae]) (by simpa [Value.cells] using zgx) rfl hba (by simp [Value.cells,zae];omega) fun w6 hw6=>?_
   have hm6:Mine w6.heap B zo 33 (some ⟨bx,0,none⟩,L.length,xc) ((R.set m p).flatMap zc2):=z2s zae (by omega) hm5 (by omega) rfl hba hoff (by rw [hw6];simp [Value.cells])
   have hx6:Ext [bx] w5.heap w6.heap:=by rw [hw6];exact Ext.set _ (by simp)
   refine jd ((m+1:Nat):Int) (by simp) (by omega) (by omega) ?_
   refine⟨m+1,R.set m p,rfl,by omega,by simp [hRl],hm6,?_,?_,hx05.trans hx6⟩
   ·rw [zza (by omega),htk,htake,List.filter_append]
    simp [he]
   ·rw [List.drop_set_of_lt (by omega)];exact hdr'
 ·obtain rfl:j=L.length:=by simp only at hge;omega
  rw [List.take_length] at htk
  have hml:m=(L.filter fun p=>decide (p.1≠d)).length:=by
   have:=congrArg List.length htk
   simp only [List.length_take] at this
   omega
  have hcut:∀ W:World,(Instr.sliceAt vk (Value.slice (some ⟨bx,0,none⟩) L.length xc) (some (Value.int .i64 (m:Int))) none none).run P W=.ok (.slice (if xc=m then some ⟨bx,0,none⟩ else some ⟨bx,m * 33,none⟩) (L.length-m) (xc-m)) W:=fun W=>by
   have:=za1 (P:=P) (w:=W) (a:=some ⟨bx,0,none⟩) (len:=L.length) (cap:=xc) (l:=m) (h:=L.length) uSc (show (P.info? zo).map (·.size)=some 33 by kernel_rfl) (.yes (k:=.i64) (i:=(m:Int)) rfl) .no (by omega) hcap
   simpa [jo] using this
  have hcut2:∀ W:World,(Instr.sliceAt vk (Value.slice (some ⟨bx,0,none⟩) L.length xc) none (some (Value.int .i64 (m:Int))) none).run P W=.ok (.slice (some ⟨bx,0,none⟩) m xc) W:=fun W=>by
   have:=za1 (P:=P) (w:=W) (a:=some ⟨bx,0,none⟩) (len:=L.length) (cap:=xc) (l:=0) (h:=m) uSc (show (P.info? zo).map (·.size)=some 33 by kernel_rfl) .no (.yes (k:=.i64) (i:=(m:Int)) rfl) (Nat.zero_le _) (by omega)
   simpa [jo] using this
  refine qp (s:=.slc) (if xc=m then some ⟨bx,0,none⟩ else some ⟨bx,m * 33,none⟩,L.length-m,xc-m) (hcut W) ?_
  obtain⟨cW,hcW,hcs⟩:∃ cW,W.heap[bx]?=some (.cells cW zo (0,0))/\cW.size=xc * 33/\(cW.extract 0 (L.length * 33)).toList=R.flatMap zc2:=by
   rcases id hmW with⟨h,_⟩ | ⟨b,c,hx,_,hg,h1,h2,_,h3⟩
   ·simp only [Prod.mk.injEq] at h;omega
   ·simp only [Option.some.injEq,Addr.mk.injEq] at hx
    rw [<-hx.1] at hg
    exact⟨c,hg,h1,by rw [<-h3,ztg,hRl]⟩
  have hBb:B<=bx:=xu hmW bx (by simp [jf])
  have done:∀ {w8:World}{zs:List Value},zs.length=(L.length-m) * 33->w8.heap=W.heap.setIfInBounds bx (.cells (setCells cW (m * 33) zs) zo (0,0))->∃ x',zbv (some ⟨bx,0,none⟩,m,xc)=zbv x'/\Mine w8.heap B zo 33 x' ((L.filter fun p=>decide (p.1≠d)).flatMap zc2)/\Ext [bx] H w8.heap/\∀ c∈jf x',c∈([bx]:List Nat):=by
   intro w8 zs hz hw8
   refine⟨(some ⟨bx,0,none⟩,m,xc),rfl,?_,hxW.trans (by rw [hw8];exact Ext.set _ (by simp)),by simp [jf]⟩
   refine .inr ⟨bx,_,rfl,hBb,by rw [hw8];exact qg hcW,by rw [Go.Fw.size_setCells];exact hcs.1,by rw [ztg,<-hml],by show m<=xc;omega,?_⟩
   rw [ztg,<-hml,<-htk]
   have h1:(R.take m).flatMap zc2=(R.flatMap zc2).take (m * 33):=by
    have h1:R.flatMap zc2=(R.take m).flatMap zc2++(R.drop m).flatMap zc2:=by rw [<-List.flatMap_append,List.take_append_drop]
    have h2:((R.take m).flatMap zc2).length=m * 33:=by rw [ztg,List.length_take,Nat.min_eq_left (by omega)]
    rw [h1,List.take_left' h2]
   rw [h1,<-hcs.2]
   have hsz2:(setCells cW (m * 33) zs).size=cW.size:=Go.Fw.size_setCells
   apply List.ext_getElem?
   intro t
   rw [Array.getElem?_toList,Array.getElem?_extract,Nat.zero_add,List.getElem?_take,Array.getElem?_toList,Array.getElem?_extract,Nat.zero_add]
   by_cases ht:t < m * 33
   ·have:m * 33<=L.length * 33:=Nat.mul_le_mul_right _ (by omega)
    have:L.length * 33<=xc * 33:=Nat.mul_le_mul_right _ hcap
    rw [if_pos (by omega),if_pos ht,if_pos (by omega),zcv (by rw [hz,hcs.1,Nat.sub_mul];omega),if_neg (by omega)]
   ·have hsz:=hcs.1
    have:m * 33<=L.length * 33:=Nat.mul_le_mul_right _ (by omega)
    have:L.length * 33<=xc * 33:=Nat.mul_le_mul_right _ hcap
    rw [if_neg (by omega),if_neg ht]
  have tail:∀ {w8:World},(∃ x',zbv (some ⟨bx,0,none⟩,m,xc)=zbv x'/\Mine w8.heap B zo 33 x' ((L.filter fun p=>decide (p.1≠d)).flatMap zc2)/\Ext [bx] H w8.heap/\∀ c∈jf x',c∈([bx]:List Nat)) ->
    za7 P (Instr.sliceAt vk (Value.slice (some ⟨bx,0,none⟩) L.length xc) none (some (Value.int .i64 (m:Int))) none) .slc w8 fun (t41:(Option Addr×Nat×Nat))=>∃ x',Ending.returned (Value.slice t41.1 t41.2.1 t41.2.2)=.returned (zbv x')/\Mine w8.heap B zo 33 x' ((L.filter fun p=>decide (p.1≠d)).flatMap zc2)/\Ext [bx] H w8.heap/\∀ c∈jf x',c∈jf ((some ⟨bx,0,none⟩,L.length,xc):Option Addr×Nat×Nat):=by
   rintro w8 ⟨x',e1,e2,e3,e4⟩
   refine qp (s:=.slc) (some ⟨bx,0,none⟩,m,xc) (hcut2 w8) ?_
   exact⟨x',congrArg Ending.returned e1,e2,e3,by simpa [jf] using e4⟩
  have hmx:m * 33+(L.length-m) * 33<=cW.size:=by
   have:L.length * 33<=xc * 33:=Nat.mul_le_mul_right _ hcap
   have:m * 33<=L.length * 33:=Nat.mul_le_mul_right _ (by omega)
   rw [hcs.1,Nat.sub_mul];omega
  by_cases hxm:xc=m
  ·rw [if_pos hxm]
   obtain⟨w8,h1,h2,zs,h3,h4⟩:=zz9 (o:=0) (n:=L.length-m) (cap:=xc-m) (ty:=zd0) rfl hcW (by omega)
   refine zam (s:=.any) _ w8 h1 ?_ h2
   have hz0:zs=[]:=List.eq_nil_of_length_eq_zero (by omega)
   subst hz0
   exact tail (done (zs:=[]) (by simp;omega) (by rw [h4];rfl))
  ·rw [if_neg hxm]
   obtain⟨w8,h1,h2,zs,h3,h4⟩:=zz9 (o:=m * 33) (n:=L.length-m) (cap:=xc-m) (ty:=zd0) rfl hcW hmx
   refine zam (s:=.any) _ w8 h1 ?_ h2
   exact tail (done h3 h4)
structure Wf (s:LSt):Prop where
 nd:s.want.Nodup
 sub:∀ p∈s.want,p∈s.seen
theorem z8p {v:List UInt8->Option (List UInt8)}{s:LSt}{p:Pr}(h:Wf s):Wf (zc0 v s p).1:=by
 unfold zc0
 split
 ·exact h
 ·rename_i hn
  split
  ·refine⟨?_,fun x hx=>?_⟩
   ·rw [List.nodup_append]
    exact⟨h.nd,by simp,fun a ha b hb=>by
     simp at hb;subst hb
     rintro rfl
     exact hn (h.sub _ ha)⟩
   ·rcases List.mem_append.1 hx with hx | hx
    ·exact List.mem_append.2 (.inl (h.sub x hx))
    ·exact List.mem_append.2 (.inr hx)
  ·split
   ·exact⟨h.nd,fun x hx=>List.mem_append.2 (.inl (h.sub x hx))⟩
   ·exact⟨h.nd,fun x hx=>List.mem_append.2 (.inl (h.sub x hx))⟩
theorem run_wf {v:List UInt8->Option (List UInt8)}:∀ {n:Nat}{todo:List Pr}{s t:LSt}{c:Int},Run (zc0 v) n todo s t c->Wf s->Wf t:=by
 intro n todo s t c h
 induction h with
 | nil=>exact id
 | stop _=>exact z8p
 | step _ _ ih=>exact fun h=>ih (z8p h)
theorem bCa (p:Option Addr) (m:Option Nat) (w:World):(Instr.build zef #[(0,.pointer p),(1,.map m)]).run P w=.ok (.agg #[.pointer p,.map m,.slice none 0 0,.bool false]) w:=by kernel_rfl
def st0:LSt:=⟨[],[],false⟩
set_option maxHeartbeats 4000000 in
theorem qej {fp:List Nat}{pS:Nat}{q:Int}{r:Bl.SM}{k n:Nat}(hlen:∀ k L,Bl.zaa r k=some L->L.length < 1099511627776){w:World}{H:Heap}{root:List UInt8}{kind:Int}{t:LSt}(hw:w.heap=H) (hS:Bl.Store H fp pS q r k) (hfp:∀ b∈fp,b < H.size) (hR:Bl.Rounds H) (h32:root.length=32) (hkd:kind=2\/kind=3)
  (hrun:Run (zc0 (Bl.zaa r)) n [(root,kind)] st0 t 0) (hn:n<=1000000000) :
  qc P zix #[.pointer (some ⟨pS,0,none⟩),arr root,.int .i64 kind] w fun e w'=>∃ c cf,e=.returned (.tuple #[.pointer (some ⟨c,0,none⟩),.int .i64 0])/\zh7 w'.heap cf c pS t/\Ext [] H w'.heap/\∀ b∈cf,H.size<=b/\b < w'.heap.size:=by
 have hH0:0 < H.size:=by obtain⟨_,_,_,h,_⟩:=hR;exact lt_of_get h
 refine zr9 ?_
 unfold zoy
 rw [show (arr root).cells=(byteCells root).toArray from rfl]
 refine jv hw fun w1 hw1=>?_
 have hx1:Ext [] H w1.heap:=by rw [hw1];exact .push _
 have hb1:w1.heap[H.size]?=some (.cells (byteCells root).toArray zf (0,0)):=by rw [hw1];exact zn
 have s1:=lt_of_get hb1
 refine zal ?_
 refine Go.Fw.joinP_of (fun _ W=>W=w1) ?_ ?_
 ·refine jm rfl ?_
  refine zay (fun h2=>?_) (fun h2=>rfl)
  exact zay (fun h3=>by rcases hkd with h | h <;> contradiction) (fun h3=>rfl)
 rintro _ W hW
 subst hW
 refine zam (s:=.map) (some W.heap.size) _ (zmr rfl) ?_
 generalize hw4:({ W with heap:=W.heap.push (.map #[] 0) }:World)=w4
 have hh4:w4.heap=W.heap.push (.map #[] 0):=by rw [<-hw4]
 have hx4:Ext [] W.heap w4.heap:=by rw [hh4];exact .push _
 have hm4:w4.heap[W.heap.size]?=some (.map #[] 0):=by rw [hh4];exact zn
 have s4:=lt_of_get hm4
 refine qp (s:=.any) _ (bCa _ _ _) ?_
 refine jv rfl fun w5 hw5=>?_
 have hx5:Ext [] w4.heap w5.heap:=by rw [hw5];exact .push _
 have hc5:w5.heap[w4.heap.size]?=some (.cells #[.pointer (some ⟨pS,0,none⟩),.map (some W.heap.size),.slice none 0 0,.bool false] zef (0,0)):=by rw [hw5];exact zn
 have s5:=lt_of_get hc5
 have hx15:=hx4.trans hx5
 have hx05:=hx1.trans hx15
 refine qx rfl (hx15.get hb1 (by simp)) (by simp [h32]) ?_
 refine qp (s:=.any) _ (bPr h32 kind _) ?_
 have hCW:zh7 w5.heap [w4.heap.size,W.heap.size] w4.heap.size pS st0:=⟨W.heap.size,0,[],(none,0,0),hc5,hx5.get hm4 (by simp),⟨by simp,by simp,by simp,by simp⟩,by intro p;simp [zbx,st0],.inl ⟨rfl,rfl⟩,by simp,by simp,by simp [jf],by simp [st0]⟩
 refine zk (look_ok hlen n (p:=(root,kind)) rfl hCW (fun b hb=>by simp at hb;omega) (hS.ext hx05 (by simp)) (fun b hb=>⟨by have:=hfp b hb;omega,by have:=hfp b hb;simp;omega⟩) (hR.ext hx05 (by simp)) (by simp;omega) h32 hrun (by simp [st0];omega)) ?_
 rintro e w6 ⟨rfl,cf2,hC2,hx6,hcf2,hsub2⟩
 refine⟨(),rfl,w4.heap.size,cf2,rfl,hC2,hx05.own hx6 (fun b hb hlt=>by simp at hb;omega),fun b hb=>⟨?_,hcf2 b hb⟩⟩
 rcases hsub2 b hb with h | h
 ·simp at h;omega
 ·omega
theorem z3u {w:World}{H:Heap}{cf:List Nat}{c pS:Nat}{st:LSt}(hw:w.heap=H) (hC:zh7 H cf c pS st):qc P zdb #[.pointer (some ⟨c,0,none⟩)] w fun e w'=>e=.returned (.bool (decide (st.want=[]/\st.foul=false)))/\w'=w:=by
 obtain⟨m,clk,l,x,g1,_,_,_,g5,_⟩:=hC
 have hxl:x.2.1=st.want.length:=by have:=g5.len;rw [ztg] at this;omega
 refine zm5 ?_
 unfold zie
 refine zah rfl ?_
 simp only [zy,jo,Nat.zero_add]
 refine je (s:=.slc) (t:=x) hw g1 rfl ?_
 refine zax (fun h=>?_) (fun h=>?_)
 ·have h0:st.want=[]:=List.eq_nil_of_length_eq_zero (by omega)
  refine je (s:=.bool) (t:=st.foul) hw g1 rfl ?_
  refine⟨?_,trivial⟩
  cases hf:st.foul <;> simp [h0,hf]
 ·have h0:st.want≠[]:=fun h'=>h (by rw [hxl,h'];rfl)
  exact⟨by rw [decide_eq_false (fun h'=>h0 h'.1)],trivial⟩
theorem z9s {w:World}{H:Heap}{a:Option Addr}{n nc:Nat}{L:List (List UInt8)}{k:List UInt8}(hw:w.heap=H) (hL:Cells H a (L.flatMap Bl.zbp)) (hn:n=L.length) (hm:L.length<=1099511627776) (h32:∀ q∈L,q.length=32) (hk:k.length=32) :
  qc P zbj #[.slice a n nc,arr k] w fun e w'=>e=.returned (.bool (decide (k∈L)))/\Ext [] H w'.heap:=by
 subst hn
 refine zey ?_
 unfold zcm
 rw [show (arr k).cells=(byteCells k).toArray from rfl]
 refine jv hw fun w1 hw1=>?_
 have hx1:Ext [] H w1.heap:=by rw [hw1];exact .push _
 have hb1:w1.heap[H.size]?=some (.cells (byteCells k).toArray zf (0,0)):=by rw [hw1];exact zn
 refine qx rfl hb1 (by simp [hk]) ?_
 have h:qc P zbq #[.slice a L.length nc,arr k] w1 fun e w'=>∃ j:Int,e=.returned (.int .i64 j)/\(0<=j ↔ k∈L)/\Ext [] H w'.heap:=by
  refine zff ?_
  unfold zc7
  rw [show (arr k).cells=(byteCells k).toArray from rfl]
  refine jv rfl fun w2 hw2=>?_
  have hx2:Ext [] w1.heap w2.heap:=by rw [hw2];exact .push _
  have hb2:w2.heap[w1.heap.size]?=some (.cells (byteCells k).toArray zf (0,0)):=by rw [hw2];exact zn
  refine jg (fun (s:Int) W=>∃ i:Nat,s=(i:Int)/\i<=L.length/\k∉L.take i/\W.heap=w2.heap) (fun s _=>(L.length-s).toNat) ⟨0,rfl,Nat.zero_le _,by simp,rfl⟩ ?_
  rintro _ W ⟨i,rfl,hi,hno,hW⟩
  have hxW:Ext [] H W.heap:=by rw [hW];exact hx1.trans hx2
  refine zq (fun hlt=>?_) (fun hge=>?_)
  ·have hil:i < L.length:=by omega
   have hget:=List.getElem?_eq_getElem hil
   have hmem:=List.getElem_mem hil
   generalize L[i]=q at hget hmem
   have hq:=h32 q hmem
   refine jl rfl fun w3 hw3=>?_
   have hx3:Ext [] H w3.heap:=by rw [hw3];exact hxW
   have hb3:w3.heap[w1.heap.size]?=some (.cells (byteCells k).toArray zf (0,0)):=by rw [hw3,hW];exact hb2
   refine Bl.zcd (i:=i) Bl.zaf (by omega) (hL.ext hx3 (by simp)) rfl hget rfl fun ba oa ca Ta fra _ hba hsa hca _=>?_
   refine qx rfl hb3 (by simp [hk]) ?_
   refine zf9 rfl hba hsa ?_
   rw [qif hq hsa hca]
   refine qp (s:=.bool) _ (zry Bl.u27 Bl.u5 Bl.c5 Bl.g27 hk hq) ?_
   refine zdk (p:=k=q) (by simp) (fun h=>?_) (fun h=>?_)
   ·subst h
    exact⟨_,rfl,⟨fun _=>hmem,fun _=>by omega⟩,hx3⟩
   ·refine jd ((i+1:Nat):Int) (by simp) (by omega) (by omega) ?_
    refine⟨⟨i+1,rfl,by omega,?_,by rw [hw3,hW]⟩,by omega⟩
    rw [List.take_add_one,hget]
    simp only [Option.toList_some,List.mem_append,List.mem_singleton]
    rintro (h' | h')
    ·exact hno h'
    ·exact h h'
  ·rw [List.take_of_length_le (by omega)] at hno
   exact⟨_,rfl,⟨fun h=>by omega,fun h=>absurd h hno⟩,hxW⟩
 refine zk h ?_
 rintro e w3 ⟨j,rfl,hj,hx⟩
 refine⟨j,rfl,?_,hx⟩
 congr 2
 rw [Bool.eq_iff_iff,decide_eq_true_eq,decide_eq_true_eq,<-hj]
def zjf (most:Int):List Pr->List (List UInt8)->List (List UInt8)
 | [],out=>out
 | p :: ps,out=>if most<=out.length then out else zjf most ps (if p.1∈out then out else out++[p.1])
theorem qhv {p:Pr}(h:p.1.length=32):(zc2 p).toArray.extract 0 (0+32)=(byteCells p.1).toArray:=by rw [zka h];exact zqg h
set_option maxHeartbeats 4000000 in
theorem z2y {w:World}{H:Heap}{cf:List Nat}{c pS:Nat}{st:LSt}{most:Int}(hw:w.heap=H) (hC:zh7 H cf c pS st) (hwl:st.want.length<=1000000000) :
  qc P zc9 #[.pointer (some ⟨c,0,none⟩),.int .i64 most] w fun e w'=>∃ x,e=.returned (zbv x)/\Mine w'.heap H.size zf 32 x ((zjf most st.want []).flatMap Bl.zbp)/\(∀ k∈zjf most st.want [],k.length=32)/\Ext [] H w'.heap:=by
 obtain⟨m,clk,l,x,g1,_,_,_,g5,_,_,_,g9⟩:=hC
 have hxl:x.2.1=st.want.length:=by have:=g5.len;rw [ztg] at this;omega
 refine zm1 ?_
 unfold zii
 refine jm rfl ?_
 simp only [zy,jo,Nat.zero_add]
 refine je (s:=.slc) (t:=x) hw g1 rfl ?_
 generalize hres:zjf most st.want []=res
 refine Go.Fw.joinP_of (fun (s:Option Addr×Nat×Nat) W=>Mine W.heap H.size zf 32 s (res.flatMap Bl.zbp)/\(∀ k∈res,k.length=32)/\Ext [] H W.heap) ?_ ?_
 rotate_left
 ·rintro s W ⟨h1,h2,h3⟩
  exact⟨s,rfl,h1,h2,h3⟩
 refine jg (fun (s:(Option Addr×Nat×Nat)×Int) W=>∃ (i:Nat) (out:List (List UInt8)),s.2=(i:Int)/\i<=st.want.length/\zjf most (st.want.drop i) out=res/\Ext [] H W.heap/\Mine W.heap H.size zf 32 s.1 (out.flatMap Bl.zbp)/\out.length<=i/\∀ k∈out,k.length=32) (fun s _=>(st.want.length-s.2).toNat)
  ⟨0,[],rfl,Nat.zero_le _,hres,by rw [hw];exact .refl _ _,.inl ⟨rfl,rfl⟩,by simp,by simp⟩ ?_
 rintro ⟨o,_⟩ W ⟨i,out,rfl,hi,hrec,hx,hmo,hol,h32⟩
 simp only at hmo
 have ho:o.2.1=out.length:=by have:=hmo.len;rw [zu Bl.zbp Bl.zaf] at this;omega
 refine zq (fun hlt=>?_) (fun hge=>?_)
 ·have hil:i < st.want.length:=by simp only at hlt;omega
  have hget:=List.getElem?_eq_getElem hil
  have hp:=g9 _ (List.getElem_mem hil)
  rw [List.drop_eq_getElem_cons hil,zjf] at hrec
  generalize st.want[i]=p at hget hp hrec
  refine Go.Fw.joinP_of (fun (s:Option Addr×Nat×Nat) W'=>∃ out',zjf most (st.want.drop (i+1)) out'=res/\Ext [] H W'.heap/\Mine W'.heap H.size zf 32 s (out'.flatMap Bl.zbp)/\out'.length<=i+1/\∀ k∈out',k.length=32) ?_ ?_
  rotate_left
  ·rintro s W' ⟨out',k1,k2,k3,k4,k5⟩
   refine jd ((i+1:Nat):Int) (by simp) (by omega) (by omega) ?_
   exact⟨⟨i+1,out',rfl,by omega,k1,k2,k3,k4,k5⟩,by simp only;omega⟩
  refine zce (i:=i) zae (by omega) rfl ((g5.ext hx (by simp)).cells) hxl hget rfl ?_
  refine zui (v:=.agg (zc2 p).toArray) (by rw [show P.cellsOf zo=33 by kernel_rfl];simp [Value.cells,zae]) (by rw [show (zc P zo).size=33 by kernel_rfl];simp [Value.cells,zae]) (by simp [Value.cells,zae]) (by simpa [Value.cells] using zgx) rfl fun w3 hw3=>?_
  have hx3:Ext [] W.heap w3.heap:=by rw [hw3];exact .push _
  have hb3:w3.heap[W.heap.size]?=some (.cells (zc2 p).toArray zo (0,0)):=by rw [hw3];exact zn
  refine zq (fun hmost=>?_) (fun hmost=>?_)
  ·rw [if_pos (by simp only at hmost;omega)] at hrec
   subst hrec
   exact⟨hmo.ext hx3 (by simp),h32,hx.trans hx3⟩
  rw [if_neg (by simp only at hmost;omega)] at hrec
  refine zf9 rfl hb3 (by simp [zae]) ?_
  rw [qhv hp]
  refine zk (z9s (L:=out) rfl (hmo.ext hx3 (by simp)).cells ho (by omega) h32 hp) ?_
  rintro e w4 ⟨rfl,hx4⟩
  refine⟨decide (p.1∈out),rfl,?_⟩
  have hx04:=(hx.trans hx3).trans hx4
  have hm4:=(hmo.ext hx3 (by simp)).ext hx4 (by simp)
  by_cases hin:p.1∈out
  ·rw [if_pos hin] at hrec
   exact jm (by simp [hin]) ⟨out,hrec,hx04,hm4,by omega,h32⟩
  ·rw [if_neg hin] at hrec
   refine zah (by simp [hin]) ?_
   refine zf9 rfl (hx4.get hb3 (by simp)) (by simp [zae]) ?_
   rw [qhv hp]
   refine zyo rfl hm4 hx04.1 hp (by omega) fun x6 w6 hm6 hx6 hs6=>?_
   have go:=xu hmo
   exact⟨out++[p.1],hrec,hx04.own hx6 (fun b hb hlt=>by have:=go b hb;omega),hm6,by simp;omega,fun k hk=>by
    rcases List.mem_append.1 hk with h | h
    ·exact h32 k h
    ·simp at h;subst h;exact hp⟩
 ·obtain rfl:i=st.want.length:=by simp only at hge;omega
  rw [List.drop_length,zjf] at hrec
  subst hrec
  exact⟨hmo,h32,hx⟩
theorem bCr (p:Option Addr) (w:World):(Instr.build zdj #[(0,.pointer p)]).run P w=.ok (.agg #[.pointer p,.slice none 0 0,.slice none 0 0,.bool false]) w:=by kernel_rfl
theorem qaq {w:World}{H:Heap}{pS:Nat}{root:List UInt8}{kind:Int}(hw:w.heap=H) (h2:kind≠2) (h3:kind≠3):qc P zix #[.pointer (some ⟨pS,0,none⟩),arr root,.int .i64 kind] w fun e w'=>e=.returned (.tuple #[.pointer none,.int .i64 100])/\Ext [] H w'.heap:=by
 refine zr9 ?_
 unfold zoy
 refine jv hw fun w1 hw1=>?_
 have hx1:Ext [] H w1.heap:=by rw [hw1];exact .push _
 refine zal ?_
 refine zal ?_
 exact jm rfl (zay (fun _=>zay (fun _=>⟨rfl,hx1⟩) (fun h=>absurd h h3)) (fun h=>absurd h h2))
theorem z8i {w:World}{H:Heap}{pS:Nat}{root:List UInt8}{kind:Int}(hw:w.heap=H) (h2:kind≠2) (h3:kind≠3):qc P zp4 #[.pointer (some ⟨pS,0,none⟩),arr root,.int .i64 kind] w fun e w'=>e=.returned (.tuple #[.pointer none,.int .i64 100])/\Ext [] H w'.heap:=by
 refine zxm ?_
 unfold zua
 refine jv hw fun w1 hw1=>?_
 have hx1:Ext [] H w1.heap:=by rw [hw1];exact .push _
 refine zal ?_
 exact zay (fun _=>zay (fun _=>⟨rfl,hx1⟩) (fun h=>absurd h h3)) (fun h=>absurd h h2)
set_option maxHeartbeats 4000000 in
theorem qet {fp:List Nat}{pS:Nat}{q:Int}{r:Bl.SM}{n:Nat}(hlen:∀ k L,Bl.zaa r k=some L->L.length < 1099511627776){w:World}{H:Heap}{root:List UInt8}{kind:Int}{t:LSt}(hw:w.heap=H) (hS:Bl.zc4 H fp pS q r) (hfp:∀ b∈fp,b < H.size) (hrl:r.length<=1000) (h32:root.length=32) (hkd:kind=2\/kind=3)
  (hrun:Run (zc0 (Bl.zaa r)) n [(root,kind)] st0 t 0) (hn:n<=1000000000) :
  qc P zp4 #[.pointer (some ⟨pS,0,none⟩),arr root,.int .i64 kind] w fun e w'=>∃ c cf,e=.returned (.tuple #[.pointer (some ⟨c,0,none⟩),.int .i64 0])/\zhd w'.heap cf c pS t/\Ext [] H w'.heap/\∀ b∈cf,H.size<=b/\b < w'.heap.size:=by
 refine zxm ?_
 unfold zua
 rw [show (arr root).cells=(byteCells root).toArray from rfl]
 refine jv hw fun w1 hw1=>?_
 have hx1:Ext [] H w1.heap:=by rw [hw1];exact .push _
 have hb1:w1.heap[H.size]?=some (.cells (byteCells root).toArray zf (0,0)):=by rw [hw1];exact zn
 have s1:=lt_of_get hb1
 refine Go.Fw.joinP_of (fun _ W=>W=w1) ?_ ?_
 ·refine zay (fun h2=>?_) (fun h2=>rfl)
  exact zay (fun h3=>by rcases hkd with h | h <;> contradiction) (fun h3=>rfl)
 rintro _ W hW
 have hW:=hW.symm
 subst hW
 refine qp (s:=.any) _ (bCr _ _) ?_
 refine jv rfl fun w5 hw5=>?_
 have hx5:Ext [] w1.heap w5.heap:=by rw [hw5];exact .push _
 have hc5:w5.heap[w1.heap.size]?=some (.cells #[.pointer (some ⟨pS,0,none⟩),.slice none 0 0,.slice none 0 0,.bool false] zdj (0,0)):=by rw [hw5];exact zn
 have s5:=lt_of_get hc5
 have hx05:=hx1.trans hx5
 refine qx rfl (hx5.get hb1 (by simp)) (by simp [h32]) ?_
 refine qp (s:=.any) _ (bPq h32 kind _) ?_
 rw [<-zka (p:=(root,kind)) h32]
 refine zam (s:=.slc) (some ⟨w5.heap.size,0,none⟩,1,1) _ (zd7 Eq8 uSq (v:=.agg (zc2 (root,kind)).toArray) (by simp [Value.cells,zae]) (by omega) (by omega)) ?_
 generalize hw6:({ w5 with heap:=w5.heap.push (.cells (Value.agg (zc2 (root,kind)).toArray).cells qm) }:World)=w6
 have hh6:w6.heap=w5.heap.push (.cells (zc2 (root,kind)).toArray qm):=by rw [<-hw6];rfl
 have hx6:Ext [] w5.heap w6.heap:=by rw [hh6];exact .push _
 have hb6:w6.heap[w5.heap.size]?=some (.cells (zc2 (root,kind)).toArray qm (0,0)):=by rw [hh6];exact zn
 have s6:=lt_of_get hb6
 have hx06:=hx05.trans hx6
 have hCW:zhd w6.heap [w1.heap.size] w1.heap.size pS st0:=⟨(none,0,0),(none,0,0),hx6.get hc5 (by simp),.inl ⟨rfl,rfl⟩,.inl ⟨rfl,rfl⟩,by simp [jf],by simp,by simp [jf],by simp [jf],by simp [st0],by simp [st0]⟩
 refine zk (z9d (x:=(some ⟨w5.heap.size,0,none⟩,1,1)) (todo:=[(root,kind)]) hlen rfl hCW (fun b hb=>by simp at hb;omega) (hS.ext hx06 (by simp)) (fun b hb=>⟨by have:=hfp b hb;omega,by have:=hfp b hb;simp;omega⟩) hrl (.inr ⟨w5.heap.size,_,rfl,Nat.zero_le _,hb6,by simp [zae],by simp [zae],Nat.le_refl _,by simp [List.take_of_length_le,zae]⟩) (fun b hb=>by simp [jf] at hb;simp;omega) (by simpa using h32) (by simp) hrun (by simp [st0];omega) (by simp [st0];omega)) ?_
 rintro e w7 ⟨rfl,cf2,hC2,hx7,hcf2,hsub2⟩
 refine⟨(),rfl,w1.heap.size,cf2,rfl,hC2,hx06.own hx7 (fun b hb hlt=>by simp at hb;omega),fun b hb=>⟨?_,hcf2 b hb⟩⟩
 rcases hsub2 b hb with h | h
 ·simp at h;omega
 ·omega
set_option maxHeartbeats 4000000 in
theorem zy9 {w:World}{H:Heap}{cf:List Nat}{c pS:Nat}{st:LSt}{most:Int}(hw:w.heap=H) (hC:zhd H cf c pS st) (hwl:st.want.length<=1000000000) :
  qc P zdv #[.pointer (some ⟨c,0,none⟩),.int .i64 most] w fun e w'=>∃ x,e=.returned (zbv x)/\Mine w'.heap H.size zf 32 x ((zjf most st.want []).flatMap Bl.zbp)/\(∀ k∈zjf most st.want [],k.length=32)/\Ext [] H w'.heap:=by
 obtain⟨xs,xw,g1,_,g3,_,_,_,_,_,g9⟩:=hC
 have hxl:xw.2.1=st.want.length:=by have:=g3.len;rw [ztg] at this;omega
 refine zo5 ?_
 unfold zjt
 simp only [zy,jo,Nat.zero_add]
 generalize hres:zjf most st.want []=res
 refine Go.Fw.joinP_of (fun (s:Option Addr×Nat×Nat) W=>Mine W.heap H.size zf 32 s (res.flatMap Bl.zbp)/\(∀ k∈res,k.length=32)/\Ext [] H W.heap) ?_ ?_
 rotate_left
 ·rintro s W ⟨h1,h2,h3⟩
  exact⟨s,rfl,h1,h2,h3⟩
 refine jg (fun (s:(Option Addr×Nat×Nat)×Int) W=>∃ (i:Nat) (out:List (List UInt8)),s.2=(i:Int)/\i<=st.want.length/\zjf most (st.want.drop i) out=res/\Ext [] H W.heap/\Mine W.heap H.size zf 32 s.1 (out.flatMap Bl.zbp)/\out.length<=i/\∀ k∈out,k.length=32) (fun s _=>(st.want.length-s.2).toNat)
  ⟨0,[],rfl,Nat.zero_le _,hres,by rw [hw];exact .refl _ _,.inl ⟨rfl,rfl⟩,by simp,by simp⟩ ?_
 rintro ⟨o,_⟩ W ⟨i,out,rfl,hi,hrec,hx,hmo,hol,h32⟩
 simp only at hmo
 have ho:o.2.1=out.length:=by have:=hmo.len;rw [zu Bl.zbp Bl.zaf] at this;omega
 refine Go.Fw.joinP_of (fun _ W'=>W'=W/\i < st.want.length/\¬most<=(out.length:Int)) ?_ ?_
 ·refine je (s:=.slc) (t:=xw) rfl (hx.get g1 (by simp)) rfl ?_
  refine zq (fun hlt=>?_) (fun hge=>?_)
  ·have hlt:(i:Int) < (xw.2.1:Int):=hlt
   have hil:i < st.want.length:=by omega
   refine zq (fun hm=>⟨rfl,hil,by have hm:(o.2.1:Int) < most:=hm;omega⟩) (fun hm=>?_)
   have hm:¬(o.2.1:Int) < most:=hm
   rw [List.drop_eq_getElem_cons hil,zjf,if_pos (by omega)] at hrec
   subst hrec
   exact⟨hmo,h32,hx⟩
  ·have hge:¬(i:Int) < (xw.2.1:Int):=hge
   rw [List.drop_eq_nil_of_le (by omega),zjf] at hrec
   subst hrec
   exact⟨hmo,h32,hx⟩
 rintro _ V ⟨hV,hil,hmost⟩
 have hV:=hV.symm
 subst hV
 have hget:=List.getElem?_eq_getElem hil
 have hp:=g9 _ (List.getElem_mem hil)
 rw [List.drop_eq_getElem_cons hil,zjf,if_neg hmost] at hrec
 generalize st.want[i]=p at hget hp hrec
 refine Go.Fw.joinP_of (fun (s:Option Addr×Nat×Nat) W'=>∃ out',zjf most (st.want.drop (i+1)) out'=res/\Ext [] H W'.heap/\Mine W'.heap H.size zf 32 s (out'.flatMap Bl.zbp)/\out'.length<=i+1/\∀ k∈out',k.length=32) ?_ ?_
 rotate_left
 ·rintro s W' ⟨out',k1,k2,k3,k4,k5⟩
  refine jd ((i+1:Nat):Int) (by simp) (by omega) (by omega) ?_
  exact⟨⟨i+1,out',rfl,by omega,k1,k2,k3,k4,k5⟩,by simp only;omega⟩
 have dcell:∀ {G:Heap}{b o:Nat}{cs:Array Value},o+33<=cs.size->(∀ j,j < 33->cs[o+j]?=(zc2 p)[j]?)->cs.extract o (o+32)=(byteCells p.1).toArray:=by
  intro _ _ o cs hsz hcs
  apply Array.ext_getElem?
  intro j
  rw [Array.getElem?_extract]
  by_cases hj:j < 32
  ·rw [if_pos (by omega),hcs j (by omega),zc2,Bl.zba hp,List.getElem?_append_left (by simpa [hp] using hj)]
   simp
  ·rw [if_neg (by omega),Array.getElem?_eq_none (by simp [hp];omega)]
 refine je (s:=.slc) (t:=xw) rfl (hx.get g1 (by simp)) rfl ?_
 refine Bl.zcd (i:=i) zae (by omega) (g3.ext hx (by simp)).cells hxl hget rfl fun ba oa ca Ta fra _ hba hsa hca _=>?_
 refine zf9 rfl hba (by omega) ?_
 rw [dcell (G:=H) (b:=0) hsa hca]
 refine zk (qfp (c:=o.2.2) (L:=out) rfl hmo.cells ho h32 hp (by omega)) ?_
 rintro e w4 ⟨rfl,hx4⟩
 refine⟨_,rfl,?_⟩
 by_cases hin:p.1∈out
 ·refine jm (by simp [hin]) ?_
  rw [if_pos hin] at hrec
  exact⟨out,hrec,hx.trans hx4,hmo.ext hx4 (by simp),by omega,h32⟩
 ·refine zah (by simp [hin]) ?_
  rw [if_neg hin] at hrec
  have hx04:=hx.trans hx4
  refine je (s:=.slc) (t:=xw) rfl (hx04.get g1 (by simp)) rfl ?_
  refine Bl.zcd (i:=i) zae (by omega) (g3.ext hx04 (by simp)).cells hxl hget rfl fun ba oa ca Ta fra _ hba hsa hca _=>?_
  refine zf9 rfl hba (by omega) ?_
  rw [dcell (G:=H) (b:=0) hsa hca]
  refine zyo rfl (hmo.ext hx4 (by simp)) hx04.1 hp (by omega) fun x' w5 hm5 hx5 hs5=>?_
  refine⟨out++[p.1],hrec,hx04.own hx5 (fun b hb hlt=>by have:=xu hmo b hb;omega),hm5,by simp;omega,fun k hk=>?_⟩
  rcases List.mem_append.1 hk with h | h
  ·exact h32 k h
  ·rw [List.mem_singleton.1 h];exact hp
inductive Mets (v:List UInt8->Option (List UInt8)) (n:Nod):List Pr->LSt->LSt->Prop
 | nil {s:LSt}:Mets v n [] s s
 | kid {N:Nat}{p:Pr}{ps:List Pr}{s t u:LSt}:p.2=n.kind->Run (zc0 v) N (zhf n) s t 0->Mets v n ps t u->Mets v n (p :: ps) s u
 | foul {p:Pr}{ps:List Pr}{s u:LSt}:p.2≠n.kind->Mets v n ps ⟨s.seen,s.want,true⟩ u->Mets v n (p :: ps) s u
inductive OfferRes (q:Int) (r:Bl.SM) (st:LSt) (L:List UInt8):Int->Bl.SM->LSt->Prop
 | foreign:(∀ p∈st.want,p.1≠Sha.sum L)->OfferRes q r st L 80 r st
 | form:(∃ p∈st.want,p.1=Sha.sum L)->((zcg L).2≠0\/(Sha.sum L,(zcg L).1.kind)∉st.want)->OfferRes q r st L 21 r st
 | full {pc:Int}{r':Bl.SM}:(∃ p∈st.want,p.1=Sha.sum L)->(zcg L).2=0->(Sha.sum L,(zcg L).1.kind)∈st.want->Bl.zkn q r [L] pc r'->pc≠0->OfferRes q r st L pc r' st
 | ok {r':Bl.SM}{st':LSt}:(∃ p∈st.want,p.1=Sha.sum L)->(zcg L).2=0->(Sha.sum L,(zcg L).1.kind)∈st.want->Bl.zkn q r [L] 0 r' ->
   Mets (Bl.zaa r') (zcg L).1 (st.want.filter fun p=>decide (p.1=Sha.sum L)) ⟨st.seen,st.want.filter fun p=>decide (p.1≠Sha.sum L),st.foul⟩ st'->OfferRes q r st L 0 r' st'
theorem zzv {α:Type} [DecidableEq α]:∀ {A B:List α},A.Nodup->(∀ x∈A,x∈B)->A.length<=B.length
 | [],B,_,_=>by simp
 | a :: A,B,hn,hs=>by
  obtain⟨h1,h2⟩:=List.nodup_cons.1 hn
  have ha:=hs a (by simp)
  have h3:=zzv (A:=A) (B:=B.erase a) h2 fun x hx=>(List.mem_erase_of_ne (by rintro rfl;exact h1 hx)).2 (hs x (by simp [hx]))
  have h4:=List.length_erase_of_mem ha
  have h5:=List.length_pos_of_mem ha
  simp only [List.length_cons];omega
theorem z2k {q:Int}{r r':Bl.SM}{c c':Nat}{L:List UInt8}{code:Int}(hr:MOk (fun L:List UInt8=>L.length=32) r c) (hr':MOk (fun L:List UInt8=>L.length=32) r' c') (h:Bl.zkn q r [L] code r'):r'.length<=r.length+1:=by
 obtain⟨h1,h2,h3⟩:=h
 by_cases hl:Bl.long [L]
 ·rw [(h1 hl).2];omega
 by_cases hq:q < (Bl.total r:Int)+Bl.extra r (Bl.fresh [L])
 ·rw [(h2 hl hq).2];omega
 have hv:=(h3 hl hq).2
 have key:∀ k∈r'.map (·.1),k∈r.map (·.1)++[Sha.sum L]:=by
  intro k hk
  obtain⟨x,hx,rfl⟩:=List.mem_map.1 hk
  have hg:zbx r' x.1=some x.2.1:=zev hr'.keys (c:=x.2.2) hx
  have hv':Bl.zaa r' x.1=some x.2.1.2:=by unfold Bl.zaa;rw [hg];rfl
  rw [hv] at hv'
  rw [List.mem_append]
  by_cases he:x.1=Sha.sum L
  ·right;simp [he]
  ·left
   have hf:Bl.zoh (Bl.fresh [L]) x.1=none:=by
    rw [Bl.zmz]
    have:(Sha.sum L==x.1)=false:=beq_eq_false_iff_ne.2 fun e=>he e.symm
    simp [Bl.zoh,List.find?_cons,this]
   rw [hf] at hv'
   have hv':Bl.zaa r x.1=some x.2.1.2:=hv'
   unfold Bl.zaa at hv'
   cases hm:zbx r x.1 with
   | none=>rw [hm] at hv';cases hv'
   | some y=>
    obtain⟨c,hc⟩:=zct hm
    exact List.mem_map.2 ⟨_,hc,rfl⟩
 have:=zzv hr'.keys key
 simpa using this
theorem z8f {st:LSt}{f:Pr->Bool}{b:Bool}(h:Wf st):Wf ⟨st.seen,st.want.filter f,b⟩:=
 ⟨h.nd.sublist List.filter_sublist,fun p hp=>h.sub p (List.mem_filter.1 hp).1⟩
theorem qhz {w:World}{H:Heap}{B:Nat}{x:Option Addr×Nat×Nat}{L:List Pr}{p:Pr}(hp:p.1.length=32) (hw:w.heap=H) (hm:Mine H B zo 33 x (L.flatMap zc2)) (hBs:B<=H.size) (hlen:L.length<=1073741824){K:(Option Addr×Nat×Nat)->World->Prop}
  (hK:∀ x' w',Mine w'.heap B zo 33 x' ((L++[p]).flatMap zc2)->Ext (jf x) H w'.heap->(∀ c∈jf x',c∈jf x\/H.size<=c)->K x' w') :
  zas P (Instr.buildSlice vk 1 #[(0,prV p)]) .slc w fun (t27:(Option Addr×Nat×Nat)) w_13=>
  zas P (Builtin.append_ #[vk,vk] vk #[(Value.slice x.1 x.2.1 x.2.2),(Value.slice t27.1 t27.2.1 t27.2.2)]) .slc w_13 K:=by
 have hlx:x.2.1=L.length:=by have:=hm.len;rw [ztg] at this;omega
 rw [zug hp]
 refine zam (s:=.slc) (some ⟨w.heap.size,0,none⟩,1,1) _ (zd7 Ec8 uSc (v:=.agg (zc2 p).toArray) (by simp [Value.cells,zae]) (by omega) (by omega)) ?_
 subst hw
 have hxp:Ext [] w.heap (w.heap.push (.cells (Value.agg (zc2 p).toArray).cells zo)):=.push _
 refine zch (bts:=40) (n:=1) (us:=zc2 p) (H:=w.heap.push (.cells (Value.agg (zc2 p).toArray).cells zo)) Ec8 (by omega) uSc (zbf uSc) rfl (hm.ext hxp (by simp)) (by simp;omega)
  (Src.slc rfl (.inr ⟨w.heap.size,0,_,_,_,rfl,zn,by simp [zdx],by simp [zdx,List.take_of_length_le]⟩) (by rw [zae])) zgx (by omega) ?_
 intro x' w4 hm4 hl4 hx4 hs4
 refine hK x' w4 (by rw [List.flatMap_append,List.flatMap_singleton];exact hm4) ((hxp.mono (by simp)).trans hx4) (fun c hc=>?_)
 rcases hs4 c hc with h | h
 ·exact .inl h
 ·right;have:=hxp.1;omega
set_option maxHeartbeats 16000000 in
theorem z3h {fp cf:List Nat}{pS:Nat}{q:Int}{r:Bl.SM}{k c:Nat}{st:LSt}{w:World}{H:Heap}{a:Option Addr}{l lc:Nat}{L:List UInt8}(hw:w.heap=H) (hC:zh7 H cf c pS st) (hWf:Wf st) (hcf:∀ b∈cf,b < H.size) (hS:Bl.Store H fp pS q r k) (hfp:∀ b∈fp,b < H.size/\b∉cf) (hR:Bl.Rounds H) (h0:0∉cf) (h0':0∉fp)
  (hL:Cells H a (byteCells L)) (hl:l=L.length) (hlc:l<=lc) (hao:L≠[]->∀ y,a=some y->y.block∉fp) (hLb:L.length<=1099511627776) (hb:Bl.total r+4096 < 1000000000000) (hq:0<=q) (hq2:q<=9223372036854775807) (hwl:st.want.length+70000+70001 * (r.length+1)<=1000000000) :
  qc P zb5 #[.pointer (some ⟨c,0,none⟩),.slice a l lc] w fun e w'=>∃ code r' st' k' fp' cf',e=.returned (.int .i64 code)/\OfferRes q r st L code r' st'/\zh7 w'.heap cf' c pS st'/\Wf st'/\st'.want.length<=st.want.length+70000+70001 * (r.length+1)/\Bl.Store w'.heap fp' pS q r' k'/\Ext (fp++cf) H w'.heap /\
   (∀ b∈cf',b < w'.heap.size/\(b∈cf\/H.size<=b))/\(∀ b∈fp',b < w'.heap.size/\b∉cf'/\(b∈fp\/H.size<=b))/\Bl.total r'<=Bl.total r+4096/\r'.length<=r.length+1:=by
 have hlen:Bl.Small r:=fun k L hv=>by have:=zx7 hS.ok hv;omega
 refine zl8 ?_
 unfold zh0
 refine jm rfl ?_
 refine zk (Bl.z7t hw hL hl hlc hR (by omega)) ?_
 rintro e w1 ⟨rfl,hx1⟩
 refine⟨arr (Sha.sum L),rfl,?_⟩
 generalize hd:Sha.sum L=d at *
 have hd32:d.length=32:=by rw [<-hd];exact zad
 refine qei hd32 rfl fun w3 hw3=>?_
 have hx3:Ext [] w1.heap w3.heap:=by rw [hw3];exact .push _
 have hb3:w3.heap[w1.heap.size]?=some (.cells (byteCells d).toArray zf (0,0)):=by rw [hw3];exact zn
 have hx03:=hx1.trans hx3
 generalize hb5:w1.heap.size=b5 at *
 have hb5H:H.size<=b5:=by rw [<-hb5];exact hx1.1
 have s3:=lt_of_get hb3
 refine qp (s:=.any) (qak b5) (by simp [Instr.makeFunc,qak];rfl) ?_
 have hC3:=hC.ext hx03 (by simp)
 obtain⟨m,clk,lm,x,g1,g2,g3,g4,g5,g6,g7,g8,g9⟩:=id hC3
 have hxl:x.2.1=st.want.length:=by have:=g5.len;rw [ztg] at this;omega
 simp only [zy,jo,Nat.zero_add]
 refine je (s:=.slc) (t:=x) rfl g1 rfl ?_
 refine zk (z3s (L:=st.want) rfl g5.cells hxl (by omega) g9 hb3 hd32) ?_
 rintro e w4 ⟨t,rfl,ht,hx4⟩
 refine⟨t,rfl,?_⟩
 have hx04:=hx03.trans hx4
 have s4:=hx4.1
 have same:∀ {w':World}{code:Int},Ext [] H w'.heap->OfferRes q r st L code r st->∃ code' r' st' k' fp' cf',Ending.returned (.int .i64 code)=.returned (.int .i64 code')/\OfferRes q r st L code' r' st'/\zh7 w'.heap cf' c pS st'/\Wf st'/\st'.want.length<=st.want.length+70000+70001 * (r.length+1)/\Bl.Store w'.heap fp' pS q r' k'/\Ext (fp++cf) H w'.heap /\
   (∀ b∈cf',b < w'.heap.size/\(b∈cf\/H.size<=b))/\(∀ b∈fp',b < w'.heap.size/\b∉cf'/\(b∈fp\/H.size<=b))/\Bl.total r'<=Bl.total r+4096/\r'.length<=r.length+1:=fun hx hres=>
  ⟨_,r,st,k,fp,cf,rfl,hres,hC.ext hx (by simp),hWf,by omega,hS.ext hx (by simp),hx.mono (by simp),fun b hb=>⟨by have:=hcf b hb;have:=hx.1;omega,.inl hb⟩,fun b hb=>⟨by have:=(hfp b hb).1;have:=hx.1;omega,(hfp b hb).2,.inl hb⟩,by omega,by omega⟩
 cases t with
 | false=>
  refine zah rfl (same hx04 (.foreign fun p hp e=>?_))
  have:=ht.2 ⟨p,hp,by rw [e,hd]⟩
  cases this
 | true=>
 have hex:=ht.1 rfl
 refine jm rfl ?_
 refine zk (ztv (L:=L) rfl (hL.ext hx04 (by simp)) hl hLb) ?_
 rintro e w5 ⟨xp,xi,rfl,hN5,hx5⟩
 refine⟨(.agg (zca (zcg L).1 xp xi).toArray,(zcg L).2),rfl,?_⟩
 refine z8c (zcg L).1 xp xi rfl fun w7 hw7=>?_
 have hx7:Ext [] w5.heap w7.heap:=by rw [hw7];exact .push _
 have hn7:w7.heap[w5.heap.size]?=some (.cells (zca (zcg L).1 xp xi).toArray zh (0,0)):=by rw [hw7];exact zn
 generalize hb7:w5.heap.size=b7 at *
 have hx47:=hx5.trans hx7
 have hx37:=hx4.trans hx47
 have hx07:=hx03.trans hx37
 have s7:=lt_of_get hn7
 have hb57:b5 < b7:=by rw [<-hb7];have:=hx4.1;have:=hx5.1;omega
 have hexd:∃ p∈st.want,p.1=Sha.sum L:=by rw [hd];exact hex
 refine Go.Fw.joinP_of (fun _ W=>Ext [] w7.heap W.heap/\(zcg L).2=0/\(d,(zcg L).1.kind)∈st.want) ?_ ?_
 ·refine jl rfl fun w8 hw8=>?_
  have hx8:Ext [] w7.heap w8.heap:=by rw [hw8];exact .refl _ _
  refine zay (fun h=>same (hx07.trans hx8) (.form hexd (.inl h))) (fun h=>?_)
  have hx38:=hx37.trans hx8
  refine je (s:=.slc) (t:=x) rfl (hx38.get g1 (by simp)) rfl ?_
  refine qx rfl (hx38.get hb3 (by simp)) (by simp [hd32]) ?_
  refine je (s:=.int .i64) (t:=(zcg L).1.kind) rfl (hx8.get hn7 (by simp)) rfl ?_
  refine qp (s:=.any) _ (bPr hd32 _ _) ?_
  refine zk (z2l (L:=st.want) (p:=(d,(zcg L).1.kind)) rfl (g5.ext hx38 (by simp)).cells hxl (by omega) g9 hd32) ?_
  rintro e w9 ⟨rfl,hx9⟩
  refine⟨decide ((d,(zcg L).1.kind)∈st.want),rfl,?_⟩
  by_cases hin:(d,(zcg L).1.kind)∈st.want
  ·exact jm (by simp [hin]) ⟨hx8.trans hx9,h,hin⟩
  ·exact zah (by simp [hin]) (same ((hx07.trans hx8).trans hx9) (.form hexd (.inr (by rw [hd];exact hin))))
 rintro _ W ⟨hxW,hdec,hin⟩
 have hind:(Sha.sum L,(zcg L).1.kind)∈st.want:=by rw [hd];exact hin
 have hx0W:=hx07.trans hxW
 have hx3W:=hx37.trans hxW
 have hCW:=hC.ext hx0W (by simp)
 have sW:=hx0W.1
 have s7W:=hxW.1
 refine je (s:=.ptr) (t:=some ⟨pS,0,none⟩) rfl (hx3W.get g1 (by simp)) rfl ?_
 refine zk (Bl.qga (L:=L) rfl (hS.ext hx0W (by simp)) (fun b hb=>by have:=(hfp b hb).1;omega) (hR.ext hx0W (by simp)) h0' (hL.ext hx0W (by simp)) hl hlc hao (by omega) hq hq2 hlen) ?_
 rintro e w11 ⟨pc,r',k',fp',rfl,hS11,hx11,hf11a,hf11b,hP,ht11⟩
 refine⟨(arr (if pc=0 then Sha.sum L else Bl.nought),pc),rfl,?_⟩
 have hrl:=z2k hS.ok hS11.ok hP
 have s11:=hx11.1
 have hC11:=hCW.ext hx11 (fun b hb h=>(hfp b h).2 hb)
 have hx011:Ext fp H w11.heap:=(hx0W.mono (by simp)).trans hx11
 have fplt:∀ {b:Nat},H.size<=b->b∉fp:=fun h hb=>by have:=(hfp _ hb).1;omega
 refine qei (k:=if pc=0 then Sha.sum L else Bl.nought) (by split;exact zad;exact Bl.za4) rfl fun w13 hw13=>?_
 have hx13:Ext [] w11.heap w13.heap:=by rw [hw13];exact .push _
 have s13:=hx13.1
 have hC13:=hC11.ext hx13 (by simp)
 have hS13:=hS11.ext hx13 (by simp)
 have hx013:Ext fp H w13.heap:=hx011.trans (hx13.mono (by simp))
 have hcf13:∀ b∈cf,b < w13.heap.size:=fun b hb=>by have:=hcf b hb;omega
 have hfp13:∀ b∈fp',b < w13.heap.size/\b∉cf/\(b∈fp\/H.size<=b):=fun b hb=>⟨by have:=hf11a b hb;omega,fun h=>by
   rcases hf11b b hb with h' | h'
   ·exact (hfp b h').2 h
   ·have:=hcf b h;omega,by
   rcases hf11b b hb with h' | h'
   ·exact .inl h'
   ·right;omega⟩
 refine zay (fun hpc=>?_) (fun hpc=>?_)
 ·have hpc:pc≠0:=hpc
  refine⟨pc,r',st,k',fp',cf,rfl,.full hexd hdec hind hP hpc,hC13,hWf,by omega,hS13,hx013.mono fun b hb=>by simp [hb],fun b hb=>⟨hcf13 b hb,.inl hb⟩,hfp13,ht11,hrl⟩
 have hpc:pc=0:=hpc
 subst hpc
 obtain⟨m2,clk2,lm2,x2,k1,k2,k3,k4,k5,k6,k7,k8,k9⟩:=id hC13
 have hx2l:x2.2.1=st.want.length:=by have:=k5.len;rw [ztg] at this;omega
 have hb13:w13.heap[b5]?=some (.cells (byteCells d).toArray zf (0,0)):=hx13.get (hx11.get (hx3W.get hb3 (by simp)) (fplt hb5H)) (by simp)
 have hb5cf:b5∉cf:=fun h=>by have:=hcf _ h;omega
 have hn13:w13.heap[b7]?=some (.cells (zca (zcg L).1 xp xi).toArray zh (0,0)):=hx13.get (hx11.get (hxW.get hn7 (by simp)) (fplt (by omega))) (by simp)
 have hb7cf:b7∉cf:=fun h=>by have:=hcf _ h;omega
 refine je (s:=.slc) (t:=x2) rfl k1 rfl ?_
 refine jg (fun (s:(Option Addr×Nat×Nat)×Int) W=>∃ i:Nat,s.2=(i:Int)/\i<=st.want.length/\Ext [] w13.heap W.heap/\Mine W.heap w13.heap.size zo 33 s.1 (((st.want.take i).filter fun p=>decide (p.1=d)).flatMap zc2)) (fun s _=>(st.want.length-s.2).toNat)
  ⟨0,rfl,Nat.zero_le _,.refl _ _,.inl ⟨rfl,rfl⟩⟩ ?_
 rintro ⟨o,_⟩ W2 ⟨i,rfl,hi,hxW2,hmo⟩
 simp only at hmo
 have sW2:=hxW2.1
 refine zq (fun hlt=>?_) (fun hge=>?_)
 ·have hil:i < st.want.length:=by simp only at hlt;omega
  have hget:=List.getElem?_eq_getElem hil
  have hp:=g9 _ (List.getElem_mem hil)
  have htk:(st.want.take (i+1)).filter (fun p=>decide (p.1=d))=(st.want.take i).filter (fun p=>decide (p.1=d))++[st.want[i]].filter (fun p=>decide (p.1=d)):=by rw [List.take_add_one,hget,List.filter_append];rfl
  generalize st.want[i]=p at hget hp htk
  refine Go.Fw.joinP_of (fun (s:Option Addr×Nat×Nat) W'=>Ext [] w13.heap W'.heap/\Mine W'.heap w13.heap.size zo 33 s (((st.want.take (i+1)).filter fun p=>decide (p.1=d)).flatMap zc2)) ?_ ?_
  rotate_left
  ·rintro s W' ⟨u1,u2⟩
   refine jd ((i+1:Nat):Int) (by simp) (by omega) (by omega) ?_
   exact⟨⟨i+1,rfl,by omega,u1,u2⟩,by simp only;omega⟩
  refine zce (i:=i) zae (by omega) rfl ((k5.ext hxW2 (by simp)).cells) hx2l hget rfl ?_
  refine zui (v:=.agg (zc2 p).toArray) (by rw [show P.cellsOf zo=33 by kernel_rfl];simp [Value.cells,zae]) (by rw [show (zc P zo).size=33 by kernel_rfl];simp [Value.cells,zae]) (by simp [Value.cells,zae]) (by simpa [Value.cells] using zgx) rfl fun w15 hw15=>?_
  have hx15:Ext [] W2.heap w15.heap:=by rw [hw15];exact .push _
  have hb15:w15.heap[W2.heap.size]?=some (.cells (zc2 p).toArray zo (0,0)):=by rw [hw15];exact zn
  refine qx rfl hb15 (by simp [zae]) ?_
  rw [show (Value.agg (zc2 p).toArray)=prV p from (zug hp).symm]
  refine zho (args:=#[prV p]) (cap:=#[.pointer (some ⟨b5,0,none⟩)]) ?_
  refine (zyc (hx15.get (hxW2.get hb13 (by simp)) (by simp)) hd32 hp).mono ?_
  rintro e w17 ⟨rfl,hx17⟩
  refine⟨decide (p.1=d),rfl,?_⟩
  have hx217:=hxW2.trans (hx15.trans hx17)
  have hm17:=hmo.ext (hx15.trans hx17) (by simp)
  by_cases he:p.1=d
  ·refine zah (by simp [he]) ?_
   refine qx rfl (hx17.get hb15 (by simp)) (by simp [zae]) ?_
   rw [show (Value.agg (zc2 p).toArray)=prV p from (zug hp).symm]
   refine qhz (p:=p) hp rfl hm17 hx217.1 (by have:=List.length_filter_le (fun p:Pr=>decide (p.1=d)) (st.want.take i);simp at this;omega) fun x' w' hm' hx' _=>?_
   exact⟨hx217.own hx' (fun b hb hlt=>by have:=xu hmo b hb;omega),by rw [htk];simp only [List.filter_cons,he,decide_true,if_true,List.filter_nil];exact hm'⟩
  ·refine jm (by simp [he]) ?_
   exact⟨hx217,by rw [htk];simp only [List.filter_cons,he,decide_false,Bool.false_eq_true,if_false,List.filter_nil,List.append_nil];exact hm17⟩
 obtain rfl:i=st.want.length:=by simp only at hge;omega
 rw [List.take_length] at hmo
 generalize hM:st.want.filter (fun p=>decide (p.1=d))=M at hmo
 have hol:o.2.1=M.length:=by have:=hmo.len;rw [ztg] at this;omega
 have hM32:∀ p∈M,p.1.length=32:=fun p hp=>g9 p (by rw [<-hM] at hp;exact (List.mem_filter.1 hp).1)
 have hMnd:M.Nodup:=by rw [<-hM];exact hWf.nd.sublist List.filter_sublist
 have k1W:=hxW2.get k1 (by simp)
 refine je (s:=.slc) (t:=x2) rfl k1W rfl ?_
 have b5x:b5∉jf x2:=fun h=>hb5cf (k8 _ h)
 refine zk (z9e (L:=st.want) rfl (k5.ext hxW2 (by simp)) (by omega) g9 (hxW2.get hb13 (by simp)) hd32 b5x hex) ?_
 rintro e w21 ⟨x3,rfl,hm21,hx21,hs21⟩
 refine⟨x3,rfl,?_⟩
 have s21:=hx21.1
 have cno:c∉jf x2:=fun h=>by
  obtain⟨cs,fr,hg⟩:=zeb k5 _ h
  rw [k1] at hg;simp only [Option.some.injEq,Obj.cells.injEq] at hg;exact absurd hg.2.1 (by decide)
 have mno:m2∉jf x2:=fun h=>by
  obtain⟨cs,fr,hg⟩:=zeb k5 _ h
  rw [k2] at hg;cases hg
 have k21:=hx21.get k1W cno
 have km21:=hx21.get (hxW2.get k2 (by simp)) mno
 refine za9 rfl k21 (by simp) fun w22 hw22=>?_
 have hx22:Ext [c] w21.heap w22.heap:=by rw [hw22];exact Ext.set _ (by simp)
 have hcm:c≠m2:=by rintro rfl;rw [k1] at k2;cases k2
 have c3no:c∉jf x3:=fun h=>cno (hs21 _ h)
 have hC22:zh7 w22.heap cf c pS ⟨st.seen,st.want.filter (fun p=>decide (p.1≠d)),st.foul⟩:=
  ⟨m2,clk2,lm2,x3,by rw [hw22];exact qg k21,hx22.get km21 (by simp;exact fun h=>hcm h.symm),k3,k4,hm21.ext hx22 (fun b hb h=>by simp at h;subst h;exact c3no hb),k6,k7,fun b hb=>k8 b (hs21 b hb),fun p hp=>g9 p ((List.mem_filter.1 hp).1)⟩
 have s22:=hx22.1
 have hx2122:Ext cf W2.heap w22.heap:=(hx21.mono k8).trans (hx22.mono (by simp;exact k6))
 have hx1322:Ext cf w13.heap w22.heap:=(hxW2.mono (by simp)).trans hx2122
 have hcfW:∀ b∈cf,b < w22.heap.size:=fun b hb=>by have:=hcf13 b hb;omega
 have hmo22:Mine w22.heap w13.heap.size zo 33 o (M.flatMap zc2):=hmo.ext hx2122 (fun b hb h=>by have:=xu hmo b hb;have:=hcf13 b h;omega)
 have hS22:=hS13.ext hx1322 (fun b hb h=>(hfp13 b hb).2.1 h)
 have hn22:=hx1322.get hn13 hb7cf
 have hR22:Bl.Rounds w22.heap:=(hR.ext hx013 h0').ext hx1322 h0
 have hlen':∀ k L,Bl.zaa r' k=some L->L.length < 1099511627776:=fun k L hv=>by have:=zx7 hS11.ok hv;omega
 have hNM:NodW w13.heap (zcg L).1 xp xi:=(((((hN5.ext hx7 (by simp)).ext hxW (by simp)).ext hx11 (fun b hb=>by have:=(hfp b hb).1;omega)).ext hx13 (by simp))).nodW
 have hNM22:NodM w22.heap w4.heap.size (zcg L).1 xp xi:=(((((hN5.ext hx7 (by simp)).ext hxW (by simp)).ext hx11 (fun b hb=>by have:=(hfp b hb).1;omega)).ext hx13 (by simp))).ext hx1322 (fun b hb=>by have:=hcf b hb;omega)
 have hit:(zcg L).1.items.length<=65/\(zcg L).1.parts.length<=65536:=by
  have h1:=zhy (s:=some L)
  unfold zcg
  split
  ·refine⟨h1.2.2,?_⟩
   unfold zao;repeat' split
   all_goals simp [zhp]
   all_goals omega
  ·simp [zd1]
 have hwfl:(st.want.filter fun p=>decide (p.1≠d)).length<=st.want.length:=List.length_filter_le _ _
 have hkl:(zhf (zcg L).1).length<=70000:=by simp [zhf];omega
 have hMl:M.length<=st.want.length:=by rw [<-hM];exact List.length_filter_le _ _
 have hmem:∀ p∈M,p.1=d:=fun p hp=>by
  rw [<-hM] at hp
  simpa using (List.mem_filter.1 hp).2
 obtain⟨K,hK⟩:∃ K,K=70000+70001 * (r.length+1):=⟨_,rfl⟩
 refine jg (fun (s:Int) W=>∃ (i:Nat) (u:LSt) (cf2:List Nat),s=(i:Int)/\i<=M.length/\(∀ z,Mets (Bl.zaa r') (zcg L).1 (M.drop i) u z->Mets (Bl.zaa r') (zcg L).1 M ⟨st.seen,st.want.filter (fun p=>decide (p.1≠d)),st.foul⟩ z)/\zh7 W.heap cf2 c pS u/\Wf u /\
   ((d,(zcg L).1.kind)∈M.drop i->u.want.length<=st.want.length)/\u.want.length<=st.want.length+K/\Ext cf w22.heap W.heap/\(∀ b∈cf2,b < W.heap.size)/\∀ b∈cf2,b∈cf\/w22.heap.size<=b) (fun s _=>(M.length-s).toNat)
  ⟨0,_,cf,rfl,Nat.zero_le _,fun z h=>h,hC22,z8f hWf,fun _=>hwfl,by simp only;omega,.refl _ _,hcfW,fun b hb=>.inl hb⟩ ?_
 rintro _ W3 ⟨i,u,cf2,rfl,hi3,hz,hCu,hWu,hbu1,hbu2,hxW3,hcf2,hsub2⟩
 have sW3:=hxW3.1
 have hfp3:∀ b∈fp',b < W3.heap.size/\b∉cf2:=fun b hb=>⟨by have:=(hfp13 b hb).1;omega,fun h=>by
  rcases hsub2 b h with h | h
  ·exact (hfp13 b hb).2.1 h
  ·have:=(hfp13 b hb).1;omega⟩
 have h03:0∉cf2:=fun h=>by
  rcases hsub2 0 h with h | h
  ·exact h0 h
  ·obtain⟨_,_,_,hg,_⟩:=hR;have:=lt_of_get hg;omega
 refine zq (fun hlt=>?_) (fun hge=>?_)
 ·have hil:i < M.length:=by simp only at hlt;omega
  have hget:=List.getElem?_eq_getElem hil
  have hpm:=List.getElem_mem hil
  have hdropn:M.drop i=M[i] :: M.drop (i+1):=List.drop_eq_getElem_cons hil
  have hnd':M[i]∉M.drop (i+1):=by
   have:=hMnd.sublist (List.drop_sublist i M)
   rw [hdropn] at this
   exact (List.nodup_cons.1 this).1
  rw [hdropn] at hz hbu1
  generalize M[i]=p at hget hpm hz hbu1 hnd' hdropn
  have hp:=hM32 p hpm
  have hpd:=hmem p hpm
  refine Go.Fw.joinP_of (fun _ W'=>∃ (u':LSt) (cf3:List Nat),(∀ z,Mets (Bl.zaa r') (zcg L).1 (M.drop (i+1)) u' z->Mets (Bl.zaa r') (zcg L).1 M ⟨st.seen,st.want.filter (fun p=>decide (p.1≠d)),st.foul⟩ z)/\zh7 W'.heap cf3 c pS u'/\Wf u' /\
   ((d,(zcg L).1.kind)∈M.drop (i+1)->u'.want.length<=st.want.length)/\u'.want.length<=st.want.length+K/\Ext cf w22.heap W'.heap/\(∀ b∈cf3,b < W'.heap.size)/\∀ b∈cf3,b∈cf\/w22.heap.size<=b) ?_ ?_
  rotate_left
  ·rintro _ W' ⟨u',cf3,v1,v2,v3,v4,v5,v6,v7,v8⟩
   refine jd ((i+1:Nat):Int) (by simp) (by omega) (by omega) ?_
   exact⟨⟨i+1,u',cf3,rfl,by omega,v1,v2,v3,v4,v5,v6,v7,v8⟩,by omega⟩
  refine Go.Fw.joinP_of (fun _ W'=>∃ (u':LSt) (cf3:List Nat),(∀ z,Mets (Bl.zaa r') (zcg L).1 (M.drop (i+1)) u' z->Mets (Bl.zaa r') (zcg L).1 M ⟨st.seen,st.want.filter (fun p=>decide (p.1≠d)),st.foul⟩ z)/\zh7 W'.heap cf3 c pS u'/\Wf u' /\
   ((d,(zcg L).1.kind)∈M.drop (i+1)->u'.want.length<=st.want.length)/\u'.want.length<=st.want.length+K/\Ext cf w22.heap W'.heap/\(∀ b∈cf3,b < W'.heap.size)/\∀ b∈cf3,b∈cf\/w22.heap.size<=b) ?_ (fun _ _ h=>h)
  refine zce (i:=i) zae (by omega) rfl ((hmo22.ext hxW3 (fun b hb h=>by have:=xu hmo b hb;have:=hcf13 b h;omega)).cells) hol hget rfl ?_
  refine zui (v:=.agg (zc2 p).toArray) (by rw [show P.cellsOf zo=33 by kernel_rfl];simp [Value.cells,zae]) (by rw [show (zc P zo).size=33 by kernel_rfl];simp [Value.cells,zae]) (by simp [Value.cells,zae]) (by simpa [Value.cells] using zgx) rfl fun w25 hw25=>?_
  have hx25:Ext [] W3.heap w25.heap:=by rw [hw25];exact .push _
  have hb25:w25.heap[W3.heap.size]?=some (.cells (zc2 p).toArray zo (0,0)):=by rw [hw25];exact zn
  have s25:=hx25.1
  have hx2225:Ext cf w22.heap w25.heap:=hxW3.trans (hx25.mono (by simp))
  refine je (s:=.int .i64) (t:=p.2) rfl hb25 (by rw [zka hp];exact zpl hp) ?_
  have hn25:=hx25.get (hxW3.get hn22 hb7cf) (by simp)
  refine je (s:=.int .i64) (t:=(zcg L).1.kind) rfl hn25 rfl ?_
  have hC25:=hCu.ext hx25 (by simp)
  refine zax (fun hk=>?_) (fun hk=>?_)
  ·have hpe:p=(d,(zcg L).1.kind):=Prod.ext hpd hk
   have hbu:=hbu1 (by rw [hpe];simp)
   obtain⟨N,t',c0,hrun,hNb⟩:=zvu r' (zhf (zcg L).1) u
   have hc0:=zul hrun
   subst hc0
   have hun:unseen r' u.seen<=r.length+1:=by
    have:=List.length_filter_le (fun x:List UInt8×_=>decide ((x.1,(zcg x.2.1.2).1.kind)∉u.seen)) r'
    unfold unseen;omega
   have hNK:N<=K:=by
    have:70001 * unseen r' u.seen<=70001 * (r.length+1):=Nat.mul_le_mul_left _ hun
    omega
   have hwant:=zt6 hrun
   refine qx rfl hn25 rfl ?_
   refine zk (qhx hlen' rfl hC25 (fun b hb=>by have:=hcf2 b hb;omega) (hS22.ext hx2225 (fun b hb h=>(hfp13 b hb).2.1 h)) (fun b hb=>⟨by have:=(hfp3 b hb).1;omega,(hfp3 b hb).2⟩) (hR22.ext hx2225 h0) h03 ((hNM22.ext hx2225 (fun b hb=>by have:=hcf b hb;omega)).nodW) hit.2 hit.1 hrun (by omega)) ?_
   rintro e w26 ⟨rfl,cf3,hC26,hx26,hcf3,hsub3⟩
   refine⟨(),rfl,t',cf3,fun z h=>hz z (.kid hk hrun h),hC26,run_wf hrun hWu,fun h=>absurd (by rw [hpe];exact h) hnd',by omega,hx2225.own hx26 (fun b hb hlt=>?_),hcf3,fun b hb=>?_⟩
   ·rcases hsub2 b hb with h | h
    ·exact h
    ·omega
   ·rcases hsub3 b hb with h | h
    ·exact hsub2 b h
    ·right;omega
  ·obtain⟨m4,clk4,lm4,x4,q1,q2,q3,q4,q5,q6,q7,q8,q9⟩:=hC25
   refine za9 rfl q1 (by simp) fun w27 hw27=>?_
   have hx27:Ext [c] w25.heap w27.heap:=by rw [hw27];exact Ext.set _ (by simp)
   have s27:=hx27.1
   have hcm4:c≠m4:=by rintro rfl;rw [q1] at q2;cases q2
   have c4no:c∉jf x4:=fun h=>by
    obtain⟨cs,fr,hg⟩:=zeb q5 _ h
    rw [q1] at hg;simp only [Option.some.injEq,Obj.cells.injEq] at hg;exact absurd hg.2.1 (by decide)
   refine⟨⟨u.seen,u.want,true⟩,cf2,fun z h=>hz z (.foul hk h),⟨m4,clk4,lm4,x4,by rw [hw27];exact qg q1,hx27.get q2 (by simp;exact fun h=>hcm4 h.symm),q3,q4,q5.ext hx27 (fun b hb h=>by simp at h;subst h;exact c4no hb),q6,q7,q8,q9⟩,⟨hWu.nd,hWu.sub⟩,fun h=>hbu1 (List.mem_cons_of_mem _ h),hbu2,hx2225.trans (hx27.mono (by simp;exact g6)),fun b hb=>by have:=hcf2 b hb;omega,hsub2⟩
 ·obtain rfl:i=M.length:=by simp only at hge;omega
  rw [List.drop_length] at hz
  have hmets:=hz u .nil
  refine⟨0,r',u,k',fp',cf2,rfl,.ok hexd hdec hind hP (by rw [hd,hM];exact hmets),hCu,hWu,by omega,hS22.ext hxW3 (fun b hb h=>(hfp13 b hb).2.1 h),?_,fun b hb=>⟨hcf2 b hb,?_⟩,fun b hb=>⟨(hfp3 b hb).1,(hfp3 b hb).2,(hfp13 b hb).2.2⟩,ht11,hrl⟩
  ·exact ((hx013.mono fun b hb=>by simp [hb]).trans (hx1322.mono fun b hb=>by simp [hb])).trans (hxW3.mono fun b hb=>by simp [hb])
  ·rcases hsub2 b hb with h | h
   ·exact .inl h
   ·right;omega
def fU:Fil:=⟨[47,102],false,[104,105]⟩
theorem qkl:zd9 fU.path=([[102]],0):=by decide +kernel
theorem nmU:nm fU=[[102]]:=by unfold nm;rw [qkl]
def LU:List Fil:=[fU]
theorem qjj:zs7 LU=[fU]:=by decide +kernel
theorem qhr:zcw LU=0:=by decide +kernel
theorem qkt:¬z3z LU:=by
 rintro ⟨i,hi,h⟩
 match i,hi with
 | 0,_=>simp [LU,nmU] at h
theorem qkd:¬qce LU:=by
 rintro ⟨f,hf,h1,h2⟩
 simp only [LU,List.mem_cons,List.not_mem_nil,or_false] at hf
 subst hf
 simp [nmU] at h1
theorem qih:¬z0j LU:=by
 rintro ⟨f,hf,g,hg,h1,h2⟩
 simp only [LU,List.mem_cons,List.not_mem_nil,or_false] at hf hg
 subst hf hg
 simp [nmU] at h1
theorem qka:¬qdf LU:=by
 rintro ⟨f,hf,h⟩
 have:(kids LU (nm f).dropLast).length<=1:=List.length_filter_le _ _
 omega
theorem qkn:zj7 LU=0:=by rw [z9j qhr,z8n qkt qkd qih qka]
def nCU:Nod:=zuv [104,105]
def nFU:Nod:=⟨2,[],2,[Sha.sum (zi8 nCU)],[]⟩
def nRU:Nod:=⟨3,[],0,[],[⟨[102],2,Sha.sum (zi8 nFU)⟩]⟩
theorem qgs:zit fU.data=[zi8 nCU,zi8 nFU]/\zj9 fU.data=Sha.sum (zi8 nFU):=⟨rfl,rfl⟩
theorem qim:kids [fU] []=[fU]:=by decide +kernel
theorem qhk:zya LU=([zi8 nCU,zi8 nFU,zi8 nRU],Sha.sum (zi8 nRU)):=by
 rw [zma,qjj]
 rw [show (9:Nat)=8+1 from rfl,zf5,qim,zph,zi7]
 simp only [List.map_cons,List.map_nil,zot,zk5,nmU,show fU.dir=false from rfl,Bool.false_eq_true,if_false,qgs.1,qgs.2,List.flatten_cons,List.flatten_nil,List.append_nil]
 rfl
def bCU:List UInt8:=[1,2,104,105]
def bFU:List UInt8:=[2,2,186,81,103,170,37,105,73,247,1,63,208,174,227,219,246,57,189,176,202,216,218,247,80,137,209,38,248,218,146,140,20,63]
def bRU:List UInt8:=[3,1,1,102,2,88,201,251,13,17,115,155,159,107,201,198,214,238,62,38,149,172,205,218,103,124,157,8,238,7,125,57,221,65,183,132,18]
def dCU:List UInt8:=[186,81,103,170,37,105,73,247,1,63,208,174,227,219,246,57,189,176,202,216,218,247,80,137,209,38,248,218,146,140,20,63]
def dFU:List UInt8:=[88,201,251,13,17,115,155,159,107,201,198,214,238,62,38,149,172,205,218,103,124,157,8,238,7,125,57,221,65,183,132,18]
def dRU:List UInt8:=[20,147,93,158,92,191,194,195,92,236,238,114,183,13,215,171,150,171,144,26,149,70,247,32,216,129,27,76,220,151,79,92]
theorem sCU:Sha.sum bCU=dCU:=by rw [Sha.sum_eq];kernel_rfl
theorem sFU:Sha.sum bFU=dFU:=by rw [Sha.sum_eq];kernel_rfl
theorem sRU:Sha.sum bRU=dRU:=by rw [Sha.sum_eq];kernel_rfl
theorem eCU:zi8 nCU=bCU:=by kernel_rfl
theorem eFU:zi8 nFU=bFU:=by
 rw [show nFU=⟨2,[],2,[dCU],[]⟩ from by unfold nFU;rw [eCU,sCU]];kernel_rfl
theorem eRU:zi8 nRU=bRU:=by
 rw [show nRU=⟨3,[],0,[],[⟨[102],2,dFU⟩]⟩ from by unfold nRU;rw [eFU,sFU]];kernel_rfl
theorem qi3:zya LU=([bCU,bFU,bRU],dRU):=by rw [qhk,eCU,eFU,eRU,sRU]
theorem vCU:zcg bCU=(⟨1,[104,105],0,[],[]⟩,0):=by kernel_rfl
theorem vFU:zcg bFU=(⟨2,[],2,[dCU],[]⟩,0):=by kernel_rfl
theorem vRU:zcg bRU=(⟨3,[],0,[],[⟨[102],2,dFU⟩]⟩,0):=by kernel_rfl
theorem qee:Bl.fresh [bCU,bFU,bRU]=[(dCU,bCU),(dFU,bFU),(dRU,bRU)]:=by
 have h1:(Bl.zoh [] dCU).isSome=false:=by decide +kernel
 have h2:(Bl.zoh [(dCU,bCU)] dFU).isSome=false:=by decide +kernel
 have h3:(Bl.zoh [(dCU,bCU),(dFU,bFU)] dRU).isSome=false:=by decide +kernel
 simp only [Bl.fresh,List.foldl_cons,List.foldl_nil,Bl.zrf,sCU,sFU,sRU,h1,h2,h3,Bool.false_eq_true,if_false,List.nil_append,List.cons_append]
theorem qja {code:Int}{r':Bl.SM}(h:Bl.zkn 65536 [] [bCU,bFU,bRU] code r'):code=0/\∀ k,Bl.zaa r' k=if k=dCU then some bCU else if k=dFU then some bFU else if k=dRU then some bRU else none:=by
 obtain⟨_,_,h3⟩:=h
 have hl:¬Bl.long [bCU,bFU,bRU]:=by
  rintro ⟨L,hL,h⟩
  simp only [List.mem_cons,List.not_mem_nil,or_false] at hL
  rcases hL with rfl | rfl | rfl <;> revert h <;> decide +kernel
 have hx:¬(65536:Int) < ((Bl.total []:Nat):Int)+((Bl.extra [] (Bl.fresh [bCU,bFU,bRU]):Nat):Int):=by
  rw [qee];decide +kernel
 obtain⟨h0,hv⟩:=h3 hl hx
 rw [qee] at hv
 refine⟨h0,fun k=>?_⟩
 rw [hv]
 by_cases k1:k=dCU
 ·subst k1;decide +kernel
 ·by_cases k2:k=dFU
  ·subst k2;decide +kernel
  ·by_cases k3:k=dRU
   ·subst k3;decide +kernel
   ·have g1:(dCU==k)=false:=beq_eq_false_iff_ne.2 fun e=>k1 e.symm
    have g2:(dFU==k)=false:=beq_eq_false_iff_ne.2 fun e=>k2 e.symm
    have g3:(dRU==k)=false:=beq_eq_false_iff_ne.2 fun e=>k3 e.symm
    simp [Bl.zoh,List.find?_cons,g1,g2,g3,k1,k2,k3,Bl.zv3,Bl.zaa,zbx]
theorem qi9:dFU≠dCU:=by decide +kernel
theorem qjt:dRU≠dCU:=by decide +kernel
theorem qi7:dRU≠dFU:=by decide +kernel
theorem znx.tail {H:Heap}{x:Option Addr×Nat×Nat}{p:Path×Itm}{ps:List (Path×Itm)}(h:znx H x (p :: ps)):∃ x',(∀ w,(Instr.sliceAt zsj (.slice x.1 x.2.1 x.2.2) (some (.int .i64 1)) none none).run P w=.ok (zbv x') w)/\znx H x' ps:=by
 obtain⟨ys,h1,h2,h3,h4,h5,h6⟩:=h
 cases ys with
 | nil=>simp at h4
 | cons y ys=>
  simp only [List.map_cons,List.cons.injEq] at h4
  simp only [List.length_cons] at h2
  refine⟨(if x.2.2=1 then x.1 else x.1.map (·.add (1 * 35)),x.2.1-1,x.2.2-1),fun w=>za1 (a:=x.1) (len:=x.2.1) (cap:=x.2.2) (l:=1) (h:=x.2.1) uSQ szQ (.yes (k:=.i64) (i:=(1:Int)) rfl) .no (by omega) h3,ys,?_,by show x.2.1-1=_;omega,by show x.2.1-1<=x.2.2-1;omega,h4.2,fun z hz=>h5 z (by simp [hz]),fun _ c hc=>h6 (by simp) c ?_⟩
  ·by_cases hc:x.2.2=1
   ·have:ys=[]:=List.eq_nil_of_length_eq_zero (by omega)
    subst this
    exact .inl rfl
   ·simp only [if_neg hc]
    have:=h1.part 35 (ys.length * 35) (by rw [qeo];simp;omega)
    rw [List.flatMap_cons,List.drop_left' (by rw [z3y]),List.take_of_length_le (by rw [qeo];omega)] at this
    exact this
  ·by_cases hc':x.2.2=1
   ·simpa [jf,hc'] using hc
   ·simp only [jf,if_neg hc'] at hc |-
    cases hx:x.1 with
    | none=>rw [hx] at hc;simp at hc
    | some a=>rw [hx] at hc;simpa [Addr.add] using hc
end Go.Proofs.YtbmegmbnlajbbaaGreatDoor
namespace Go.Proofs.YtbmegmbnlajbbaaGreatDoor
open Go Go.Fw Go.Proofs Go.Sort
theorem qi0 (s d:ByteArray) (w:World):(Instr.build zbd #[(0,.string s),(2,.string d)]).run P w=.ok (.agg #[.string s,.bool false,.string d]) w:=by kernel_rfl
end Go.Proofs.YtbmegmbnlajbbaaGreatDoor
namespace Go.Proofs.YtbmegmbnlajbbaaGreatDoor
open Go Go.Fw Go.Proofs Go.Sort
theorem qk0 (f:Fil) (w:World):(Instr.buildSlice zss 1 #[(0,.agg (zsx f).toArray)]).run P w=.ok (.slice (some ⟨w.heap.size,0,none⟩) 1 1) { w with heap:=w.heap.push (.cells ([f].flatMap zsx).toArray zbd) }:=by kernel_rfl
theorem stage {q:Int}{r r':Bl.SM}{seen:List Pr}{d L:List UInt8}{kd:Int}{n:Nod}{code:Int}{st':LSt}(hd:Sha.sum L=d) (hn:zcg L=(n,0)) (hk:n.kind=kd) (hl:L.length<=4096) (hv:Bl.zaa r d=none) (hq:(Bl.total r:Int)+L.length<=q)
  (h:OfferRes q r ⟨seen,[(d,kd)],false⟩ L code r' st'):code=0/\(∀ k,Bl.zaa r' k=if k=d then some L else Bl.zaa r k)/\∃ N,Run (zc0 (Bl.zaa r')) N (zhf n) ⟨seen,[],false⟩ st' 0:=by
 subst hd hk
 cases h with
 | foreign h=>exact absurd rfl (h _ (List.mem_singleton.2 rfl))
 | form _ h=>
  rw [hn] at h
  rcases h with h | h
  ·exact absurd rfl h
  ·exact absurd (List.mem_singleton.2 rfl) h
 | full _ _ _ hP hpc=>exact absurd (Bl.z8k hP hl hv hq).1 hpc
 | ok _ _ _ hP hm=>
  refine⟨rfl,(Bl.z8k hP hl hv hq).2,?_⟩
  rw [hn] at hm
  simp only [List.filter_cons,List.filter_nil,decide_true,if_true,ne_eq,not_true_eq_false,decide_false,Bool.false_eq_true,if_false] at hm
  cases hm with
  | kid _ hrun hm=>
   cases hm
   exact⟨_,hrun⟩
  | foul hne _=>exact absurd rfl hne
theorem qbf {v:List UInt8->Option (List UInt8)}{N:Nat}{seen:List Pr}{p:Pr}{t:LSt}(h:Run (zc0 v) N [p] ⟨seen,[],false⟩ t 0) (hs:p∉seen) (hv:v p.1=none):t=⟨seen++[p],[p],false⟩:=by
 rcases h.cons_c with⟨h,_⟩ | ⟨n,_,_,h⟩
 ·exact absurd rfl h
 have hg:Bl.got (v p.1) p.1≠0:=by rw [hv];simp [Bl.got]
 have hst:zc0 v ⟨seen,[],false⟩ p=(⟨seen++[p],[]++[p],false⟩,[],0):=by unfold zc0;rw [if_neg hs,if_pos hg]
 rw [hst] at h
 exact h.nil_c.2.1
def dgU:Nat->List UInt8 | 0=>dRU | 1=>dFU | _=>dCU
def blU:Nat->List UInt8 | 0=>bRU | 1=>bFU | _=>bCU
def z0d:Nat->LSt
 | 0=>⟨[(dRU,3)],[(dRU,3)],false⟩
 | 1=>⟨[(dRU,3),(dFU,2)],[(dFU,2)],false⟩
 | 2=>⟨[(dRU,3),(dFU,2),(dCU,1)],[(dCU,1)],false⟩
 | _=>⟨[(dRU,3),(dFU,2),(dCU,1)],[],false⟩
def z1d (k:List UInt8):Nat->Option (List UInt8)
 | 0=>none
 | n+1=>if k=dgU n then some (blU n) else z1d k n
theorem lRU:bRU.length<=100:=by decide +kernel
theorem lFU:bFU.length<=100:=by decide +kernel
theorem lCU:bCU.length<=100:=by decide +kernel
theorem qii {i:Nat}(hi:i < 3){r r':Bl.SM}{code:Int}{st':LSt}(hv:∀ k,Bl.zaa r k=z1d k i) (ht:Bl.total r<=4096 * i) (h:OfferRes 65536 r (z0d i) (blU i) code r' st'):code=0/\st'=z0d (i+1)/\∀ k,Bl.zaa r' k=z1d k (i+1):=by
 match i,hi with
 | 0,_=>
  obtain⟨h1,h2,N,h3⟩:=stage (d:=dRU) (kd:=3) sRU vRU rfl (by decide +kernel) (by rw [hv];rfl) (by have:=lRU;omega) h
  refine⟨h1,?_,fun k=>by rw [h2,hv];rfl⟩
  have hk:zhf (⟨3,[],0,[],[⟨[102],2,dFU⟩]⟩:Nod)=[((dFU,2):Pr)]:=rfl
  rw [hk] at h3
  exact qbf h3 (by simp) (by rw [h2,hv,if_neg (fun e=>qi7 e.symm)];rfl)
 | 1,_=>
  obtain⟨h1,h2,N,h3⟩:=stage (d:=dFU) (kd:=2) sFU vFU rfl (by decide +kernel) (by rw [hv];simp only [z1d,dgU];rw [if_neg (fun e=>qi7 e.symm)]) (by have:=lFU;omega) h
  refine⟨h1,?_,fun k=>by rw [h2,hv];rfl⟩
  have hk:zhf (⟨2,[],2,[dCU],[]⟩:Nod)=[((dCU,1):Pr)]:=rfl
  rw [hk] at h3
  exact qbf h3 (by simp) (by rw [h2,hv,if_neg (fun e=>qi9 e.symm)];simp only [z1d,dgU];rw [if_neg (fun e=>qjt e.symm)])
 | 2,_=>
  obtain⟨h1,h2,N,h3⟩:=stage (d:=dCU) (kd:=1) sCU vCU rfl (by decide +kernel) (by rw [hv];simp only [z1d,dgU];rw [if_neg (fun e=>qi9 e.symm),if_neg (fun e=>qjt e.symm)]) (by have:=lCU;omega) h
  refine⟨h1,?_,fun k=>by rw [h2,hv];rfl⟩
  have hk:zhf (⟨1,[104,105],0,[],[]⟩:Nod)=([]:List Pr):=rfl
  rw [hk] at h3
  exact h3.nil_c.2.1
def dX1:List UInt8:=[45,113,22,66,183,38,176,68,1,98,124,169,251,172,50,245,200,83,15,177,144,60,196,219,2,37,135,23,146,26,72,129]
theorem sX1:Sha.sum [120]=dX1:=by rw [Sha.sum_eq];kernel_rfl
theorem qin:dX1≠dRU:=by decide +kernel
theorem qkf (w:World):(Instr.buildSlice zi 1 #[(0,(Value.int .u8 120))]).run P w=.ok (.slice (some ⟨w.heap.size,0,none⟩) 1 1) { w with heap:=w.heap.push (.cells (byteCells [120]).toArray xg) }:=by kernel_rfl
theorem qk5 {w:World}{H:Heap}(hw:w.heap=H){K:(Option Addr×Nat×Nat)->World->Prop}
  (hK:∀ w',Cells w'.heap (some ⟨H.size,0,none⟩) (byteCells [120])->Ext [] H w'.heap->H.size < w'.heap.size->K (some ⟨H.size,0,none⟩,1,1) w') :
  zas P (Instr.buildSlice zi 1 #[(0,(Value.int .u8 120))]) .slc w fun t w1=>zas P (convert zi zi (.slice t.1 t.2.1 t.2.2)) .slc w1 K:=by
 subst hw
 refine zam (s:=.slc) (some ⟨w.heap.size,0,none⟩,1,1) _ (qkf w) ?_
 obtain⟨w',h1,hcm,h2⟩:=qgp (P:=P) (w:={ w with heap:=w.heap.push (.cells (byteCells [120]).toArray xg) }) (l:=1) (c:=1) (o:=0) uS8 u8 rfl zn
 refine zam (s:=.slc) (some ⟨w.heap.size,0,none⟩,1,1) w' h1 ?_ hcm
 refine hK w' ?_ (by rw [h2];exact (Ext.push _).set_own (.inl (Nat.le_refl _))) (by rw [h2];simp)
 rw [h2]
 exact .inr ⟨w.heap.size,0,_,_,_,rfl,qg zn,by simp [byteCells],by simp [byteCells]⟩
theorem qjl {i:Nat}(hi:i < 3):zjf 9 (z0d i).want []=[dgU i]:=by
 match i,hi with
 | 0,_=>rfl
 | 1,_=>rfl
 | 2,_=>rfl
theorem qd1 {i:Nat}:(dgU i).length=32:=by
 match i with
 | 0=>exact by decide +kernel
 | 1=>exact by decide +kernel
 | _+2=>exact (show dCU.length=32 by decide +kernel)
theorem z5s {i:Nat}:(z0d i).want.length<=1:=by
 match i with
 | 0=>exact Nat.le_refl _
 | 1=>exact Nat.le_refl _
 | 2=>exact Nat.le_refl _
 | _+3=>exact Nat.zero_le _
theorem z1j {i:Nat}(hi:i<=3):decide ((z0d i).want=[]/\(z0d i).foul=false)=decide (i=3):=by
 match i,hi with
 | 0,_=>rfl
 | 1,_=>rfl
 | 2,_=>rfl
 | 3,_=>rfl
theorem qes {r:Bl.SM}{i:Nat}(hi:i < 3) (h1:Bl.zaa r dCU=some bCU) (h2:Bl.zaa r dFU=some bFU) (h3:Bl.zaa r dRU=some bRU):Bl.zaa r (dgU i)=some (blU i)/\Bl.got (Bl.zaa r (dgU i)) (dgU i)=0:=by
 match i,hi with
 | 0,_=>exact⟨h3,by rw [show dgU 0=dRU from rfl,h3];simp [Bl.got,sRU]⟩
 | 1,_=>exact⟨h2,by rw [show dgU 1=dFU from rfl,h2];simp [Bl.got,sFU]⟩
 | 2,_=>exact⟨h1,by rw [show dgU 2=dCU from rfl,h1];simp [Bl.got,sCU]⟩
theorem qe5 {i:Nat}:(blU i).length<=100:=by
 match i with
 | 0=>exact lRU
 | 1=>exact lFU
 | _+2=>exact lCU
set_option maxHeartbeats 16000000 in
theorem qdl {w:World}{H:Heap}(hw:w.heap=H) (hR:Bl.Rounds H):qc P zop #[] w fun e w'=>e=.returned (.bool true)/\Ext [] H w'.heap:=by
 have hH0:0 < H.size:=by obtain⟨_,_,_,h,_⟩:=hR;exact lt_of_get h
 refine z1x ?_
 unfold zvt
 refine zk (Bl.zzb 65536 hw) ?_
 rintro e w1 ⟨p,fp,rfl,hS1,hx1,hfp1⟩
 refine⟨some ⟨p,0,none⟩,rfl,?_⟩
 rw [show max (65536:Int) 0=65536 from by decide] at hS1
 refine qp (s:=.any) (.agg (zsx fU).toArray) (qi0 _ _ _) ?_
 refine zam (s:=.slc) (some ⟨w1.heap.size,0,none⟩,1,1) _ (qk0 fU w1) ?_
 generalize hw2:({ w1 with heap:=w1.heap.push (.cells ([fU].flatMap zsx).toArray zbd) }:World)=w2
 have hh2:w2.heap=w1.heap.push (.cells ([fU].flatMap zsx).toArray zbd):=by rw [<-hw2]
 have hx2:Ext [] w1.heap w2.heap:=by rw [hh2];exact .push _
 have hc2:Cells w2.heap (some ⟨w1.heap.size,0,none⟩) (LU.flatMap zsx):=.inr ⟨w1.heap.size,0,_,_,_,rfl,by rw [hh2];exact zn,by simp [LU],by simp [LU,zsx]⟩
 have hx02:=hx1.trans hx2
 have s1:=hx1.1
 have s2:=hx2.1
 have hS2:=hS1.ext hx2 (by simp)
 refine zk (qdm (L:=LU) (nc:=1) rfl hS2 (fun b hb=>by have:=(hfp1 b hb).2;omega) (hR.ext hx02 (by simp)) (fun h=>by have:=(hfp1 0 h).1;omega) hc2 rfl (by decide) (by simp [Bl.total]) (by decide) (by decide) (by intro k L h;simp [Bl.zaa,zbx] at h)) ?_
 rintro e w3 ⟨c1,d1,r3,k3,fp3,rfl,hd1,hS3,hx3,hf3a,hf3b,hP3,ht3⟩
 obtain⟨hP,hd⟩:=hP3.2 qkn
 rw [qi3] at hP hd
 obtain⟨rfl,hv⟩:=qja hP
 rw [if_pos rfl] at hd
 have hd:d1=dRU:=hd
 subst hd
 have v1:Bl.zaa r3 dCU=some bCU:=by rw [hv,if_pos rfl]
 have v2:Bl.zaa r3 dFU=some bFU:=by rw [hv,if_neg qi9,if_pos rfl]
 have v3:Bl.zaa r3 dRU=some bRU:=by rw [hv,if_neg qjt,if_neg qi7,if_pos rfl]
 refine⟨(arr dRU,0),rfl,?_⟩
 have hx03:Ext [] H w3.heap:=hx02.own hx3 (fun c hc hlt=>by have:=(hfp1 c hc).1;omega)
 have s3:=hx3.1
 have hlen3:∀ k L,Bl.zaa r3 k=some L->L.length < 1099511627776:=fun k L hv=>by
  have:=zx7 hS3.ok hv
  have tz:Bl.total ([]:Bl.SM)=0:=rfl
  have l1:LU.length=1:=rfl
  rw [tz,l1] at ht3
  omega
 refine qei hd1 rfl fun w5 hw5=>?_
 have hx5:Ext [] w3.heap w5.heap:=by rw [hw5];exact .push _
 have hb5:w5.heap[w3.heap.size]?=some (.cells (byteCells dRU).toArray zf (0,0)):=by rw [hw5];exact zn
 refine jl rfl fun w6 hw6=>?_
 rw [<-hw6] at hx5 hb5
 refine qx rfl hb5 (by simp [hd1]) ?_
 have hx06:=hx03.trans hx5
 have s5:=hx5.1
 refine zk (Bl.zzb 65536 rfl) ?_
 rintro e w7 ⟨p2,fp2,rfl,hT7,hx7,hfp7⟩
 rw [show max (65536:Int) 0=65536 from by decide] at hT7
 refine⟨some ⟨p2,0,none⟩,rfl,qx (K:=fun t=>(Value.agg t)=(Value.agg (byteCells dRU).toArray)) rfl (hx7.get hb5 (by simp)) (by simp [hd1]) rfl,?_⟩
 have hx07:=hx06.trans hx7
 have s7:=hx7.1
 have hrun0:Run (zc0 (Bl.zaa ([]:Bl.SM))) 1 [((dRU,3):Pr)] st0 (z0d 0) 0:=by
  have hst:zc0 (Bl.zaa ([]:Bl.SM)) st0 (dRU,3)=(z0d 0,[],0):=by
   unfold zc0
   rw [if_neg (by simp [st0]),if_pos (by simp [Bl.zaa,zbx,Bl.got])]
   rfl
  refine .step (by rw [hst]) ?_
  rw [hst]
  exact .nil
 refine zk (qej (n:=1) (kind:=3) (by intro k L h;simp [Bl.zaa,zbx] at h) rfl hT7 (fun b hb=>(hfp7 b hb).2) (hR.ext hx07 (by simp)) hd1 (.inr rfl) hrun0 (by omega)) ?_
 rintro e w8 ⟨c,cf,rfl,hC8,hx8,hcf8⟩
 refine⟨(some ⟨c,0,none⟩,0),rfl,?_⟩
 have hx08:=hx07.trans hx8
 have s8:=hx8.1
 have hS8:=((hS3.ext hx5 (by simp)).ext hx7 (by simp)).ext hx8 (by simp)
 have hT8:=hT7.ext hx8 (by simp)
 have hR8:=hR.ext hx08 (by simp)
 have wf0:Wf (z0d 0):=⟨by simp [z0d],by simp [z0d]⟩
 have hS6:=hS3.ext hx5 (by simp)
 have hR6:=hR.ext hx06 (by simp)
 have hx68:=hx7.trans hx8
 have s36:w3.heap.size<=w6.heap.size:=s5
 have hf6:∀ b∈fp3,b < w6.heap.size:=fun b hb=>by have:=hf3a b hb;omega
 have h6pos:0 < w6.heap.size:=by have:=hx06.1;omega
 generalize hInv:(fun (i:Nat) (W:World)=>∃ (fp' cf':List Nat) (k':Nat) (r':Bl.SM),zh7 W.heap cf' c p2 (z0d i)/\Wf (z0d i)/\Bl.Store W.heap fp' p2 65536 r' k'/\(∀ k,Bl.zaa r' k=z1d k i)/\Bl.total r'<=4096 * i/\r'.length<=i/\Ext [] w6.heap W.heap/\(∀ b∈cf',w6.heap.size<=b/\b < W.heap.size)/\∀ b∈fp',w6.heap.size<=b/\b < W.heap.size/\b∉cf')=Inv
 have inv:∀ {i W},Inv i W ↔ ∃ (fp' cf':List Nat) (k':Nat) (r':Bl.SM),zh7 W.heap cf' c p2 (z0d i)/\Wf (z0d i)/\Bl.Store W.heap fp' p2 65536 r' k'/\(∀ k,Bl.zaa r' k=z1d k i)/\Bl.total r'<=4096 * i/\r'.length<=i/\Ext [] w6.heap W.heap/\(∀ b∈cf',w6.heap.size<=b/\b < W.heap.size)/\∀ b∈fp',w6.heap.size<=b/\b < W.heap.size/\b∉cf':=by
  intro i W;rw [<-hInv]
 clear hInv
 have hI8:Inv 0 w8:=inv.2 ⟨fp2,cf,_,[],hC8,wf0,hT8,fun k=>rfl,by simp [Bl.total],by simp,hx68,fun b hb=>by have:=hcf8 b hb;omega,fun b hb=>⟨by have:=(hfp7 b hb).1;omega,by have:=(hfp7 b hb).2;omega,fun h=>by have:=(hfp7 b hb).2;have:=(hcf8 b h).1;omega⟩⟩
 refine Go.Fw.joinP_of (fun _ W=>Inv 0 W) ?_ ?_
 ·refine jm rfl (jm rfl (jm rfl ?_))
  refine zk (z3u rfl hC8) ?_
  rintro e w9 ⟨rfl,rfl⟩
  refine⟨_,rfl,jm (by rw [z1j (by omega)];rfl) ?_⟩
  refine qk5 rfl fun w11 hc11 hx11 hs11=>?_
  have hC11:=hC8.ext hx11 (by simp)
  have hT11:=hT8.ext hx11 (by simp)
  refine zk (z3h (L:=[120]) (cf:=cf) (fp:=fp2) rfl hC11 wf0 (fun b hb=>by have:=(hcf8 b hb).2;omega) hT11 (fun b hb=>⟨by have:=(hfp7 b hb).2;omega,fun h=>by have:=(hfp7 b hb).2;have:=(hcf8 b h).1;omega⟩) (hR8.ext hx11 (by simp)) (fun h=>by have:=(hcf8 0 h).1;omega) (fun h=>by have:=(hfp7 0 h).1;omega) hc11 rfl (Nat.le_refl _) (fun _ y hy=>by cases hy;exact fun h=>by have:=(hfp7 _ h).2;simp only at this;omega) (by simp) (by simp [Bl.total]) (by decide) (by decide) (by simp [z0d])) ?_
  rintro e w12 ⟨code,r',st',k',fp',cf',rfl,hres,hC12,_,_,hT12,hx12,hcf12,hfp12,_,_⟩
  have hno:∀ p∈(z0d 0).want,p.1≠Sha.sum [120]:=fun p hp e=>by
   have:p=(dRU,3):=List.mem_singleton.1 hp
   subst this
   rw [sX1] at e
   exact qin e.symm
  have hx612:Ext [] w6.heap w12.heap:=(hx68.trans hx11).own hx12 (fun b hb hlt=>by
   rcases List.mem_append.1 hb with h | h
   ·have:=(hfp7 b h).1;omega
   ·have:=(hcf8 b h).1;omega)
  cases hres with
  | foreign _=>
   refine⟨80,rfl,jm rfl ?_⟩
   exact inv.2 ⟨fp',cf',k',[],hC12,wf0,hT12,fun k=>rfl,by simp [Bl.total],by simp,hx612,fun b hb=>⟨by
    rcases (hcf12 b hb).2 with h | h
    ·have:=(hcf8 b h).1;omega
    ·have:=hx11.1;omega,(hcf12 b hb).1⟩,fun b hb=>⟨by
    rcases (hfp12 b hb).2.2 with h | h
    ·have:=(hfp7 b h).1;omega
    ·have:=hx11.1;omega,(hfp12 b hb).1,(hfp12 b hb).2.1⟩⟩
  | form h _=>obtain⟨p,hp,e⟩:=h;exact absurd e (hno p hp)
  | full h _ _ _ _=>obtain⟨p,hp,e⟩:=h;exact absurd e (hno p hp)
  | ok h _ _ _ _=>obtain⟨p,hp,e⟩:=h;exact absurd e (hno p hp)
 rintro _ W0 hI0
 refine Go.Fw.joinP_of (fun (s:Int) W=>s=3/\Ext [] H W.heap) ?_ ?_
 rotate_left
 ·rintro _ W ⟨rfl,hx⟩
  exact⟨rfl,hx⟩
 refine jg (fun (s:Int) W=>∃ i:Nat,s=(i:Int)/\i<=3/\Inv i W) (fun s _=>(3-s).toNat) ⟨0,rfl,by omega,hI0⟩ ?_
 rintro _ W ⟨i,rfl,hi,hI⟩
 obtain⟨fpW,cfW,kW,rW,hCW,hWW,hTW,hvW,htW,hlW,hxW,hcfW,hfpW⟩:=inv.1 hI
 refine Go.Fw.joinP_of (fun _ W'=>W'=W/\i < 3) ?_ ?_
 ·refine zah (by simp;omega) ?_
  refine zk (z3u rfl hCW) ?_
  rintro e w15 ⟨rfl,rfl⟩
  refine⟨_,rfl,?_⟩
  rw [z1j hi]
  by_cases h3:i=3
  ·refine jm (by simp [h3]) ⟨by omega,hx06.trans hxW⟩
  ·exact zah (by simp [h3]) ⟨rfl,by omega⟩
 rintro _ W' ⟨rfl,hi3⟩
 refine zk (z2y (most:=9) rfl hCW (by have:=z5s (i:=i);omega)) ?_
 rintro e w17 ⟨x17,rfl,hm17,_,hx17⟩
 rw [qjl hi3] at hm17
 refine⟨x17,rfl,?_⟩
 have hxl:x17.2.1=1:=by have:=hm17.len;rw [zu Bl.zbp Bl.zaf] at this;simp at this;omega
 refine jm (by simp [hxl]) ?_
 refine zce (i:=0) Bl.zaf (by omega) rfl hm17.cells (xs:=[dgU i]) (v:=dgU i) hxl rfl rfl ?_
 rw [Bl.zba qd1]
 have hx617:=hxW.trans hx17
 have hgot:=qes hi3 v1 v2 v3
 refine zk (Bl.qdd (k:=dgU i) rfl (hS6.ext hx617 (by simp)) qd1 (hR6.ext hx617 (by simp)) (hlen3 _)) ?_
 rintro e w18 ⟨x18,rfl,hx18,hg18,_⟩
 refine⟨(x18,Bl.got (Bl.zaa r3 (dgU i)) (dgU i)),rfl,?_⟩
 obtain⟨L18,hL18,hm18⟩:=hg18 hgot.2
 rw [hgot.1] at hL18
 simp only [Option.some.injEq] at hL18
 subst hL18
 have hx18l:x18.2.1=(blU i).length:=by have:=hm18.len;simp at this;omega
 have hxW18:=hx17.trans hx18
 have s17:=hx17.1
 have s18:=hx18.1
 have hbl:=qe5 (i:=i)
 have hx618:=hxW.trans hxW18
 have hrl:=z5s (i:=i)
 refine zk (z3h (L:=blU i) (cf:=cfW) (fp:=fpW) rfl (hCW.ext hxW18 (by simp)) hWW (fun b hb=>by have:=(hcfW b hb).2;omega) (hTW.ext hxW18 (by simp)) (fun b hb=>⟨by have:=(hfpW b hb).2.1;omega,(hfpW b hb).2.2⟩) (hR6.ext hx618 (by simp)) (fun h=>by have:=(hcfW 0 h).1;omega) (fun h=>by have:=(hfpW 0 h).1;omega) hm18.cells hx18l (zfm hm18) (fun _ y hy h=>by
  have hy:x18.1=some y:=hy
  have h1:=xu hm18 y.block (by unfold jf;rw [hy];simp)
  have h2:=(hfpW _ h).2.1
  omega) (by omega) (by omega) (by decide) (by decide) (by omega)) ?_
 rintro e w19 ⟨code,r',st',k',fp',cf',rfl,hres,hC19,hW19,_,hT19,hx19,hcf19,hfp19,ht19,hl19⟩
 obtain⟨rfl,rfl,hv19⟩:=qii hi3 hvW htW hres
 refine⟨0,rfl,jm rfl ?_⟩
 refine jd ((i+1:Nat):Int) (by simp) (by omega) (by omega) ?_
 refine⟨⟨i+1,rfl,by omega,inv.2 ⟨fp',cf',k',r',hC19,hW19,hT19,hv19,by omega,by omega,hx618.own hx19 (fun b hb hlt=>?_),fun b hb=>⟨?_,(hcf19 b hb).1⟩,fun b hb=>⟨?_,(hfp19 b hb).1,(hfp19 b hb).2.1⟩⟩⟩,by omega⟩
 ·rcases List.mem_append.1 hb with h | h
  ·have:=(hfpW b h).1;omega
  ·have:=(hcfW b h).1;omega
 ·rcases (hcf19 b hb).2 with h | h
  ·exact (hcfW b h).1
  ·have:=hx618.1;omega
 ·rcases (hfp19 b hb).2.2 with h | h
  ·exact (hfpW b h).1
  ·have:=hx618.1;omega
end Go.Proofs.YtbmegmbnlajbbaaGreatDoor
namespace Go.Proofs.YtbmegmbnlajbbaaGreatDoor
open Go Go.Fw Go.Proofs Go.Sort
theorem qbz {k:List UInt8}{i:Nat}{v:UInt8}:(byteCells k).toArray.setIfInBounds i (.int .u8 (v.toNat:Int))=(byteCells (k.set i v)).toArray:=by simp [byteCells,List.map_set]
theorem qef {w:World}{H:Heap}{a:Option Addr}{l lc:Nat}{L:List UInt8}(hw:w.heap=H) (hL:Cells H a (byteCells L)) (hl:l=L.length) :
  qc P znm #[.slice a l lc] w fun e w'=>∃ k,e=.returned (arr k)/\k.length=32/\Ext [] H w'.heap:=by
 subst hl
 refine z3m ?_
 unfold zww
 refine jv hw fun w1 hw1=>?_
 have hx1:Ext [] H w1.heap:=by rw [hw1];exact .push _
 have hb1:w1.heap[H.size]?=some (.cells (zc P zf) zf (0,0)):=by rw [hw1];exact zn
 refine jv rfl fun w2 hw2=>?_
 have hx2:Ext [] w1.heap w2.heap:=by rw [hw2];exact .push _
 have hd2:w2.heap[w1.heap.size]?=some (.cells (zc P zf) zf (0,0)):=by rw [hw2];exact zn
 rw [qh8] at hb1 hd2
 have hb2:=hx2.get hb1 (by simp)
 have hx02:=hx1.trans hx2
 have s1:=lt_of_get hb1
 have s2:=lt_of_get hd2
 refine Go.Fw.joinP_of (fun _ W=>∃ k,k.length=32/\Ext [] H W.heap/\W.heap[H.size]?=some (.cells (byteCells Bl.nought).toArray zf (0,0))/\W.heap[w1.heap.size]?=some (.cells (byteCells k).toArray zf (0,0))) ?_ ?_
 ·refine Go.Fw.joinP_of (fun _ W=>∃ k,k.length=32/\Ext [] H W.heap/\W.heap[H.size]?=some (.cells (byteCells Bl.nought).toArray zf (0,0))/\W.heap[w1.heap.size]?=some (.cells (byteCells k).toArray zf (0,0))) ?_ (fun _ _ h=>h)
  refine jg (fun (s:Int) W=>∃ (i:Nat) (k:List UInt8),s=(i:Int)/\i<=32/\k.length=32/\Ext [] H W.heap/\W.heap[H.size]?=some (.cells (byteCells Bl.nought).toArray zf (0,0))/\W.heap[w1.heap.size]?=some (.cells (byteCells k).toArray zf (0,0))) (fun s _=>(32-s).toNat)
   ⟨0,Bl.nought,rfl,by omega,Bl.za4,hx02,hb2,hd2⟩ ?_
  rintro _ W ⟨i,k,rfl,hi,hk,hx,hb,hd⟩
  refine Go.Fw.joinP_of (fun _ W'=>W'=W/\i < 32/\i < L.length) ?_ ?_
  ·refine zq (fun h1=>?_) (fun _=>⟨k,hk,hx,hb,hd⟩)
   exact zq (fun h2=>⟨rfl,by omega,by omega⟩) (fun _=>⟨k,hk,hx,hb,hd⟩)
  rintro _ W' ⟨rfl,hi32,hil⟩
  obtain⟨b9,o9,c9,T9,fr9,hx9,hb9,ho9,hby⟩:=(hL.ext hx (by simp)).bytes (fun (h:L=[])=>absurd (congrArg List.length h) (by simp only [List.length_nil];omega))
  rw [hx9]
  refine zkt i rfl hil ?_
  refine je (s:=.int .u8) (t:=((L.getD i 0).toNat:Int)) rfl hb9 (hby i hil) ?_
  refine zen i rfl hi32 ?_
  refine za9 rfl hd (by simp [hk];omega) fun w5 hw5=>?_
  rw [qbz] at hw5
  have hx5:Ext [w1.heap.size] W'.heap w5.heap:=by rw [hw5];exact Ext.set _ (by simp)
  refine jd ((i+1:Nat):Int) (by simp) (by omega) (by omega) ?_
  exact⟨⟨i+1,k.set i (L.getD i 0),rfl,by omega,by simp [hk],hx.own hx5 (fun c hc hlt=>by simp at hc;omega),hx5.get hb (by simp;omega),by rw [hw5];exact qg hd⟩,by omega⟩
 rintro _ W ⟨k,hk,hx,hb,hd⟩
 refine qx rfl hd (by simp [hk]) ?_
 refine z2t hk rfl hb (by simp [Bl.nought]) fun w8 hw8=>?_
 have hx8:Ext [H.size] W.heap w8.heap:=by rw [hw8];exact Ext.set _ (by simp)
 have hb8:w8.heap[H.size]?=some (.cells (byteCells k).toArray zf (0,0)):=by rw [hw8];exact qg hb
 refine qx rfl hb8 (by simp [hk]) ?_
 exact⟨k,rfl,hk,hx.own hx8 (fun c hc hlt=>by simp at hc;omega)⟩
theorem z8g {w:World}{H:Heap}{k:List UInt8}{a:Option Addr}{l lc:Nat}{L:List (List UInt8)}(hw:w.heap=H) (hk:k.length=32) (hL:Cells H a (L.flatMap Bl.zbp)) (hl:l=L.length) (h32:∀ q∈L,q.length=32) :
  qc P zlq #[arr k,.slice a l lc] w fun e w'=>∃ k',e=.returned (arr k')/\k'.length=32/\Ext [] H w'.heap:=by
 subst hl
 refine z1h ?_
 unfold zvj
 rw [show (arr k).cells=(byteCells k).toArray from rfl]
 refine jv hw fun w1 hw1=>?_
 have hx1:Ext [] H w1.heap:=by rw [hw1];exact .push _
 have hb1:w1.heap[H.size]?=some (.cells (byteCells k).toArray zf (0,0)):=by rw [hw1];exact zn
 refine jv rfl fun w2 hw2=>?_
 have hx2:Ext [] w1.heap w2.heap:=by rw [hw2];exact .push _
 have hd2:w2.heap[w1.heap.size]?=some (.cells (zc P zf) zf (0,0)):=by rw [hw2];exact zn
 rw [qh8] at hd2
 have hb2:=hx2.get hb1 (by simp)
 have hx02:=hx1.trans hx2
 have s1:=lt_of_get hb1
 have hc0:(byteCells k).toArray[0]?=some (.int .u8 ((k[0]'(by omega)).toNat:Int)):=by simp only [byteCells,List.getElem?_toArray,List.getElem?_map];rw [List.getElem?_eq_getElem (by omega)];rfl
 have hlt:=(k[0]'(by omega)).toNat_lt
 generalize k[0]'(by omega)=v at hc0 hlt
 have fin:∀ {k':List UInt8},k'.length=32->zbz P (storeVar zf (⟨w1.heap.size,0,none⟩:Addr) (arr k')) w2 fun w3=>ldA P 32 (⟨w1.heap.size,0,none⟩:Addr) w3 fun t4=>∃ k'',Ending.returned (Value.agg t4)=.returned (arr k'')/\k''.length=32/\Ext [] H w3.heap:=by
  intro k' hk'
  refine z2t hk' rfl hd2 (by simp [Bl.nought]) fun w3 hw3=>?_
  have hx3:Ext [w1.heap.size] w2.heap w3.heap:=by rw [hw3];exact Ext.set _ (by simp)
  have hb3:w3.heap[w1.heap.size]?=some (.cells (byteCells k').toArray zf (0,0)):=by rw [hw3];exact qg hd2
  refine qx rfl hb3 (by simp [hk']) ?_
  exact⟨k',rfl,hk',hx02.own hx3 (fun c hc hlt=>by simp at hc;omega)⟩
 refine je (s:=.int .u8) (t:=(v.toNat:Int)) rfl hb2 hc0 ?_
 refine zg5 (by omega) (by omega) ?_
 refine zq (fun h=>?_) (fun h=>?_)
 ·have hil:v.toNat < L.length:=by omega
  have hget:=List.getElem?_eq_getElem hil
  have hq:=h32 _ (List.getElem_mem hil)
  generalize L[v.toNat]=q at hget hq
  refine je (s:=.int .u8) (t:=(v.toNat:Int)) rfl hb2 hc0 ?_
  refine zce (i:=v.toNat) Bl.zaf (by omega) rfl (hL.ext hx02 (by simp)) rfl hget rfl ?_
  rw [Bl.zba hq]
  exact fin hq
 ·refine qx rfl hb2 (by simp [hk]) ?_
  exact fin hk
structure RawW (H:Heap) (c:Array Value):Prop where
 has:∃ (kd size:Int) (data:List UInt8) (xp xn xk xs:Option Addr×Nat×Nat) (Ps Ns Ss:List (List UInt8)) (Ks:List Int),c=#[.int .i64 kd,.string (strOf data),.int .i64 size,zbv xp,zbv xn,zbv xk,zbv xs]/\Bl.Rows H xp.1 xp.2.1 Ps/\Cells H xn.1 (strRow Ns)/\xn.2.1=Ns.length/\Cells H xk.1 (Ks.flatMap fun n=>[Value.int .i64 n])/\xk.2.1=Ks.length/\Bl.Rows H xs.1 xs.2.1 Ss /\
  Ps.length<=1048576/\Ns.length<=1048576/\Ks.length<=1048576/\Ss.length<=1048576/\data.length<=1048576/\∀ n∈Ns,n.length<=1048576
theorem RawW.ext {H H':Heap}{c:Array Value}(h:RawW H c) (hx:Ext [] H H'):RawW H' c:=by
 obtain⟨kd,size,data,xp,xn,xk,xs,Ps,Ns,Ss,Ks,h1,h2,h3,h4,h5,h6,h7,h8⟩:=h.has
 exact⟨kd,size,data,xp,xn,xk,xs,Ps,Ns,Ss,Ks,h1,h2.ext hx (by simp),h3.ext hx (by simp),h4,h5.ext hx (by simp),h6,h7.ext hx (by simp),h8⟩
theorem qi8 (k s:Int) (d:ByteArray) (w:World):(Instr.build zh #[(0,.int .i64 k),(1,.string d),(2,.int .i64 s)]).run P w=.ok (.agg #[.int .i64 k,.string d,.int .i64 s,.slice none 0 0,.slice none 0 0]) w:=by kernel_rfl
theorem bT0 (s:ByteArray) (w:World):(Instr.build zx #[(0,.string s)]).run P w=.ok (.agg ([Value.string s,Value.int .i64 0]++byteCells (List.replicate 32 0)).toArray) w:=by kernel_rfl
theorem qd9 {H:Heap}{a:Option Addr}{n i:Nat}{m:Int}{Ls:List (List UInt8)}(h:Bl.Rows H a n Ls) (hi:i < Ls.length) (hm:m=(i:Int)){w:World}(hw:w.heap=H){K:(Option Addr×Nat×Nat)->Prop}(hK:∀ x:Option Addr×Nat×Nat,Cells H x.1 (byteCells Ls[i])->x.2.1=Ls[i].length->K x) :
  ixS a n 1 m fun p=>ld .slc p w K:=by
 obtain⟨hn,hr⟩:=h
 obtain⟨b,o,c,T,fr,x,rfl,hb,hc,hC,hl,_⟩:=hr i hi
 refine zkt i hm (by omega) ?_
 exact je (s:=.slc) (t:=x) hw hb hc (hK x hC hl)
theorem z0g {nm:List UInt8}{kd:Int}{k:List UInt8}(hk:k.length=32):setCells (zcy ⟨nm,kd,Bl.nought⟩).toArray 2 (byteCells k)=(zcy ⟨nm,kd,k⟩).toArray:=by
 apply Array.ext_getElem?
 intro j
 rw [zcv (by simp [zai,hk])]
 have h0:(byteCells k).length=32:=by simp [hk]
 have e1:zcy ⟨nm,kd,k⟩=[Value.string (strOf nm),Value.int .i64 kd]++byteCells k:=by unfold zcy;rw [Bl.zba hk];rfl
 have e2:zcy ⟨nm,kd,Bl.nought⟩=[Value.string (strOf nm),Value.int .i64 kd]++byteCells Bl.nought:=by unfold zcy;rw [Bl.zba Bl.za4];rfl
 rw [e1,e2]
 by_cases hj:j < 2
 ·rw [if_neg (by omega)]
  simp only [List.getElem?_toArray]
  rw [List.getElem?_append_left (by simpa using hj),List.getElem?_append_left (by simpa using hj)]
 ·by_cases hj2:j < 34
  ·rw [if_pos (by omega)]
   simp only [List.getElem?_toArray]
   rw [List.getElem?_append_right (by simp;omega)]
   rfl
  ·rw [if_neg (by omega)]
   simp only [List.getElem?_toArray]
   rw [List.getElem?_eq_none (by simp [Bl.nought];omega),List.getElem?_eq_none (by simp [hk];omega)]
set_option maxHeartbeats 16000000 in
theorem qhm {w:World}{H:Heap}{c:Array Value}(hw:w.heap=H) (hr:RawW H c) :
  qc P zr2 #[.agg c] w fun e w'=>∃ n xp xi,e=.returned (.agg (zca n xp xi).toArray)/\NodM w'.heap H.size n xp xi/\n.parts.length<=1048576/\n.items.length<=1048576/\(∀ i∈n.items,i.name.length<=1048576)/\n.data.length<=1048576/\Ext [] H w'.heap:=by
 obtain⟨kd,size,data,yp,yn,yk,ys,Ps,Ns,Ss,Ks,rfl,h2,h3,h4,h5,h6,h7,b1,b2,b3,b4,b5,b6⟩:=hr.has
 refine z3v ?_
 unfold zxy
 refine jv hw fun w1 hw1=>?_
 have hx1:Ext [] H w1.heap:=by rw [hw1];exact .push _
 have hb1:w1.heap[H.size]?=some (.cells #[.int .i64 kd,.string (strOf data),.int .i64 size,zbv yp,zbv yn,zbv yk,zbv ys] zgu (0,0)):=by rw [hw1];exact zn
 have s1:=lt_of_get hb1
 refine jv rfl fun w2 hw2=>?_
 have hx2:Ext [] w1.heap w2.heap:=by rw [hw2];exact .push _
 have hd2:w2.heap[w1.heap.size]?=some (.cells (zc P zh) zh (0,0)):=by rw [hw2];exact zn
 have s2:=lt_of_get hd2
 have hb2:=hx2.get hb1 (by simp)
 refine je (s:=.int .i64) (t:=kd) rfl hb2 rfl ?_
 refine je (s:=.str) (t:=strOf data) rfl hb2 rfl ?_
 refine je (s:=.int .i64) (t:=size) rfl hb2 rfl ?_
 refine qp (s:=.any) _ (qi8 _ _ _ _) ?_
 refine z8c ⟨kd,data,size,[],[]⟩ (none,0,0) (none,0,0) rfl fun w4 hw4=>?_
 have hx4:Ext [] w2.heap w4.heap:=by rw [hw4];exact .push _
 have hn4:w4.heap[w2.heap.size]?=some (.cells (zca ⟨kd,data,size,[],[]⟩ (none,0,0) (none,0,0)).toArray zh (0,0)):=by rw [hw4];exact zn
 have s4:=lt_of_get hn4
 have hx04:=(hx1.trans hx2).trans hx4
 have hb4:=hx4.get hb2 (by simp)
 have hd4:=hx4.get hd2 (by simp)
 generalize hc5:w2.heap.size=c5 at *
 generalize hc4:w1.heap.size=c4 at *
 refine jg (fun (s:Int) W=>∃ (i:Nat) (ps:List (List UInt8)) (xp:Option Addr×Nat×Nat),s=(i:Int)/\i<=Ps.length/\ps.length=i/\(∀ p∈ps,p.length=32)/\W.heap[c5]?=some (.cells (zca ⟨kd,data,size,ps,[]⟩ xp (none,0,0)).toArray zh (0,0))/\Mine W.heap w4.heap.size zf 32 xp (ps.flatMap Bl.zbp)/\Ext [] H W.heap/\W.heap[H.size]?=some (.cells #[.int .i64 kd,.string (strOf data),.int .i64 size,zbv yp,zbv yn,zbv yk,zbv ys] zgu (0,0))/\W.heap[c4]?=some (.cells (zc P zh) zh (0,0))/\w4.heap.size<=W.heap.size) (fun s _=>(Ps.length-s).toNat)
  ⟨0,[],(none,0,0),rfl,Nat.zero_le _,rfl,by simp,hn4,.inl ⟨rfl,rfl⟩,hx04,hb4,hd4,Nat.le_refl _⟩ ?_
 rintro _ W ⟨i,ps,xp,rfl,hi,hpl,hp32,g1,g2,g3,g4,g5,g6⟩
 have hRp:=h2.ext g3 (by simp)
 refine je (s:=.slc) (t:=yp) rfl g4 rfl ?_
 refine zq (fun hlt=>?_) (fun hge=>?_)
 ·have hil:i < Ps.length:=by have:=h2.1;omega
  refine jl rfl fun w6 hw6=>?_
  rw [<-hw6] at g1 g2 g3 g4 g5 g6 hRp
  refine je (s:=.slc) (t:=xp) rfl g1 rfl ?_
  refine je (s:=.slc) (t:=yp) rfl g4 rfl ?_
  refine qd9 hRp hil rfl rfl fun z hz hzl=>?_
  refine zk (qef (lc:=z.2.2) rfl hz hzl) ?_
  rintro e w7 ⟨k,rfl,hk,hx7⟩
  refine⟨arr k,rfl,?_⟩
  have k1:=hx7.get g1 (by simp)
  have s7:=hx7.1
  refine⟨je (s:=.slc) (o:=3) (t:=xp) (K:=fun z=>Value.slice z.1 z.2.1 z.2.2=Value.slice xp.1 xp.2.1 xp.2.2) rfl k1 rfl rfl,?_⟩
  refine zu3 rfl (g2.ext hx7 (by simp)) (by omega) hk (by omega) (fun w10 hx10=>je (s:=.slc) (o:=3) (t:=xp) (K:=fun z=>Value.slice z.1 z.2.1 z.2.2=Value.slice xp.1 xp.2.1 xp.2.2) rfl (hx10.get k1 (by simp)) rfl rfl) fun xp2 w11 hm11 hx11 hs11=>?_
  have own3:∀ {c:Nat},c < w4.heap.size->c∉jf xp:=fun h hc=>by have:=xu g2 _ hc;omega
  have k11:=hx11.get k1 (own3 s4)
  refine za9 rfl k11 (by simp [zca]) fun w12 hw12=>?_
  have hx12:Ext [c5] w11.heap w12.heap:=by rw [hw12];exact Ext.set _ (by simp)
  have s11:=hx11.1
  have s12:=hx12.1
  refine jd ((i+1:Nat):Int) (by simp) (by omega) (by omega) ?_
  refine⟨⟨i+1,ps++[k],xp2,rfl,by omega,by simp [hpl],fun p hp=>?_,by rw [hw12];exact qg k11,hm11.ext hx12 (fun c hc h=>by simp at h;subst h;have:=xu hm11 _ hc;omega),?_,?_,?_,by omega⟩,by omega⟩
  ·rcases List.mem_append.1 hp with h | h
   ·exact hp32 p h
   ·simp at h;subst h;exact hk
  ·exact ((g3.trans hx7).own hx11 (fun c hc hlt=>by have:=xu g2 _ hc;omega)).own hx12 (fun c hc hlt=>by simp at hc;omega)
  ·exact hx12.get (hx11.get (hx7.get g4 (by simp)) (own3 (by omega))) (by simp;omega)
  ·exact hx12.get (hx11.get (hx7.get g5 (by simp)) (own3 (by omega))) (by simp;omega)
 obtain rfl:i=Ps.length:=by have:=h2.1;omega
 refine jg (fun (s:Int) W'=>∃ (j:Nat) (its:List Itm) (xi:Option Addr×Nat×Nat),s=(j:Int)/\j<=Ns.length/\its.length=j/\(∀ i∈its,i.sum.length=32/\i.name.length<=1048576)/\W'.heap[c5]?=some (.cells (zca ⟨kd,data,size,ps,its⟩ xp xi).toArray zh (0,0))/\Mine W'.heap w4.heap.size zf 32 xp (ps.flatMap Bl.zbp)/\Mine W'.heap w4.heap.size zx 34 xi (its.flatMap zcy)/\Ext [] H W'.heap/\W'.heap[H.size]?=some (.cells #[.int .i64 kd,.string (strOf data),.int .i64 size,zbv yp,zbv yn,zbv yk,zbv ys] zgu (0,0))/\W'.heap[c4]?=some (.cells (zc P zh) zh (0,0))/\w4.heap.size<=W'.heap.size) (fun s _=>(Ns.length-s).toNat)
  ⟨0,[],(none,0,0),rfl,Nat.zero_le _,rfl,by simp,g1,g2,.inl ⟨rfl,rfl⟩,g3,g4,g5,g6⟩ ?_
 clear g1 g2 g3 g4 g5 g6
 rintro _ W' ⟨j,its,xi,rfl,hj,hil,hi32,g1,g2,g2',g3,g4,g5,g6⟩
 refine je (s:=.slc) (t:=yn) rfl g4 rfl ?_
 refine zq (fun hlt=>?_) (fun hge=>?_)
 ·have hjl:j < Ns.length:=by omega
  have hnm:=b6 _ (List.getElem_mem hjl)
  refine Go.Fw.joinP_of (fun _ W2=>∃ (its2:List Itm) (xi2:Option Addr×Nat×Nat),its2.length=j+1/\(∀ i∈its2,i.sum.length=32/\i.name.length<=1048576)/\W2.heap[c5]?=some (.cells (zca ⟨kd,data,size,ps,its2⟩ xp xi2).toArray zh (0,0))/\Mine W2.heap w4.heap.size zf 32 xp (ps.flatMap Bl.zbp)/\Mine W2.heap w4.heap.size zx 34 xi2 (its2.flatMap zcy)/\Ext [] H W2.heap/\W2.heap[H.size]?=some (.cells #[.int .i64 kd,.string (strOf data),.int .i64 size,zbv yp,zbv yn,zbv yk,zbv ys] zgu (0,0))/\W2.heap[c4]?=some (.cells (zc P zh) zh (0,0))/\w4.heap.size<=W2.heap.size) ?_ ?_
  rotate_left
  ·rintro _ W2 ⟨its2,xi2,q1,q2,q3,q4,q5,q6,q7,q8,q9⟩
   refine jd ((j+1:Nat):Int) (by simp) (by omega) (by omega) ?_
   have hil:j+1<=Ns.length:=by omega
   exact⟨⟨j+1,its2,xi2,rfl,by omega,q1,q2,q3,q4,q5,q6,q7,q8,q9⟩,by omega⟩
  refine zal ?_
  refine je (s:=.slc) (t:=yn) rfl g4 rfl ?_
  refine zx0 rfl (h3.ext g3 (by simp)) h4 hjl rfl ?_
  generalize Ns[j]=nm at hnm
  have e0:∀ kdi,(zcy ⟨nm,kdi,Bl.nought⟩)=[Value.string (strOf nm),Value.int .i64 kdi]++byteCells (List.replicate 32 0):=fun kdi=>by unfold zcy;rw [Bl.zba Bl.za4];rfl
  refine qp (s:=.any) (.agg (zcy ⟨nm,0,Bl.nought⟩).toArray) (by rw [e0];exact bT0 _ _) ?_
  refine qgb ⟨nm,0,Bl.nought⟩ rfl fun w13 hw13=>?_
  have hx13:Ext [] W'.heap w13.heap:=by rw [hw13];exact .push _
  have hb13:w13.heap[W'.heap.size]?=some (.cells (zcy ⟨nm,0,Bl.nought⟩).toArray zx (0,0)):=by rw [hw13];exact zn
  have s13:=lt_of_get hb13
  refine Go.Fw.joinP_of (fun _ W2=>∃ kdi,W2.heap[W'.heap.size]?=some (.cells (zcy ⟨nm,kdi,Bl.nought⟩).toArray zx (0,0))/\Ext [] W'.heap W2.heap) ?_ ?_
  ·refine je (s:=.slc) (t:=yk) rfl (hx13.get g4 (by simp)) rfl ?_
   refine zq (fun hlt2=>?_) (fun _=>⟨0,hb13,hx13⟩)
   have hkl:j < Ks.length:=by omega
   have hget:=List.getElem?_eq_getElem hkl
   generalize Ks[j]=kdi at hget
   refine je (s:=.slc) (t:=yk) rfl (hx13.get g4 (by simp)) rfl ?_
   refine Bl.zcd (sz:=1) (enc:=fun n:Int=>[Value.int .i64 n]) (i:=j) (fun _=>rfl) (by omega) (h5.ext (g3.trans hx13) (by simp)) h6 hget rfl fun ba oa ca Ta fra _ hba hsa hca _=>?_
   refine je (s:=.int .i64) (t:=kdi) rfl hba (hca 0 (by omega)) ?_
   refine za9 rfl hb13 (by simp [zai]) fun w14 hw14=>?_
   have hx14:Ext [W'.heap.size] w13.heap w14.heap:=by rw [hw14];exact Ext.set _ (by simp)
   exact⟨kdi,by rw [hw14];exact qg hb13,hx13.own hx14 (fun c hc hlt=>by simp at hc;omega)⟩
  rintro _ W2 ⟨kdi,hbW2,hxW2⟩
  refine Go.Fw.joinP_of (fun _ W3=>∃ k,k.length=32/\W3.heap[W'.heap.size]?=some (.cells (zcy ⟨nm,kdi,k⟩).toArray zx (0,0))/\Ext [] W'.heap W3.heap) ?_ ?_
  ·refine je (s:=.slc) (t:=ys) rfl (hxW2.get g4 (by simp)) rfl ?_
   refine zq (fun hlt2=>?_) (fun _=>⟨Bl.nought,Bl.za4,hbW2,hxW2⟩)
   have hsl:j < Ss.length:=by have:=h7.1;omega
   refine je (s:=.slc) (t:=ys) rfl (hxW2.get g4 (by simp)) rfl ?_
   refine qd9 (h7.ext (g3.trans hxW2) (by simp)) hsl rfl rfl fun z hz hzl=>?_
   refine zk (qef (lc:=z.2.2) rfl hz hzl) ?_
   rintro e w16 ⟨k,rfl,hk,hx16⟩
   refine⟨arr k,rfl,?_⟩
   have hb16:=hx16.get hbW2 (by simp)
   refine zaz (v:=arr k) (by rw [szD,Bl.jy,hk]) (by rw [Bl.jy];omega) (by simpa [Value.cells,arr] using jr) rfl hb16 (by rw [Bl.jy];simp [zai,hk]) fun w17 hw17=>?_
   have hx17:Ext [W'.heap.size] w16.heap w17.heap:=by rw [hw17];exact Ext.set _ (by simp)
   have e3:setCells (zcy ⟨nm,kdi,Bl.nought⟩).toArray 2 (arr k).cells.toList=(zcy ⟨nm,kdi,k⟩).toArray:=z0g hk
   rw [e3] at hw17
   exact⟨k,hk,by rw [hw17];exact qg hb16,(hxW2.trans hx16).own hx17 (fun c hc hlt=>by simp at hc;omega)⟩
  rintro _ W3 ⟨k,hk,hbW3,hxW3⟩
  have k1:=hxW3.get g1 (by simp)
  refine je (s:=.slc) (t:=xi) rfl k1 rfl ?_
  refine qx rfl hbW3 (by simp [zai]) ?_
  have sW3:=hxW3.1
  refine zvz (i:=⟨nm,kdi,k⟩) rfl (g2'.ext hxW3 (by simp)) (by omega) (by omega) fun xi2 w20 hm20 hx20 hs20=>?_
  have own3:∀ {c:Nat},c < w4.heap.size->c∉jf xi:=fun h hc=>by have:=xu g2' _ hc;omega
  have k20:=hx20.get k1 (own3 s4)
  refine za9 rfl k20 (by simp [zca]) fun w21 hw21=>?_
  have hx21:Ext [c5] w20.heap w21.heap:=by rw [hw21];exact Ext.set _ (by simp)
  have s20:=hx20.1
  have s21:=hx21.1
  have m20:=(g2.ext hxW3 (by simp)).ext hx20 (zj8 (g2.ext hxW3 (by simp)) (g2'.ext hxW3 (by simp)) (by decide))
  refine⟨its++[⟨nm,kdi,k⟩],xi2,by simp [hil],fun i hi=>?_,by rw [hw21];exact qg k20,m20.ext hx21 (fun c hc h=>by simp at h;subst h;have:=xu m20 _ hc;omega),hm20.ext hx21 (fun c hc h=>by simp at h;subst h;have:=xu hm20 _ hc;omega),?_,?_,?_,by omega⟩
  ·rcases List.mem_append.1 hi with h | h
   ·exact hi32 i h
   ·simp at h;subst h;exact⟨hk,hnm⟩
  ·exact ((g3.trans hxW3).own hx20 (fun c hc hlt=>by have:=xu g2' _ hc;omega)).own hx21 (fun c hc hlt=>by simp at hc;omega)
  ·exact hx21.get (hx20.get (hxW3.get g4 (by simp)) (own3 (by omega))) (by simp;omega)
  ·exact hx21.get (hx20.get (hxW3.get g5 (by simp)) (own3 (by omega))) (by simp;omega)
 ·obtain rfl:j=Ns.length:=by omega
  refine qx rfl g1 rfl ?_
  refine stN ⟨kd,data,size,ps,its⟩ xp xi rfl g5 zcN fun w24 hw24=>?_
  have hx24:Ext [c4] W'.heap w24.heap:=by rw [hw24];exact Ext.set _ (by simp)
  have hd24:w24.heap[c4]?=some (.cells (zca ⟨kd,data,size,ps,its⟩ xp xi).toArray zh (0,0)):=by rw [hw24];exact qg g5
  refine qx rfl hd24 rfl ?_
  refine⟨⟨kd,data,size,ps,its⟩,xp,xi,rfl,?_,by simp only;omega,by simp only;omega,fun i hi=>(hi32 i hi).2,b5,g3.own hx24 (fun c hc hlt=>by simp at hc;omega)⟩
  have hNM:NodM W'.heap w4.heap.size ⟨kd,data,size,ps,its⟩ xp xi:=⟨g2,g2',hp32,fun i hi=>(hi32 i hi).1⟩
  exact (hNM.ext hx24 (fun c hc=>by simp at hc;omega)).mono (by omega)
theorem zng {a:Int}{K:Int->Prop}(hK:∀ m:Nat,m < 18446744073709551616->K (m:Int)):cvI .u64 a K:=by
 have e:(2:Int) ^ 64=18446744073709551616:=by decide
 have h:IntKind.u64.wrap a=a % 18446744073709551616:=by
  simp only [IntKind.wrap,IntKind.bits,IntKind.signed,e,Bool.false_and,Bool.false_eq_true,if_false]
 have h1:=Int.emod_nonneg a (show (18446744073709551616:Int)≠0 by decide)
 have h2:=Int.emod_lt_of_pos a (show (0:Int) < 18446744073709551616 by decide)
 have h3:=hK (a % 18446744073709551616).toNat (by omega)
 rw [Int.toNat_of_nonneg h1] at h3
 exact⟨_,h.symm,h3⟩
theorem qhp {w:World}{H:Heap}{B i:Nat}{n:Int}{x:Option Addr×Nat×Nat}{L:List (List UInt8)}{k':List UInt8}(hw:w.heap=H) (hm:Mine H B zf 32 x (L.flatMap Bl.zbp)) (hi:i < L.length) (hk:k'.length=32) (hn:n=(i:Int)){K:World->Prop}
  (hK:∀ w',Mine w'.heap B zf 32 x ((L.set i k').flatMap Bl.zbp)->Ext (jf x) H w'.heap->K w') :
  ixS x.1 x.2.1 32 n fun t=>zbz P (storeVar zf t (arr k')) w K:=by
 have hl:=hm.len
 rw [zu Bl.zbp Bl.zaf] at hl
 rcases id hm with⟨rfl,h⟩ | ⟨b,c,h1,h2,h3,h4,h5,h6,h7⟩
 ·simp only at hl;omega
 obtain⟨a,len,cap⟩:=x
 simp only at h1 hl h4 h6
 subst h1
 refine z18 i hn (by simp only;omega) ?_
 refine zaz (v:=arr k') (by rw [szD,Bl.jy,hk]) (by rw [Bl.jy];omega) (by simpa [Value.cells,arr] using jr) hw h3 (by rw [Bl.jy];omega) fun w' hw'=>?_
 refine hK w' (z2s (o:=0+i * 32) Bl.zaf (by omega) hm hi rfl h3 (by omega) ?_) ?_
 ·rw [hw',Bl.zba hk];rfl
 ·rw [hw'];exact Ext.set _ (by simp [jf])
theorem zy2 {it:Itm}(h:it.sum.length=32):zcy it=[Value.string (strOf it.name),Value.int .i64 it.kind]++byteCells it.sum:=by
 unfold zcy;rw [Bl.zba h];rfl
theorem qhb {w:World}{H:Heap}{i:Nat}{n:Int}{a:Option Addr}{l:Nat}{L:List Itm}(hw:w.heap=H) (hL:Cells H a (L.flatMap zcy)) (hl:l=L.length) (hi:i < L.length) (h32:(L[i]).sum.length=32) (hn:n=(i:Int)){K:Array Value->Prop}
  (hK:K (byteCells (L[i]).sum).toArray):ixS a l 34 n fun t=>ldA P 32 (Addr.add t 2) w K:=by
 have hg:=List.getElem?_eq_getElem hi
 refine Bl.zcd (i:=i) zai (by omega) hL hl hg hn fun b o c T fr _ hb hsz hc _=>?_
 refine zf9 (o:=o+2) hw hb (by omega) ?_
 have e:c.extract (o+2) (o+2+32)=(byteCells (L[i]).sum).toArray:=by
  apply Array.ext_getElem?
  intro j
  rw [Array.getElem?_extract]
  by_cases hj:j < 32
  ·rw [if_pos (by omega)]
   have:=hc (j+2) (by omega)
   rw [zy2 h32,List.getElem?_append_right (by simp)] at this
   rw [show o+2+j=o+(j+2) by omega,this]
   simp
  ·rw [if_neg (by omega)]
   rw [Array.getElem?_eq_none (by simp [h32];omega)]
 rw [e];exact hK
theorem z08 {c:Array Value}{o:Nat}{it:Itm}{k':List UInt8}(h1:it.sum.length=32) (hk:k'.length=32) (hsz:o+34<=c.size) (hc:∀ j,j < 34->c[o+j]?=(zcy it)[j]?):setCells c (o+2) (byteCells k')=setCells c o (zcy ⟨it.name,it.kind,k'⟩):=by
 apply Array.ext_getElem?
 intro j
 rw [zcv (by simp [hk];omega),zcv (by rw [zai];omega),zai,show (byteCells k').length=32 by simp [hk]]
 have e1:zcy ⟨it.name,it.kind,k'⟩=[Value.string (strOf it.name),Value.int .i64 it.kind]++byteCells k':=zy2 hk
 by_cases hj:o+2<=j/\j < o+2+32
 ·rw [if_pos hj,if_pos (by omega),e1,List.getElem?_append_right (by simp;omega)]
  congr 1
 ·rw [if_neg hj]
  by_cases hj2:o<=j/\j < o+34
  ·rw [if_pos hj2,e1,List.getElem?_append_left (by simp;omega)]
   have:=hc (j-o) (by omega)
   rw [zy2 h1,List.getElem?_append_left (by simp;omega),show o+(j-o)=j by omega] at this
   exact this
  ·rw [if_neg hj2]
theorem qgz {w:World}{H:Heap}{B i:Nat}{n:Int}{x:Option Addr×Nat×Nat}{L:List Itm}{k':List UInt8}(hw:w.heap=H) (hm:Mine H B zx 34 x (L.flatMap zcy)) (hi:i < L.length) (h32:(L[i]).sum.length=32) (hk:k'.length=32) (hn:n=(i:Int)){K:World->Prop}
  (hK:∀ w',Mine w'.heap B zx 34 x ((L.set i ⟨(L[i]).name,(L[i]).kind,k'⟩).flatMap zcy)->Ext (jf x) H w'.heap->K w') :
  ixS x.1 x.2.1 34 n fun t=>zbz P (storeVar zf (Addr.add t 2) (arr k')) w K:=by
 have hl:=hm.len
 rw [zu zcy zai] at hl
 have hg:=List.getElem?_eq_getElem hi
 rcases id hm with⟨rfl,h⟩ | ⟨b,c,h1,h2,h3,h4,h5,h6,h7⟩
 ·simp only at hl;omega
 obtain⟨a,len,cap⟩:=x
 simp only at h1 hl h4 h6
 subst h1
 refine Bl.zcd (i:=i) zai (by omega) hm.cells (by simp only;omega) hg hn fun b2 o c2 T fr hkb hb hsz hc hoff=>?_
 simp only [Option.map_some,Option.some.injEq] at hkb
 subst hkb
 have hoff:=hoff rfl
 rw [h3] at hb
 simp only [Option.some.injEq,Obj.cells.injEq] at hb
 obtain⟨rfl,rfl,rfl⟩:=hb
 refine zaz (v:=arr k') (o:=o+2) (by rw [szD,Bl.jy,hk]) (by rw [Bl.jy];omega) (by simpa [Value.cells,arr] using jr) hw h3 (by rw [Bl.jy];omega) fun w' hw'=>?_
 refine hK w' (z2s (o:=o) zai (by omega) hm hi rfl h3 hoff ?_) ?_
 ·rw [hw']
  rw [show (arr k').cells.toList=byteCells k' by simp [Value.cells,arr],z08 h32 hk hsz hc]
 ·rw [hw'];exact Ext.set _ (by simp [jf])
def z2a (H:Heap) (a:Option Addr) (n:Nat):Prop:=∀ i,i < n->∃ b o c T fr,a=some ⟨b,o,none⟩/\H[b]?=some (.cells c T fr)/\o+i * 7+7<=c.size/\RawW H (c.extract (o+i * 7) (o+i * 7+7))
theorem z2a.ext {H H':Heap}{a:Option Addr}{n:Nat}(h:z2a H a n) (hx:Ext [] H H'):z2a H' a n:=by
 intro i hi
 obtain⟨b,o,c,T,fr,h1,h2,h3,h4⟩:=h i hi
 exact⟨b,o,c,T,fr,h1,hx.get h2 (by simp),h3,h4.ext hx⟩
theorem qfc {w:World}{H:Heap}{a:Option Addr}{n i:Nat}{m:Int}(hw:w.heap=H) (h:z2a H a n) (hi:i < n) (hm:m=(i:Int)){K:Array Value->Prop}(hK:∀ c,RawW H c->K c):ixS a n 7 m fun p=>ldA P 7 p w K:=by
 obtain⟨b,o,c,T,fr,rfl,hb,hsz,hr⟩:=h i hi
 refine z18 i hm hi ?_
 exact zf9 hw hb hsz (hK _ hr)
structure LayR (H:Heap) (B p:Nat) (fp:List Nat) (r:Bl.SM) (k p':Nat) (fp':List Nat) (rl:Bl.SM) (x:Option Addr×Nat×Nat) (ds:List (List UInt8)):Prop where
 st:Bl.Store H fp p 1048576 r k
 rs:Bl.zc4 H fp' p' 1048576 rl
 same:∀ k,Bl.zaa r k=Bl.zaa rl k
 rlen:r.length<=ds.length
 tot:Bl.total r<=4096 * ds.length
 small:∀ k L,Bl.zaa r k=some L->L.length<=1099511627775
 sums:Mine H B zf 32 x (ds.flatMap Bl.zbp)
 d32:∀ d∈ds,d.length=32
 dlen:ds.length<=20
 lo:∀ b∈fp,B<=b/\b < H.size
 lo':∀ b∈fp',B<=b/\b < H.size
 ap:∀ b∈fp,b∉fp'
 apx:∀ b∈jf x,b∉fp/\b∉fp'
theorem LayR.ext {H H':Heap}{B p:Nat}{fp:List Nat}{r:Bl.SM}{k p':Nat}{fp':List Nat}{rl:Bl.SM}{x:Option Addr×Nat×Nat}{ds:List (List UInt8)}(h:LayR H B p fp r k p' fp' rl x ds) (hx:Ext [] H H'):LayR H' B p fp r k p' fp' rl x ds:=
 { h with st:=h.st.ext hx (by simp),rs:=h.rs.ext hx (by simp),sums:=h.sums.ext hx (by simp),lo:=fun b hb=>⟨(h.lo b hb).1,by have:=(h.lo b hb).2;have:=hx.1;omega⟩,lo':=fun b hb=>⟨(h.lo' b hb).1,by have:=(h.lo' b hb).2;have:=hx.1;omega⟩ }
theorem LayR.mono {H:Heap}{B B' p:Nat}{fp:List Nat}{r:Bl.SM}{k p':Nat}{fp':List Nat}{rl:Bl.SM}{x:Option Addr×Nat×Nat}{ds:List (List UInt8)}(h:LayR H B p fp r k p' fp' rl x ds) (hB:B'<=B):LayR H B' p fp r k p' fp' rl x ds:=
 { h with sums:=h.sums.mono hB,lo:=fun b hb=>⟨by have:=(h.lo b hb).1;omega,(h.lo b hb).2⟩,lo':=fun b hb=>⟨by have:=(h.lo' b hb).1;omega,(h.lo' b hb).2⟩ }
theorem zfo {H:Heap}{fp:List Nat}{p:Nat}{q:Int}{r:Bl.SM}{c:Nat}(h:Bl.Store H fp p q r c):MOk (fun L:List UInt8=>L.length=32) r c:=by
 obtain⟨_,_,_,h,_⟩:=h;exact h
theorem zok {H:Heap}{fp:List Nat}{p:Nat}{q:Int}{r:Bl.SM}(h:Bl.zc4 H fp p q r):(r.map (·.1)).Nodup:=by
 obtain⟨_,_,_,_,_,_,_,h⟩:=h;exact h.rise.nodup
theorem LayR.view {H:Heap}{B p:Nat}{fp:List Nat}{r:Bl.SM}{k p':Nat}{fp':List Nat}{rl:Bl.SM}{x:Option Addr×Nat×Nat}{ds:List (List UInt8)}(h:LayR H B p fp r k p' fp' rl x ds):Bl.total r=Bl.total rl/\r.length=rl.length:=
 Bl.zqj (zfo h.st).keys (zok h.rs) h.same
theorem LayR.big {H:Heap}{B p:Nat}{fp:List Nat}{r:Bl.SM}{k p':Nat}{fp':List Nat}{rl:Bl.SM}{x:Option Addr×Nat×Nat}{ds:List (List UInt8)}(h:LayR H B p fp r k p' fp' rl x ds):∀ y∈rl,y.2.1.2.length < 1099511627776:=by
 intro y hy
 have hg:zbx rl y.1=some y.2.1:=zev (zok h.rs) (c:=y.2.2) hy
 have hv:Bl.zaa rl y.1=some y.2.1.2:=by unfold Bl.zaa;rw [hg];rfl
 have:=h.small y.1 _ ((h.same _).trans hv)
 omega
theorem zrx {l:List Nat}{n:Nat}(h:n∈l):n<=l.sum:=by
 induction l with
 | nil=>cases h
 | cons a l ih=>
  simp only [List.sum_cons]
  rcases List.mem_cons.1 h with rfl | h
  ·omega
  ·have:=ih h;omega
theorem qiu (a:Option Addr):a.map (·.add (0 * 1))=a:=by cases a <;> rfl
theorem qgl {L:List (List UInt8)}(h:∀ p∈L,p.length=32){j:Nat}{k:List UInt8}(hk:k.length=32):∀ p∈L.set j k,p.length=32:=by
 intro p hp
 rcases List.mem_or_eq_of_mem_set hp with h1 | rfl
 ·exact h p h1
 ·exact hk
set_option maxHeartbeats 64000000 in
theorem qik {w:World}{H:Heap}{a:Option Addr}{n nc:Nat}{dr sp:Int}(hw:w.heap=H) (hR:Bl.Rounds H) (hr:z2a H a n) :
  qc P zt0 #[.agg #[.slice a n nc,.int .i64 dr,.int .i64 sp]] w fun e w'=>∃ p fp r k p' fp' rl x ds,e=.returned (.tuple #[.pointer (some ⟨p,0,none⟩),.pointer (some ⟨p',0,none⟩),zbv x])/\LayR w'.heap H.size p fp r k p' fp' rl x ds/\Ext [] H w'.heap:=by
 have hH0:0 < H.size:=by obtain⟨_,_,_,h,_⟩:=hR;exact lt_of_get h
 refine z6m ?_
 unfold zzk
 refine jv hw fun w1 hw1=>?_
 have hx1:Ext [] H w1.heap:=by rw [hw1];exact .push _
 have hb1:w1.heap[H.size]?=some (.cells #[.slice a n nc,.int .i64 dr,.int .i64 sp] ze4 (0,0)):=by rw [hw1];exact zn
 have s1:=lt_of_get hb1
 refine zk (Bl.zzb 1048576 rfl) ?_
 rintro e w2 ⟨p,fp0,rfl,hS2,hx2,hfp2⟩
 rw [show max (1048576:Int) 0=1048576 from by decide] at hS2
 refine⟨some ⟨p,0,none⟩,rfl,?_⟩
 refine zk (Bl.qeh 1048576 rfl) ?_
 rintro e w3 ⟨p',rfl,hT3,hx3,hp3,hp3'⟩
 rw [show max (1048576:Int) 0=1048576 from by decide] at hT3
 refine⟨some ⟨p',0,none⟩,rfl,?_⟩
 have hx03:=(hx1.trans hx2).trans hx3
 have s2:=hx2.1
 have s3:=hx3.1
 have hb3:=(hx2.trans hx3).get hb1 (by simp)
 generalize hB:w1.heap.size=B at *
 have hLY0:LayR w3.heap B p fp0 [] 0 p' [p'] [] (none,0,0) []:=⟨hS2.ext hx3 (by simp),hT3,fun _=>rfl,Nat.le_refl _,by simp [Bl.total],by intro k L h;simp [Bl.zaa,zbx] at h,.inl ⟨rfl,rfl⟩,by simp,by simp,fun b hb=>⟨(hfp2 b hb).1,by have:=(hfp2 b hb).2;omega⟩,fun b hb=>by simp at hb;subst hb;exact⟨by omega,hp3'⟩,fun b hb h=>by simp at h;subst h;have:=(hfp2 _ hb).2;omega,by simp [jf]⟩
 refine Go.Fw.joinP_of (fun (x:Option Addr×Nat×Nat) W=>∃ ds fp r k fp' rl,LayR W.heap B p fp r k p' fp' rl x ds/\Ext [] H W.heap/\W.heap[H.size]?=some (.cells #[.slice a n nc,.int .i64 dr,.int .i64 sp] ze4 (0,0))) ?_ ?_
 ·refine jg (fun (s:(Option Addr×Nat×Nat)×Int) W=>∃ (i:Nat) (x:Option Addr×Nat×Nat) (ds:List (List UInt8)) (fp:List Nat) (r:Bl.SM) (k:Nat) (fp':List Nat) (rl:Bl.SM),s=(x,(i:Int))/\ds.length=i/\LayR W.heap B p fp r k p' fp' rl x ds/\Ext [] H W.heap/\W.heap[H.size]?=some (.cells #[.slice a n nc,.int .i64 dr,.int .i64 sp] ze4 (0,0))) (fun s _=>(20-s.2).toNat)
   ⟨0,(none,0,0),[],fp0,[],0,[p'],[],rfl,rfl,hLY0,hx03,hb3⟩ ?_
  rintro _ W ⟨i,x,ds,fp,r,k,fp',rl,rfl,hdl,hLY,hx,hb⟩
  refine Go.Fw.joinP_of (fun _ W'=>W'=W/\i < 20/\i < n) ?_ ?_
  ·refine je (s:=.slc) (t:=(a,n,nc)) rfl hb rfl ?_
   refine zq (fun h1=>?_) (fun _=>⟨ds,fp,r,k,fp',rl,hLY,hx,hb⟩)
   have h1:(i:Int) < (n:Int):=h1
   refine zq (fun h2=>?_) (fun _=>⟨ds,fp,r,k,fp',rl,hLY,hx,hb⟩)
   have h2:(i:Int) < 20:=h2
   exact⟨rfl,by omega,by omega⟩
  rintro _ V0 ⟨hWW,h20,hin⟩
  have hWW:=hWW.symm
  subst hWW
  refine je (s:=.slc) (t:=(a,n,nc)) rfl hb rfl ?_
  refine qfc rfl (hr.ext hx) hin rfl fun c hc=>?_
  refine zk (qhm rfl hc) ?_
  rintro e w6 ⟨nd,xp,xi,rfl,hN6,npl,nil,nnm,ndl,hx6⟩
  refine⟨.agg (zca nd xp xi).toArray,rfl,?_⟩
  generalize hW5:W.heap=W5 at *
  refine z8c nd xp xi rfl fun w8 hw8=>?_
  have hx8:Ext [] w6.heap w8.heap:=by rw [hw8];exact .push _
  have hn8:w8.heap[w6.heap.size]?=some (.cells (zca nd xp xi).toArray zh (0,0)):=by rw [hw8];exact zn
  have hx58:=hx6.trans hx8
  have hN8:=hN6.ext hx8 (by simp)
  have s6:=hx6.1
  have hxl:x.2.1=ds.length:=by have:=hLY.sums.len;rw [zu Bl.zbp Bl.zaf] at this;omega
  generalize hb9:w6.heap.size=b9 at *
  refine jg (fun (s:Int) V=>∃ (j:Nat) (ps:List (List UInt8)),s=(j:Int)/\j<=nd.parts.length/\ps.length=nd.parts.length/\(∀ q∈ps,q.length=32)/\V.heap[b9]?=some (.cells (zca nd xp xi).toArray zh (0,0))/\Mine V.heap W5.size zf 32 xp (ps.flatMap Bl.zbp)/\Mine V.heap W5.size zx 34 xi (nd.items.flatMap zcy)/\Ext [] W5 V.heap) (fun s _=>(nd.parts.length-s).toNat)
   ⟨0,nd.parts,rfl,Nat.zero_le _,rfl,hN8.p32,hn8,hN8.parts,hN8.items,hx58⟩ ?_
  rintro _ V ⟨j,ps,rfl,hj,hpl,hp32,g1,g2,g3,g4⟩
  have hxpl:xp.2.1=ps.length:=by have:=g2.len;rw [zu Bl.zbp Bl.zaf] at this;omega
  refine je (s:=.slc) (t:=xp) (o:=3) rfl g1 rfl ?_
  refine zq (fun hlt=>?_) (fun hge=>?_)
  ·have hjl:j < ps.length:=by have hlt:(j:Int) < (xp.2.1:Int):=hlt;omega
   refine jl rfl fun w10 hw10=>?_
   rw [<-hw10] at g1 g2 g3 g4
   refine je (s:=.slc) (t:=xp) (o:=3) rfl g1 rfl ?_
   refine je (s:=.slc) (t:=xp) (o:=3) rfl g1 rfl ?_
   have hget:=List.getElem?_eq_getElem hjl
   have hq:=hp32 _ (List.getElem_mem hjl)
   refine zce (i:=j) Bl.zaf (by omega) rfl g2.cells hxpl hget rfl ?_
   rw [Bl.zba hq]
   refine zk (z8g (L:=ds) (lc:=x.2.2) rfl hq (hLY.sums.ext g4 (by simp)).cells hxl hLY.d32) ?_
   rintro e w11 ⟨k',rfl,hk',hx11⟩
   refine⟨arr k',rfl,?_⟩
   refine⟨je (s:=.slc) (o:=3) (t:=xp) (K:=fun z=>Value.slice z.1 z.2.1 z.2.2=Value.slice xp.1 xp.2.1 xp.2.2) rfl (hx11.get g1 (by simp)) rfl rfl,?_⟩
   refine qhp (i:=j) rfl (g2.ext hx11 (by simp)) hjl hk' rfl fun w12 hm12 hx12=>?_
   refine jd ((j+1:Nat):Int) (by simp) (by omega) (by omega) ?_
   have own5:∀ c,c∈jf xp->W5.size<=c:=fun c hc=>xu g2 _ hc
   have hb9n:b9∉jf xp:=fun h=>by
    obtain⟨cs,fr,hg⟩:=zeb g2 _ h
    rw [g1] at hg;simp only [Option.some.injEq,Obj.cells.injEq] at hg;exact absurd hg.2.1 (by decide)
   refine⟨⟨j+1,ps.set j k',rfl,by omega,by simpa using hpl,qgl hp32 hk',hx12.get (hx11.get g1 (by simp)) hb9n,hm12,(g3.ext hx11 (by simp)).ext hx12 (zj8 (g3.ext hx11 (by simp)) (g2.ext hx11 (by simp)) (by decide)),(g4.trans hx11).own hx12 (fun c hc hlt=>by have:=own5 c hc;omega)⟩,by omega⟩
  clear hj hge
  refine jg (fun (s:Int) V=>∃ (j:Nat) (its:List Itm),s=(j:Int)/\j<=nd.items.length/\its.length=nd.items.length/\(∀ q∈its,q.sum.length=32/\q.name.length<=1048576)/\V.heap[b9]?=some (.cells (zca nd xp xi).toArray zh (0,0))/\Mine V.heap W5.size zf 32 xp (ps.flatMap Bl.zbp)/\Mine V.heap W5.size zx 34 xi (its.flatMap zcy)/\Ext [] W5 V.heap) (fun s _=>(nd.items.length-s).toNat)
   ⟨0,nd.items,rfl,Nat.zero_le _,rfl,fun q hq=>⟨hN8.i32 q hq,nnm q hq⟩,g1,g2,g3,g4⟩ ?_
  clear g1 g2 g3 g4
  rintro _ V2 ⟨j2,its,rfl,hj,hil,hi32,g1,g2,g3,g4⟩
  have hxil:xi.2.1=its.length:=by have:=g3.len;rw [zu zcy zai] at this;omega
  refine je (s:=.slc) (t:=xi) (o:=4) rfl g1 rfl ?_
  refine zq (fun hlt=>?_) (fun hge=>?_)
  ·have hjl:j2 < its.length:=by have hlt:(j2:Int) < (xi.2.1:Int):=hlt;omega
   refine jl rfl fun w10 hw10=>?_
   rw [<-hw10] at g1 g2 g3 g4
   refine je (s:=.slc) (t:=xi) (o:=4) rfl g1 rfl ?_
   refine je (s:=.slc) (t:=xi) (o:=4) rfl g1 rfl ?_
   have hq:=hi32 _ (List.getElem_mem hjl)
   refine qhb (i:=j2) rfl g3.cells hxil hjl hq.1 rfl ?_
   refine zk (z8g (L:=ds) (lc:=x.2.2) rfl hq.1 (hLY.sums.ext g4 (by simp)).cells hxl hLY.d32) ?_
   rintro e w11 ⟨k',rfl,hk',hx11⟩
   refine⟨arr k',rfl,?_⟩
   refine⟨je (s:=.slc) (o:=4) (t:=xi) (K:=fun z=>Value.slice z.1 z.2.1 z.2.2=Value.slice xi.1 xi.2.1 xi.2.2) rfl (hx11.get g1 (by simp)) rfl rfl,?_⟩
   refine qgz (i:=j2) rfl (g3.ext hx11 (by simp)) hjl hq.1 hk' rfl fun w12 hm12 hx12=>?_
   refine jd ((j2+1:Nat):Int) (by simp) (by omega) (by omega) ?_
   have own5:∀ c,c∈jf xi->W5.size<=c:=fun c hc=>xu g3 _ hc
   have hb9n:b9∉jf xi:=fun h=>by
    obtain⟨cs,fr,hg⟩:=zeb g3 _ h
    rw [g1] at hg;simp only [Option.some.injEq,Obj.cells.injEq] at hg;exact absurd hg.2.1 (by decide)
   refine⟨⟨j2+1,its.set j2 ⟨its[j2].name,its[j2].kind,k'⟩,rfl,by omega,by simpa using hil,fun q hq2=>?_,hx12.get (hx11.get g1 (by simp)) hb9n,(g2.ext hx11 (by simp)).ext hx12 (zj8 (g2.ext hx11 (by simp)) (g3.ext hx11 (by simp)) (by decide)),hm12,(g4.trans hx11).own hx12 (fun c hc hlt=>by have:=own5 c hc;omega)⟩,by omega⟩
   rcases List.mem_or_eq_of_mem_set hq2 with h | rfl
   ·exact hi32 q h
   ·exact⟨hk',hq.2⟩
  clear hj hge
  refine je (s:=.str) (o:=1) (t:=strOf nd.data) rfl g1 rfl ?_
  refine qhy rfl fun y w17 hcy hyl hyc hoy hx17 hlt17=>?_
  have s4:=g4.1
  refine Go.Fw.joinP_of (fun (z:Option Addr×Nat×Nat) U=>∃ L,Cells U.heap z.1 (byteCells L)/\z.2.1=L.length/\z.2.1<=z.2.2/\(∀ b∈jf z,W5.size<=b)/\Ext [] W5 U.heap) ?_ ?_
  ·refine qx rfl (hx17.get g1 (by simp)) rfl ?_
   have hNW:NodW w17.heap ⟨nd.kind,nd.data,nd.size,ps,its⟩ xp xi:=(⟨g2.ext hx17 (by simp),g3.ext hx17 (by simp),hp32,fun q hq=>(hi32 q hq).1⟩:NodM w17.heap W5.size ⟨nd.kind,nd.data,nd.size,ps,its⟩ xp xi).nodW
   refine zk (z5w (n:=⟨nd.kind,nd.data,nd.size,ps,its⟩) rfl hNW (fun q hq=>by have:=(hi32 q hq).2;omega)) ?_
   rintro e w18 ⟨rfl,hx18⟩
   refine⟨_,rfl,?_⟩
   cases hrt:zar ⟨nd.kind,nd.data,nd.size,ps,its⟩ with
   | false=>exact jm rfl ⟨nd.data,hcy.ext hx18 (by simp),hyl,hyc,fun b hb=>by rw [hoy] at hb;have hb:=List.mem_singleton.1 hb;omega,(g4.trans hx17).trans hx18⟩
   | true=>
    refine zah rfl ?_
    refine qx rfl (hx18.get (hx17.get g1 (by simp)) (by simp)) rfl ?_
    refine zk (z6u (n:=⟨nd.kind,nd.data,nd.size,ps,its⟩) rfl (hNW.ext hx18) (zso hrt)) ?_
    rintro e w19 ⟨y2,rfl,hm19,hx19⟩
    refine⟨y2,rfl,?_⟩
    exact⟨zi8 ⟨nd.kind,nd.data,nd.size,ps,its⟩,hm19.cells,by have h:=hm19.len;simp only [byteCells,List.length_map,Nat.mul_one] at h;exact h.symm,zfm hm19,fun b hb=>by have:=xu hm19 b hb;have:=hx17.1;have:=hx18.1;omega,((g4.trans hx17).trans hx18).trans hx19⟩
  clear g1 g2 g3 g4 hcy hyl hyc hoy hx17 hlt17 s4
  rintro z U ⟨L0,hcz,hzl,hzc,hzo,hxU⟩
  refine Go.Fw.joinP_of (fun (z:Option Addr×Nat×Nat) U=>∃ L,Cells U.heap z.1 (byteCells L)/\z.2.1=L.length/\z.2.1<=z.2.2/\(∀ b∈jf z,W5.size<=b)/\Ext [] W5 U.heap/\L.length<=4096) ?_ ?_
  ·refine zq (fun h=>?_) (fun h=>?_)
   ·have h:(z.2.1:Int) > 4096:=h
    refine qp (s:=.slc) (if z.2.2=0 then z.1 else z.1.map (·.add (0 * 1)),4096-0,z.2.2-0) (za1 uS8 sz8 .no (.yes rfl) (Nat.zero_le _) (by omega)) ?_
    have e1:(if z.2.2=0 then z.1 else z.1.map (·.add (0 * 1)))=z.1:=by rw [qiu];split <;> rfl
    rw [e1]
    refine⟨L0.take 4096,?_,by simp;omega,by simp only;omega,hzo,hxU,by simp;omega⟩
    have:=hcz.take 4096
    rw [zf1] at this
    exact this
   ·have h:¬(z.2.1:Int) > 4096:=h
    exact⟨L0,hcz,hzl,hzc,hzo,hxU,by omega⟩
  clear hcz hzl hzc hzo hxU
  rintro z2 U2 ⟨L,hcz,hzl,hzc,hzo,hxU,hL4⟩
  have hLU:=hLY.ext hxU
  have hview:=hLU.view
  have sU:=hxU.1
  have hza:∀ (f:List Nat),(∀ b∈f,b < W5.size)->L≠[]->∀ y,z2.1=some y->y.block∉f:=fun f hf _ y hy h=>by
   have h1:=hf _ h
   have h2:=hzo y.block (by unfold jf;rw [hy];simp)
   omega
  have hxHU:=hx.trans hxU
  have sB:H.size<=B:=by omega
  refine zk (Bl.qga (L:=L) rfl hLU.st (fun b hb=>(hLU.lo b hb).2) (hR.ext hxHU (by simp)) (fun h=>by have:=(hLU.lo 0 h).1;omega) hcz hzl hzc (hza fp fun b hb=>(hLY.lo b hb).2) (by have:=hLU.tot;have:=hLU.dlen;omega) (by decide) (by decide) (fun k M hM=>by have:=hLU.small k M hM;omega)) ?_
  rintro e w22 ⟨code,r2,k2,fp2,rfl,hS22,hx22,hfp22,hsub22,hput,htot22⟩
  refine⟨(arr (if code=0 then Sha.sum L else Bl.nought),code),rfl,?_⟩
  have hT22:=hLU.rs.ext hx22 (fun b hb h=>hLU.ap b h hb)
  have s22:=hx22.1
  have hzb:∀ (f:List Nat),(∀ b∈f,b < W5.size)->∀ x,z2.1=some x->byteCells L≠[]->x.block∉f:=fun f hf x hx hne=>hza f hf (by rintro rfl;exact hne rfl) x hx
  have hcz22:Cells w22.heap z2.1 (byteCells L):=hcz.ext hx22 (hzb fp fun b hb=>(hLY.lo b hb).2)
  refine zk (Bl.qat (L:=L) rfl hT22 (fun b hb=>by have:=(hLU.lo' b hb).2;omega) hcz22 hzl hzc (hza fp' fun b hb=>(hLY.lo' b hb).2) (by have:=hLU.tot;have:=hLU.dlen;omega) (by have:=hLU.rlen;have:=hLU.dlen;omega) (by decide) (by decide) hLU.big (by omega)) ?_
  rintro e w23 ⟨code',rl2,fp2',rfl,hT23,hx23,hsub23,hput',_,_,_⟩
  refine⟨(arr (if code'=0 then Sha.sum L else Bl.nought),code'),rfl,?_⟩
  have hap2:∀ b∈fp2,b∉fp2':=by
   intro b hb hb'
   rcases hsub22 b hb with h | h
   ·rcases hsub23 b hb' with h' | h'
    ·exact hLU.ap b h h'
    ·have:=(hLU.lo b h).2;omega
   ·rcases hsub23 b hb' with h' | h'
    ·have:=(hLU.lo' b h').2;omega
    ·have:=hfp22 b hb;omega
  have hS23:=hS22.ext hx23 (fun b hb h=>by
   rcases hsub22 b hb with h1 | h1
   ·exact hLU.ap b h1 h
   ·have:=(hLU.lo' b h).2;omega)
  have hcz23:Cells w23.heap z2.1 (byteCells L):=hcz22.ext hx23 (hzb fp' fun b hb=>(hLY.lo' b hb).2)
  refine zk (Bl.znh (L:=L) rfl hcz23 hzl (by omega)) ?_
  rintro e w24 ⟨rfl,hx24⟩
  refine⟨arr (Sha.sum L),rfl,?_⟩
  have hm22:=hLU.sums.ext hx22 (fun b hb=>(hLU.apx b hb).1)
  have hm24:=(hm22.ext hx23 (fun b hb=>(hLU.apx b hb).2)).ext hx24 (by simp)
  have s23:=hx23.1
  have s24:=hx24.1
  have hxlt:∀ b∈jf x,b < U2.heap.size:=fun b hb=>(zbh hLU.sums b hb).1
  have hBW:B<=U2.heap.size:=by have:=(hLU.lo' p' (by obtain⟨_,_,_,h,_⟩:=hLU.rs;exact h));omega
  refine zyo rfl hm24 (by omega) zad (by omega) fun x2 w26 hm26 hx26 hs26=>?_
  have s26:=hx26.1
  have hS26:=(hS23.ext hx24 (by simp)).ext hx26 (fun b hb h=>by
   rcases hsub22 b hb with h1 | h1
   ·exact (hLU.apx b h).1 h1
   ·have:=hxlt b h;omega)
  have hT26:=(hT23.ext hx24 (by simp)).ext hx26 (fun b hb h=>by
   rcases hsub23 b hb with h1 | h1
   ·exact (hLU.apx b h).2 h1
   ·have:=hxlt b h;omega)
  have hlo2:∀ b∈fp2,B<=b/\b < w23.heap.size:=fun b hb=>by
   have:=hfp22 b hb
   rcases hsub22 b hb with h1 | h1
   ·have:=hLU.lo b h1;omega
   ·omega
  have hlo2':∀ b∈fp2',B<=b/\b < w23.heap.size:=fun b hb=>by
   rcases hsub23 b hb with h1 | h1
   ·have:=hLU.lo' b h1;omega
   ·omega
  have hv2:=(Bl.zhn hput hput' hLU.same hview.1).2
  have hsmall2:∀ k M,Bl.zaa r2 k=some M->M.length<=1099511627775:=by
   intro k0 M hM
   obtain⟨c0,hc0⟩:∃ c0,(k0,(c0:Bl.BV×Nat))∈r2/\c0.1.2=M:=by
    unfold Bl.zaa at hM
    cases hg:zbx r2 k0 with
    | none=>rw [hg] at hM;cases hM
    | some v=>
     rw [hg] at hM
     obtain⟨c1,hc1⟩:=zct hg
     exact⟨(v,c1),hc1,by simpa using hM⟩
   have h1:c0.1.2.length<=Bl.total r2:=zrx (List.mem_map.2 ⟨_,hc0.1,rfl⟩)
   rw [hc0.2] at h1
   have:=hLU.tot;have:=hLU.dlen
   omega
  have hfin:LayR w26.heap B p fp2 r2 k2 p' fp2' rl2 x2 (ds++[Sha.sum L]):=
   ⟨hS26,hT26,hv2,by have:=z2k (zfo hLU.st) (zfo hS22) hput;have:=hLU.rlen;simp;omega,by have:=hLU.tot;simp;omega,hsmall2,hm26,fun d hd=>by
    rcases List.mem_append.1 hd with h | h
    ·exact hLU.d32 d h
    ·simp at h;subst h;exact zad,by simp;omega,fun b hb=>by have:=hlo2 b hb;omega,fun b hb=>by have:=hlo2' b hb;omega,hap2,fun b hb=>by
    rcases hs26 b hb with h | h
    ·have h5:=hxlt b h
     refine⟨fun h1=>?_,fun h1=>?_⟩
     ·rcases hsub22 b h1 with h2 | h2
      ·exact (hLU.apx b h).1 h2
      ·omega
     ·rcases hsub23 b h1 with h2 | h2
      ·exact (hLU.apx b h).2 h2
      ·omega
    ·exact⟨fun h1=>by have:=hlo2 b h1;omega,fun h1=>by have:=hlo2' b h1;omega⟩⟩
  have hlast:Ext fp U2.heap w22.heap:=hx22
  have hxE:Ext [] H w26.heap:=(((hxHU.own hx22 (fun b hb hlt=>by have:=(hLU.lo b hb).1;omega)).own hx23 (fun b hb hlt=>by have:=(hLU.lo' b hb).1;omega)).trans hx24).own hx26 (fun b hb hlt=>by have:=xu hLU.sums b hb;omega)
  refine jd ((i+1:Nat):Int) (by simp) (by omega) (by omega) ?_
  refine⟨⟨i+1,x2,ds++[Sha.sum L],fp2,r2,k2,fp2',rl2,rfl,by simp [hdl],hfin,hxE,?_⟩,by simp only;omega⟩
  have hbU:=hxU.get hb (by simp)
  have hb22:=hx22.get hbU (fun h=>by have:=(hLU.lo _ h).1;omega)
  have hb23:=hx23.get hb22 (fun h=>by have:=(hLU.lo' _ h).1;omega)
  exact hx26.get (hx24.get hb23 (by simp)) (fun h=>by have:=xu hLU.sums _ h;omega)
 clear hLY0 hS2 hT3
 rintro x W ⟨ds,fp,r,k,fp',rl,hLY,hx,hb⟩
 have hxl:x.2.1=ds.length:=by have:=hLY.sums.len;rw [zu Bl.zbp Bl.zaf] at this;omega
 have hd20:=hLY.dlen
 refine je (s:=.int .i64) (o:=1) (t:=dr) rfl hb rfl ?_
 refine zng fun m hm=>?_
 refine jd ((ds.length+1:Nat):Int) (by rw [hxl];simp) (by omega) (by omega) ?_
 refine zfx (by omega) (by omega) ?_
 refine zp8 m (ds.length+1) rfl rfl (by omega) ?_
 have hmod:=Nat.mod_lt m (show 0 < ds.length+1 by omega)
 refine zg5 (by omega) (by omega) ?_
 generalize m % (ds.length+1)=j at hmod |-
 refine Go.Fw.joinP_of (fun _ W'=>∃ r k fp' rl,LayR W'.heap B p fp r k p' fp' rl x ds/\Ext [] H W'.heap/\W'.heap[H.size]?=some (.cells #[.slice a n nc,.int .i64 dr,.int .i64 sp] ze4 (0,0))) ?_ ?_
 ·refine zq (fun hlt=>?_) (fun _=>⟨r,k,fp',rl,hLY,hx,hb⟩)
  have hjl:j < ds.length:=by have hlt:(j:Int) < (x.2.1:Int):=hlt;omega
  have hget:=List.getElem?_eq_getElem hjl
  have hq:=hLY.d32 _ (List.getElem_mem hjl)
  generalize ds[j]=d at hget hq
  refine zce (i:=j) Bl.zaf (by omega) rfl hLY.sums.cells hxl hget rfl ?_
  rw [Bl.zba hq]
  refine zk (Bl.qgy rfl hLY.st hq (by have:=hLY.tot;omega)) ?_
  rintro e w28 ⟨rfl,hS28,hx28⟩
  refine⟨_,rfl,?_⟩
  have hm28:=hLY.sums.ext hx28 (fun b hb=>(hLY.apx b hb).1)
  refine zce (i:=j) Bl.zaf (by omega) rfl hm28.cells hxl hget rfl ?_
  rw [Bl.zba hq]
  have hT28:=hLY.rs.ext hx28 (fun b hb h=>hLY.ap b h hb)
  refine zk (Bl.qf8 rfl hT28 hq (by have:=hLY.view.2;have:=hLY.rlen;omega)) ?_
  rintro e w29 ⟨rfl,rl2,fp2',hT29,hx29,hsub29,hv29⟩
  refine⟨_,rfl,?_⟩
  have s28:=hx28.1
  have s29:=hx29.1
  have hxlt:∀ b∈jf x,b < W.heap.size:=fun b hb=>(zbh hLY.sums b hb).1
  have htl:Bl.total (zl7 r d)<=Bl.total r/\(zl7 r d).length<=r.length:=by
   refine⟨?_,List.length_filter_le _ _⟩
   cases hg:zbx r d with
   | none=>
    have:zl7 r d=r:=List.filter_eq_self.2 fun y hy=>by
     simp only [bne_iff_ne,ne_eq]
     rintro rfl
     have:=zev (zfo hLY.st).keys (c:=y.2.2) (show (y.1,y.2.1,y.2.2)∈r from hy)
     rw [hg] at this;cases this
    rw [this];exact Nat.le_refl _
   | some v=>have:=Bl.z1g (zfo hLY.st) hg;omega
  refine⟨zl7 r d,k,fp2',rl2,⟨hS28.ext hx29 (fun b hb h=>hLY.ap b hb h),hT29,fun k'=>by rw [Bl.zx6,hv29,hLY.same],by have:=hLY.rlen;omega,by have:=hLY.tot;omega,fun k' M hM=>by
    rw [Bl.zx6] at hM
    split at hM
    ·cases hM
    ·exact hLY.small k' M hM,hm28.ext hx29 (fun b hb=>(hLY.apx b hb).2),hLY.d32,hLY.dlen,fun b hb=>by have:=hLY.lo b hb;omega,fun b hb=>by
    rcases hsub29 b hb with h | h
    ·have:=hLY.lo' b h;omega
    ·have:=hLY.lo' p' (by obtain⟨_,_,_,h,_⟩:=hLY.rs;exact h);omega,fun b hb h=>by
    rcases hsub29 b h with h | h
    ·exact hLY.ap b hb h
    ·have:=hLY.lo b hb;omega,fun b hb=>⟨(hLY.apx b hb).1,fun h=>by
     rcases hsub29 b h with h | h
     ·exact (hLY.apx b hb).2 h
     ·have:=hxlt b hb;omega⟩⟩,(hx.own hx28 (fun b hb hlt=>by have:=(hLY.lo b hb).1;omega)).own hx29 (fun b hb hlt=>by have:=(hLY.lo' b hb).1;omega),?_⟩
  exact hx29.get (hx28.get hb (fun h=>by have:=(hLY.lo _ h).1;omega)) (fun h=>by have:=(hLY.lo' _ h).1;omega)
 clear hLY hx hb
 rintro _ W ⟨r,k,fp',rl,hLY,hx,hb⟩
 refine je (s:=.int .i64) (o:=2) (t:=sp) rfl hb rfl ?_
 refine zng fun m hm=>?_
 refine jd ((ds.length+1:Nat):Int) (by rw [hxl];simp) (by omega) (by omega) ?_
 refine zfx (by omega) (by omega) ?_
 refine zp8 m (ds.length+1) rfl rfl (by omega) ?_
 have hmod:=Nat.mod_lt m (show 0 < ds.length+1 by omega)
 refine zg5 (by omega) (by omega) ?_
 generalize m % (ds.length+1)=j at hmod |-
 refine Go.Fw.joinP_of (fun _ W'=>∃ r k rl,LayR W'.heap B p fp r k p' fp' rl x ds/\Ext [] H W'.heap) ?_ ?_
 ·refine zq (fun hlt=>?_) (fun _=>⟨r,k,rl,hLY,hx⟩)
  have hjl:j < ds.length:=by have hlt:(j:Int) < (x.2.1:Int):=hlt;omega
  have hget:=List.getElem?_eq_getElem hjl
  have hq:=hLY.d32 _ (List.getElem_mem hjl)
  generalize ds[j]=d at hget hq
  refine zce (i:=j) Bl.zaf (by omega) rfl hLY.sums.cells hxl hget rfl ?_
  rw [Bl.zba hq]
  refine zk (Bl.qfg (at_:=0) (t:=1) rfl hLY.st hq) ?_
  rintro e w28 ⟨rfl,r2,hS28,hx28,ht28,hl28,hv28⟩
  refine⟨_,rfl,?_⟩
  have hm28:=hLY.sums.ext hx28 (fun b hb=>(hLY.apx b hb).1)
  refine zce (i:=j) Bl.zaf (by omega) rfl hm28.cells hxl hget rfl ?_
  rw [Bl.zba hq]
  have hT28:=hLY.rs.ext hx28 (fun b hb h=>hLY.ap b h hb)
  refine zk (Bl.qb9 (at_:=0) (t:=1) rfl hT28 hq (by have:=hLY.view.2;have:=hLY.rlen;omega)) ?_
  rintro e w29 ⟨rfl,rl2,hT29,hx29,hv29⟩
  refine⟨_,rfl,?_⟩
  have s28:=hx28.1
  have s29:=hx29.1
  refine⟨r2,k,rl2,⟨hS28.ext hx29 (fun b hb h=>hLY.ap b hb h),hT29,fun k'=>by rw [hv28,hv29,hLY.same,hLY.same],by have:=hLY.rlen;omega,by have:=hLY.tot;omega,fun k' M hM=>by
    rw [hv28] at hM
    split at hM
    ·cases hg:Bl.zaa r d with
     | none=>rw [hg] at hM;cases hM
     | some L0=>
      rw [hg] at hM
      simp only [Option.map_some,Option.some.injEq] at hM
      subst hM
      have:=hLY.small d L0 hg
      simpa [Bl.spoilt] using this
    ·exact hLY.small k' M hM,hm28.ext hx29 (fun b hb=>(hLY.apx b hb).2),hLY.d32,hLY.dlen,fun b hb=>by have:=hLY.lo b hb;omega,fun b hb=>by have:=hLY.lo' b hb;omega,hLY.ap,hLY.apx⟩,(hx.own hx28 (fun b hb hlt=>by have:=(hLY.lo b hb).1;omega)).own hx29 (fun b hb hlt=>by have:=(hLY.lo' b hb).1;omega)⟩
 clear hLY hx hb
 rintro _ W ⟨r,k,rl,hLY,hx⟩
 exact⟨p,fp,r,k,p',fp',rl,x,ds,rfl,hLY.mono (by omega),hx⟩
theorem z4n {w:World}{H:Heap}{B:Nat}{x:Option Addr×Nat×Nat}{L:List Pr}{p:Pr}(hp:p.1.length=32) (hw:w.heap=H) (hm:Mine H B qm 33 x (L.flatMap zc2)) (hBs:B<=H.size) (hlen:L.length<=1073741824){K:(Option Addr×Nat×Nat)->World->Prop}
  (hK:∀ x' w',Mine w'.heap B qm 33 x' ((L++[p]).flatMap zc2)->Ext (jf x) H w'.heap->(∀ c∈jf x',c∈jf x\/H.size<=c)->K x' w') :
  zas P (Instr.buildSlice qy 1 #[(0,.agg (zcu p).toArray)]) .slc w fun (t27:(Option Addr×Nat×Nat)) w_13=>
  zas P (Builtin.append_ #[qy,qy] qy #[(Value.slice x.1 x.2.1 x.2.2),(Value.slice t27.1 t27.2.1 t27.2.2)]) .slc w_13 K:=qdz hp hw hm hBs hlen hK
theorem qkk {p:Pr}{c:Array Value}{o:Nat}(h32:p.1.length=32) (hs:o+33<=c.size) (hc:∀ j,j < 33->c[o+j]?=(zc2 p)[j]?):c.extract o (o+32)=(byteCells p.1).toArray:=by
 apply Array.ext_getElem?
 intro j
 rw [Array.getElem?_extract]
 by_cases hj:j < 32
 ·rw [if_pos (by omega),hc j (by omega),zc2,Bl.zba h32,List.getElem?_append_left (by simpa [h32] using hj)]
  simp
 ·rw [if_neg (by omega),Array.getElem?_eq_none (by simp [h32];omega)]
set_option maxHeartbeats 64000000 in
theorem qbr {fp cf:List Nat}{pS:Nat}{q:Int}{r:Bl.SM}{c:Nat}{st:LSt}{w:World}{H:Heap}{a:Option Addr}{l lc:Nat}{L:List UInt8}(hw:w.heap=H) (hC:zhd H cf c pS st) (hWf:Wf st) (hcf:∀ b∈cf,b < H.size) (hS:Bl.zc4 H fp pS q r) (hfp:∀ b∈fp,b < H.size/\b∉cf)
  (hL:Cells H a (byteCells L)) (hl:l=L.length) (hlc:l<=lc) (hao:L≠[]->∀ y,a=some y->y.block∉fp) (hLb:L.length<=1099511627776) (hb:Bl.total r+4096 < 1000000000000) (hrl:r.length+1<=1000) (hq:0<=q) (hq2:q<=9223372036854775807) (hwl:st.want.length+70000+70001 * (r.length+1)<=1000000000) (hsl:st.seen.length+70000+70001 * (r.length+1)<=1000000000) :
  qc P zel #[.pointer (some ⟨c,0,none⟩),.slice a l lc] w fun e w'=>∃ code r' st' fp' cf',e=.returned (.int .i64 code)/\OfferRes q r st L code r' st'/\zhd w'.heap cf' c pS st'/\st'.seen.length<=st.seen.length+70000+70001 * (r.length+1)/\Bl.zc4 w'.heap fp' pS q r'/\Ext (fp++cf) H w'.heap /\
   (∀ b∈cf',b < w'.heap.size/\(b∈cf\/H.size<=b))/\∀ b∈fp',b < w'.heap.size/\b∉cf'/\(b∈fp\/H.size<=b):=by
 refine znq ?_
 unfold zja
 simp only [zy,jo,Nat.zero_add]
 refine zk (Bl.znh hw hL hl (by omega)) ?_
 rintro e w1 ⟨rfl,hx1⟩
 refine⟨arr (Sha.sum L),rfl,?_⟩
 generalize hd:Sha.sum L=d at *
 have hd32:d.length=32:=by rw [<-hd];exact zad
 refine qei hd32 rfl fun w3 hw3=>?_
 have hx3:Ext [] w1.heap w3.heap:=by rw [hw3];exact .push _
 have hb3:w3.heap[w1.heap.size]?=some (.cells (byteCells d).toArray zf (0,0)):=by rw [hw3];exact zn
 have hx03:=hx1.trans hx3
 generalize hb5:w1.heap.size=b5 at *
 have hb5H:H.size<=b5:=by rw [<-hb5];exact hx1.1
 have s3:=lt_of_get hb3
 obtain⟨xs,xw,g1,g2,g3,g4,g5,g6,g7,g8,g9⟩:=hC.ext hx03 (by simp)
 have hxl:xw.2.1=st.want.length:=by have:=g3.len;rw [ztg] at this;omega
 refine jg (fun (s:(Option Addr×Nat×Nat)×(Option Addr×Nat×Nat)×Int) W=>∃ (i:Nat) (o1 o2:Option Addr×Nat×Nat),s=(o1,o2,(i:Int))/\i<=st.want.length/\Ext [] w3.heap W.heap/\Mine W.heap w3.heap.size qm 33 o1 (((st.want.take i).filter fun p=>decide (p.1=d)).flatMap zc2)/\Mine W.heap w3.heap.size qm 33 o2 (((st.want.take i).filter fun p=>decide (p.1≠d)).flatMap zc2)/\∀ b∈jf o1,b∉jf o2) (fun s _=>(st.want.length-s.2.2).toNat)
  ⟨0,(none,0,0),(none,0,0),rfl,Nat.zero_le _,.refl _ _,.inl ⟨rfl,rfl⟩,.inl ⟨rfl,rfl⟩,by simp [jf]⟩ ?_
 rintro _ W2 ⟨i,o1,o2,rfl,hi,hxW2,hm1,hm2,hap⟩
 have sW2:=hxW2.1
 refine je (s:=.slc) (t:=xw) rfl (hxW2.get g1 (by simp)) rfl ?_
 have hf1:((st.want.take i).filter fun p=>decide (p.1=d)).length<=i:=by
  have:=List.length_filter_le (fun p:Pr=>decide (p.1=d)) (st.want.take i);simp at this;omega
 have hf2:((st.want.take i).filter fun p=>decide (p.1≠d)).length<=i:=by
  have:=List.length_filter_le (fun p:Pr=>decide (p.1≠d)) (st.want.take i);rw [List.length_take] at this;omega
 refine zq (fun hlt=>?_) (fun hge=>?_)
 ·have hlt:(i:Int) < (xw.2.1:Int):=hlt
  have hil:i < st.want.length:=by omega
  have hget:=List.getElem?_eq_getElem hil
  have hp:=g9 _ (List.getElem_mem hil)
  have htk:st.want.take (i+1)=st.want.take i++[st.want[i]]:=by rw [List.take_add_one,hget];rfl
  generalize st.want[i]=p at hget hp htk
  refine Go.Fw.joinP_of (fun (s:(Option Addr×Nat×Nat)×(Option Addr×Nat×Nat)) W'=>Ext [] w3.heap W'.heap/\Mine W'.heap w3.heap.size qm 33 s.1 (((st.want.take (i+1)).filter fun p=>decide (p.1=d)).flatMap zc2)/\Mine W'.heap w3.heap.size qm 33 s.2 (((st.want.take (i+1)).filter fun p=>decide (p.1≠d)).flatMap zc2)/\∀ b∈jf s.1,b∉jf s.2) ?_ ?_
  rotate_left
  ·rintro ⟨s1,s2⟩ W' ⟨u1,u2,u3,u4⟩
   refine jd ((i+1:Nat):Int) (by simp) (by omega) (by omega) ?_
   exact⟨⟨i+1,s1,s2,rfl,by omega,u1,u2,u3,u4⟩,by simp only;omega⟩
  refine jl rfl fun w5 hw5=>?_
  have hx25:Ext [] W2.heap w5.heap:=by rw [hw5];exact .refl _ _
  have hx35:=hxW2.trans hx25
  have s5:=hx35.1
  have g15:=hx35.get g1 (by simp)
  have g35:=(g3.ext hx35 (by simp)).cells
  refine je (s:=.slc) (t:=xw) rfl g15 rfl ?_
  refine Bl.zcd (i:=i) zae (by omega) g35 hxl hget rfl fun ba oa ca Ta fra _ hba hsa hca _=>?_
  refine zf9 rfl hba (by omega) ?_
  rw [qkk hp hsa hca]
  refine qx rfl (hx35.get hb3 (by simp)) (by simp [hd32]) ?_
  refine qp (s:=.bool) _ (zry Bl.u27 Bl.u5 Bl.c5 Bl.g27 hp hd32) ?_
  have m15:=hm1.ext hx25 (by simp)
  have m25:=hm2.ext hx25 (by simp)
  refine zdk (p:=p.1=d) (by simp) (fun he=>?_) (fun he=>?_)
  ·refine je (s:=.slc) (t:=xw) rfl g15 rfl ?_
   refine Bl.zcd (i:=i) zae (by omega) g35 hxl hget rfl fun ba oa ca Ta fra _ hba hsa hca _=>?_
   refine zf9 rfl hba hsa ?_
   rw [qib hp hsa hca]
   refine z4n (p:=p) hp rfl m15 s5 (by omega) fun x' w' hm' hx' hs'=>?_
   refine⟨hx35.own hx' (fun b hb hlt=>by have:=xu m15 b hb;omega),by rw [htk,List.filter_append];simpa [he] using hm',by rw [htk,List.filter_append];simpa [he] using m25.ext hx' (fun b hb h=>hap b h hb),fun b hb h=>?_⟩
   rcases hs' b hb with h' | h'
   ·exact hap b h' h
   ·have:=(zbh m25 b h).1;omega
  ·refine je (s:=.slc) (t:=xw) rfl g15 rfl ?_
   refine Bl.zcd (i:=i) zae (by omega) g35 hxl hget rfl fun ba oa ca Ta fra _ hba hsa hca _=>?_
   refine zf9 rfl hba hsa ?_
   rw [qib hp hsa hca]
   refine z4n (p:=p) hp rfl m25 s5 (by omega) fun x' w' hm' hx' hs'=>?_
   refine⟨hx35.own hx' (fun b hb hlt=>by have:=xu m25 b hb;omega),by rw [htk,List.filter_append];simpa [he] using m15.ext hx' (fun b hb h=>hap b hb h),by rw [htk,List.filter_append];simpa [he] using hm',fun b hb h=>?_⟩
   rcases hs' b h with h' | h'
   ·exact hap b hb h'
   ·have:=(zbh m15 b hb).1;omega
 obtain rfl:i=st.want.length:=by have hge:¬(i:Int) < (xw.2.1:Int):=hge;omega
 rw [List.take_length] at hm1 hm2 hf1 hf2
 generalize hM:st.want.filter (fun p=>decide (p.1=d))=M at hm1 hf1
 generalize hRs:st.want.filter (fun p=>decide (p.1≠d))=Rs at hm2 hf2
 have hol:o1.2.1=M.length:=by have:=hm1.len;rw [ztg] at this;omega
 have hM32:∀ p∈M,p.1.length=32:=fun p hp=>g9 p (by rw [<-hM] at hp;exact (List.mem_filter.1 hp).1)
 have hR32:∀ p∈Rs,p.1.length=32:=fun p hp=>g9 p (by rw [<-hRs] at hp;exact (List.mem_filter.1 hp).1)
 have hMnd:M.Nodup:=by rw [<-hM];exact hWf.nd.sublist List.filter_sublist
 have hmem:∀ p∈M,p.1=d:=fun p hp=>by
  rw [<-hM] at hp
  simpa using (List.mem_filter.1 hp).2
 have hx02:=hx03.trans hxW2
 have same:∀ {w':World}{code:Int},Ext [] H w'.heap->OfferRes q r st L code r st->∃ code' r' st' fp' cf',Ending.returned (.int .i64 code)=.returned (.int .i64 code')/\OfferRes q r st L code' r' st'/\zhd w'.heap cf' c pS st'/\st'.seen.length<=st.seen.length+70000+70001 * (r.length+1)/\Bl.zc4 w'.heap fp' pS q r'/\Ext (fp++cf) H w'.heap /\
   (∀ b∈cf',b < w'.heap.size/\(b∈cf\/H.size<=b))/\∀ b∈fp',b < w'.heap.size/\b∉cf'/\(b∈fp\/H.size<=b):=fun hx hres=>
  ⟨_,r,st,fp,cf,rfl,hres,hC.ext hx (by simp),by omega,hS.ext hx (by simp),hx.mono (by simp),fun b hb=>⟨by have:=hcf b hb;have:=hx.1;omega,.inl hb⟩,fun b hb=>⟨by have:=(hfp b hb).1;have:=hx.1;omega,(hfp b hb).2,.inl hb⟩⟩
 refine zax (fun h0=>?_) (fun h0=>?_)
 ·have h0:(o1.2.1:Int)=0:=h0
  refine same hx02 (.foreign fun p hp e=>?_)
  have:p∈M:=by rw [<-hM];exact List.mem_filter.2 ⟨hp,by simp [e,hd]⟩
  rw [List.eq_nil_of_length_eq_zero (by omega:M.length=0)] at this
  cases this
 have h0:(o1.2.1:Int)≠0:=h0
 have hexd:∃ p∈st.want,p.1=Sha.sum L:=by
  cases hMc:M with
  | nil=>rw [hMc] at hol;simp at hol;omega
  | cons p M'=>
   have hp:p∈M:=by rw [hMc];simp
   refine⟨p,?_,by rw [hd];exact hmem p hp⟩
   rw [<-hM] at hp
   exact (List.mem_filter.1 hp).1
 refine zk (z1v (L:=L) rfl (hL.ext hx02 (by simp)) hl hlc hLb) ?_
 rintro e w5 ⟨xp,xi,rfl,hN5,hx5⟩
 refine⟨(.agg (zca (zcg L).1 xp xi).toArray,decide ((zcg L).2=0)),rfl,?_⟩
 refine z8c (zcg L).1 xp xi rfl fun w7 hw7=>?_
 have hx7:Ext [] w5.heap w7.heap:=by rw [hw7];exact .push _
 have hn7:w7.heap[w5.heap.size]?=some (.cells (zca (zcg L).1 xp xi).toArray zh (0,0)):=by rw [hw7];exact zn
 have s57:=hx5.1
 generalize hb7:w5.heap.size=b7 at *
 have hx27:=hx5.trans hx7
 have hx37:=hxW2.trans hx27
 have hx07:=hx03.trans hx37
 have s7:=lt_of_get hn7
 have hMin:∀ k:Int,(d,k)∈M ↔ (d,k)∈st.want:=fun k=>by
  rw [<-hM,List.mem_filter];simp
 refine Go.Fw.joinP_of (fun _ V=>Ext [] w7.heap V.heap/\(zcg L).2=0/\(d,(zcg L).1.kind)∈st.want) ?_ ?_
 ·by_cases hdec:(zcg L).2=0
  ·refine jm (by simp [hdec]) ?_
   refine qx rfl (hx37.get hb3 (by simp)) (by simp [hd32]) ?_
   refine je (s:=.int .i64) (t:=(zcg L).1.kind) rfl hn7 rfl ?_
   refine qp (s:=.any) _ (bPq hd32 _ _) ?_
   refine zk (qg1 (c:=o1.2.2) (L:=M) (p:=(d,(zcg L).1.kind)) rfl (hm1.ext hx27 (by simp)).cells hol hM32 hd32 (by omega)) ?_
   rintro e w9 ⟨rfl,hx9⟩
   refine⟨_,rfl,?_⟩
   by_cases hin:(d,(zcg L).1.kind)∈M
   ·exact jm (by simp [hin]) ⟨hx9,hdec,(hMin _).1 hin⟩
   ·exact zah (by simp [hin]) (same (hx07.trans hx9) (.form hexd (.inr (by rw [hd];exact fun h=>hin ((hMin _).2 h)))))
  ·exact zah (by simp [hdec]) (same hx07 (.form hexd (.inl hdec)))
 rintro _ V ⟨hxV,hdec,hin⟩
 have hind:(Sha.sum L,(zcg L).1.kind)∈st.want:=by rw [hd];exact hin
 have hx0V:=hx07.trans hxV
 have hx3V:=hx37.trans hxV
 have sV:=hx0V.1
 have s7V:=hxV.1
 refine je (s:=.ptr) (t:=some ⟨pS,0,none⟩) rfl (hx3V.get g1 (by simp)) rfl ?_
 have hbig:∀ x∈r,x.2.1.2.length < 1099511627776:=fun x hx=>by
  have:x.2.1.2.length<=Bl.total r:=zrx (List.mem_map.2 ⟨x,hx,rfl⟩)
  omega
 refine zk (Bl.qat (L:=L) rfl (hS.ext hx0V (by simp)) (fun b hb=>by have:=(hfp b hb).1;omega) (hL.ext hx0V (by simp)) hl hlc hao (by omega) (by omega) hq hq2 hbig (by omega)) ?_
 rintro e w11 ⟨pc,r',fp',rfl,hS11,hx11,hf11,hP,hrl',ht11,hbig'⟩
 refine⟨(arr (if pc=0 then Sha.sum L else Bl.nought),pc),rfl,?_⟩
 have s11:=hx11.1
 have hC11:=(hC.ext hx0V (by simp)).ext hx11 (fun b hb h=>(hfp b h).2 hb)
 have hx011:Ext fp H w11.heap:=(hx0V.mono (by simp)).trans hx11
 have fplt:∀ {b:Nat},H.size<=b->b∉fp:=fun h hb=>by have:=(hfp _ hb).1;omega
 refine qei (k:=if pc=0 then Sha.sum L else Bl.nought) (by split;exact zad;exact Bl.za4) rfl fun w13 hw13=>?_
 have hx13:Ext [] w11.heap w13.heap:=by rw [hw13];exact .push _
 have s13:=hx13.1
 have hC13:=hC11.ext hx13 (by simp)
 have hS13:=hS11.ext hx13 (by simp)
 have hx013:Ext fp H w13.heap:=hx011.trans (hx13.mono (by simp))
 have hcf13:∀ b∈cf,b < w13.heap.size:=fun b hb=>by have:=hcf b hb;omega
 have hfp13:∀ b∈fp',b < w13.heap.size/\b∉cf/\(b∈fp\/V.heap.size<=b):=fun b hb=>by
  rcases hf11 b hb with h | h
  ·exact⟨by have:=(hfp b h).1;omega,(hfp b h).2,.inl h⟩
  ·exact⟨by omega,fun h'=>by have:=hcf b h';omega,.inr h.1⟩
 refine zay (fun hpc=>?_) (fun hpc=>?_)
 ·have hpc:pc≠0:=hpc
  exact⟨pc,r',st,fp',cf,rfl,.full hexd hdec hind hP hpc,hC13,by omega,hS13,hx013.mono fun b hb=>by simp [hb],fun b hb=>⟨hcf13 b hb,.inl hb⟩,fun b hb=>⟨(hfp13 b hb).1,(hfp13 b hb).2.1,by
   rcases (hfp13 b hb).2.2 with h | h
   ·exact .inl h
   ·right;omega⟩⟩
 have hpc:pc=0:=hpc
 subst hpc
 obtain⟨xs2,xw2,k1,k2,k3,k4,k5,k6,k7,k8,k9⟩:=hC13
 have hx213:Ext fp W2.heap w13.heap:=((hx27.trans hxV).mono (by simp)).trans (hx11.trans (hx13.mono (by simp)))
 have o1H:∀ b∈jf o1,w3.heap.size<=b/\b < W2.heap.size:=fun b hb=>⟨xu hm1 b hb,(zbh hm1 b hb).1⟩
 have o2H:∀ b∈jf o2,w3.heap.size<=b/\b < W2.heap.size:=fun b hb=>⟨xu hm2 b hb,(zbh hm2 b hb).1⟩
 have s03:=hx03.1
 have m113:=hm1.ext hx213 (fun b hb=>fplt (by have:=o1H b hb;omega))
 have m213:=hm2.ext hx213 (fun b hb=>fplt (by have:=o2H b hb;omega))
 have hn13:w13.heap[b7]?=some (.cells (zca (zcg L).1 xp xi).toArray zh (0,0)):=hx13.get (hx11.get (hxV.get hn7 (by simp)) (fplt (by omega))) (by simp)
 refine za9 rfl k1 (by simp) fun w19 hw19=>?_
 have hx19:Ext [c] w13.heap w19.heap:=by rw [hw19];exact Ext.set _ (by simp)
 have k19:w19.heap[c]?=some (.cells #[.pointer (some ⟨pS,0,none⟩),zbv xs2,zbv o2,.bool st.foul] zdj (0,0)):=by rw [hw19];exact qg k1
 have cH:c < H.size:=hcf c g5
 have cn1:c∉jf o1:=fun h=>by have:=o1H c h;omega
 have cn2:c∉jf o2:=fun h=>by have:=o2H c h;omega
 have cns:c∉jf xs2:=fun h=>by
  obtain⟨cs,fr,hg⟩:=zeb k2 _ h
  rw [k1] at hg;simp only [Option.some.injEq,Obj.cells.injEq] at hg;exact absurd hg.2.1 (by decide)
 have n1:∀ {y:Option Addr×Nat×Nat},c∉jf y->∀ b∈jf y,b∉[c]:=fun h b hb hh=>by
  have hh:=List.mem_singleton.1 hh
  subst hh;exact h hb
 generalize hcf2:jf o2++cf=cf2
 have hin2:∀ b∈cf,b∈cf2:=by subst hcf2;intro b hb;simp [hb]
 have ho2:∀ b∈jf o2,b∈cf2:=by subst hcf2;intro b hb;simp [hb]
 have hsub2:∀ b∈cf2,b∈cf\/(w3.heap.size<=b/\b < W2.heap.size):=by
  subst hcf2
  intro b hb
  rcases List.mem_append.1 hb with h | h
  ·exact .inr (o2H b h)
  ·exact .inl h
 have hC19:zhd w19.heap cf2 c pS ⟨st.seen,Rs,st.foul⟩:=
  ⟨xs2,o2,k19,k2.ext hx19 (n1 cns),(m213.ext hx19 (n1 cn2)).mono (Nat.zero_le _),fun b hb h=>by have:=hcf b (k6 b hb);have:=o2H b h;omega,hin2 c k5,fun b hb=>hin2 b (k6 b hb),ho2,k8,hR32⟩
 have s19:=hx19.1
 have s213:=hx213.1
 have hlt2:∀ b∈cf2,b < w19.heap.size:=fun b hb=>by
  rcases hsub2 b hb with h | h
  ·have:=hcf b h;omega
  ·omega
 have m119:=m113.ext hx19 (n1 cn1)
 have o1n2:∀ b∈jf o1,b∉cf2:=fun b hb h=>by
  subst hcf2
  rcases List.mem_append.1 h with h | h
  ·exact hap b hb h
  ·have:=hcf b h;have:=o1H b hb;omega
 have hfp2:∀ b∈fp',b∉cf2:=fun b hb h=>by
  rcases hsub2 b h with h' | h'
  ·exact (hfp13 b hb).2.1 h'
  ·rcases (hfp13 b hb).2.2 with h'' | h''
   ·have:=(hfp b h'').1;omega
   ·have:=hxV.1;have:=hx27.1;omega
 have hx019:Ext (fp++cf) H w19.heap:=(hx013.mono fun b hb=>by simp [hb]).trans (hx19.mono (by simp [g5]))
 have hS19:=hS13.ext hx19 (fun b hb h=>by
  have h:=List.mem_singleton.1 h
  subst h;exact (hfp13 _ hb).2.1 g5)
 have hn19:=hx19.get hn13 (fun h=>by
  have h:=List.mem_singleton.1 h
  omega)
 have hlen':∀ k L,Bl.zaa r' k=some L->L.length < 1099511627776:=Bl.qdw hbig'
 have hNM:NodM w19.heap W2.heap.size (zcg L).1 xp xi:=(((((hN5.ext hx7 (by simp)).ext hxV (by simp)).ext hx11 (fun b hb=>by have:=(hfp b hb).1;omega)).ext hx13 (by simp))).ext hx19 (fun b hb=>by
  have hb:=List.mem_singleton.1 hb
  omega)
 have hit:(zcg L).1.items.length<=65/\(zcg L).1.parts.length<=65536:=by
  have h1:=zhy (s:=some L)
  unfold zcg
  split
  ·refine⟨h1.2.2,?_⟩
   unfold zao;repeat' split
   all_goals simp [zhp]
   all_goals omega
  ·simp [zd1]
 have hkl:(zhf (zcg L).1).length<=70000:=by simp [zhf];omega
 obtain⟨K,hK⟩:∃ K,K=70000+70001 * (r.length+1):=⟨_,rfl⟩
 have b7cf:b7∉cf2:=fun h=>by
  rcases hsub2 b7 h with h' | h'
  ·have:=hcf b7 h';omega
  ·omega
 refine jg (fun (s:Int) W=>∃ (i:Nat) (u:LSt) (cf3:List Nat),s=(i:Int)/\i<=M.length/\(∀ z,Mets (Bl.zaa r') (zcg L).1 (M.drop i) u z->Mets (Bl.zaa r') (zcg L).1 M ⟨st.seen,Rs,st.foul⟩ z)/\zhd W.heap cf3 c pS u /\
   ((d,(zcg L).1.kind)∈M.drop i->u.want.length<=st.want.length/\u.seen.length<=st.seen.length)/\u.seen.length<=st.seen.length+K/\Ext cf2 w19.heap W.heap/\(∀ b∈cf3,b < W.heap.size)/\∀ b∈cf3,b∈cf2\/w19.heap.size<=b) (fun s _=>(M.length-s).toNat)
  ⟨0,_,cf2,rfl,Nat.zero_le _,fun z h=>h,hC19,fun _=>⟨by simp only;omega,Nat.le_refl _⟩,by simp only;omega,.refl _ _,hlt2,fun b hb=>.inl hb⟩ ?_
 rintro _ W3 ⟨i,u,cf3,rfl,hi3,hz,hCu,hbu1,hbu2,hxW3,hcf3,hsub3⟩
 have sW3:=hxW3.1
 have hfp3:∀ b∈fp',b < W3.heap.size/\b∉cf3:=fun b hb=>⟨by have:=(hfp13 b hb).1;omega,fun h=>by
  rcases hsub3 b h with h | h
  ·exact hfp2 b hb h
  ·have:=(hfp13 b hb).1;omega⟩
 refine zq (fun hlt=>?_) (fun hge=>?_)
 ·have hil:i < M.length:=by have hlt:(i:Int) < (o1.2.1:Int):=hlt;omega
  have hget:=List.getElem?_eq_getElem hil
  have hpm:=List.getElem_mem hil
  have hdropn:M.drop i=M[i] :: M.drop (i+1):=List.drop_eq_getElem_cons hil
  have hnd':M[i]∉M.drop (i+1):=by
   have:=hMnd.sublist (List.drop_sublist i M)
   rw [hdropn] at this
   exact (List.nodup_cons.1 this).1
  rw [hdropn] at hz hbu1
  generalize M[i]=p at hget hpm hz hbu1 hnd' hdropn
  have hp:=hM32 p hpm
  have hpd:=hmem p hpm
  have hJ:∀ (W':World),(∃ (u':LSt) (cf4:List Nat),(∀ z,Mets (Bl.zaa r') (zcg L).1 (M.drop (i+1)) u' z->Mets (Bl.zaa r') (zcg L).1 M ⟨st.seen,Rs,st.foul⟩ z)/\zhd W'.heap cf4 c pS u' /\
   ((d,(zcg L).1.kind)∈M.drop (i+1)->u'.want.length<=st.want.length/\u'.seen.length<=st.seen.length)/\u'.seen.length<=st.seen.length+K/\Ext cf2 w19.heap W'.heap/\(∀ b∈cf4,b < W'.heap.size)/\∀ b∈cf4,b∈cf2\/w19.heap.size<=b) ->
   zbl .i64 (i:Int) 1 fun t95=>(∃ (i:Nat) (u:LSt) (cf3:List Nat),t95=(i:Int)/\i<=M.length/\(∀ z,Mets (Bl.zaa r') (zcg L).1 (M.drop i) u z->Mets (Bl.zaa r') (zcg L).1 M ⟨st.seen,Rs,st.foul⟩ z)/\zhd W'.heap cf3 c pS u /\
   ((d,(zcg L).1.kind)∈M.drop i->u.want.length<=st.want.length/\u.seen.length<=st.seen.length)/\u.seen.length<=st.seen.length+K/\Ext cf2 w19.heap W'.heap/\(∀ b∈cf3,b < W'.heap.size)/\∀ b∈cf3,b∈cf2\/w19.heap.size<=b)/\(M.length-t95).toNat < (M.length-(i:Int)).toNat:=by
   rintro W' ⟨u',cf4,v1,v2,v4,v5,v6,v7,v8⟩
   refine jd ((i+1:Nat):Int) (by simp) (by omega) (by omega) ?_
   exact⟨⟨i+1,u',cf4,rfl,by omega,v1,v2,v4,v5,v6,v7,v8⟩,by omega⟩
  refine zal ?_
  refine zal ?_
  refine jl rfl fun w21 hw21=>?_
  have hx321:Ext [] W3.heap w21.heap:=by rw [hw21];exact .refl _ _
  have hx1921:Ext cf2 w19.heap w21.heap:=hxW3.trans (hx321.mono (by simp))
  have s21:=hx321.1
  refine Bl.zcd (i:=i) zae (by omega) (m119.ext hx1921 o1n2).cells hol hget rfl fun ba oa ca Ta fra _ hba hsa hca _=>?_
  refine je (s:=.int .i64) (o:=oa+32) (t:=p.2) rfl hba (by rw [hca 32 (by omega),zka hp];show (zcu p)[32]?=some (Value.int .i64 p.2);simpa using zpl hp) ?_
  have hn21:=hx1921.get hn19 b7cf
  refine je (s:=.int .i64) (t:=(zcg L).1.kind) rfl hn21 rfl ?_
  have hC21:=hCu.ext hx321 (by simp)
  refine zax (fun hk=>?_) (fun hk=>?_)
  ·have hpe:p=(d,(zcg L).1.kind):=Prod.ext hpd hk
   have hbu:=hbu1 (by rw [hpe];simp)
   obtain⟨N,t',c0,hrun,hNb⟩:=zvu r' (zhf (zcg L).1) u
   have hc0:=zul hrun
   subst hc0
   have hun:unseen r' u.seen<=r.length+1:=by
    have:=List.length_filter_le (fun x:List UInt8×_=>decide ((x.1,(zcg x.2.1.2).1.kind)∉u.seen)) r'
    unfold unseen;omega
   have hNK:N<=K:=by
    have:70001 * unseen r' u.seen<=70001 * (r.length+1):=Nat.mul_le_mul_left _ hun
    omega
   have hseen:=z0l hrun
   refine qx rfl hn21 rfl ?_
   have hNM21:=hNM.ext hx1921 (fun b hb=>by
    rcases hsub2 b hb with h | h
    ·have:=hcf b h;omega
    ·omega)
   refine zk (qae rfl hNM21.nodW hit.2 hit.1) ?_
   rintro e w22 ⟨x106,rfl,hm22,hx22⟩
   refine⟨x106,rfl,?_⟩
   have s22:=hx22.1
   have hx1922:=hx1921.trans (hx22.mono (by simp))
   refine zk (z9d hlen' rfl (hC21.ext hx22 (by simp)) (fun b hb=>by have:=hcf3 b hb;omega) (hS19.ext hx1922 (fun b hb h=>hfp2 b hb h)) (fun b hb=>⟨by have:=(hfp3 b hb).1;omega,(hfp3 b hb).2⟩) (by omega) (hm22.mono (Nat.zero_le _)) (fun b hb h=>by have:=xu hm22 b hb;have:=hcf3 b h;omega) (z94 hNM21.p32 hNM21.i32) hkl hrun (by omega) (by omega)) ?_
   rintro e w23 ⟨rfl,cf4,hC23,hx23,hcf4,hsub4⟩
   refine⟨(),rfl,hJ _ ⟨t',cf4,fun z h=>hz z (.kid hk hrun h),hC23,fun h=>absurd (by rw [hpe];exact h) hnd',by omega,hx1922.own hx23 (fun b hb hlt=>?_),hcf4,fun b hb=>?_⟩⟩
   ·rcases hsub3 b hb with h | h
    ·exact h
    ·omega
   ·rcases hsub4 b hb with h | h
    ·exact hsub3 b h
    ·right;omega
  ·obtain⟨ys,yw,q1,q2,q3,q4,q5,q6,q7,q8,q9⟩:=hC21
   refine za9 rfl q1 (by simp) fun w24 hw24=>?_
   have hx24:Ext [c] w21.heap w24.heap:=by rw [hw24];exact Ext.set _ (by simp)
   have s24:=hx24.1
   have cT:∀ {B':Nat}{y:Option Addr×Nat×Nat}{vs:List Value},Mine w21.heap B' qm 33 y vs->c∉jf y:=fun hm h=>by
    obtain⟨cs,fr,hg2⟩:=zeb hm _ h
    rw [q1] at hg2;simp only [Option.some.injEq,Obj.cells.injEq] at hg2;exact absurd hg2.2.1 (by decide)
   refine hJ _ ⟨⟨u.seen,u.want,true⟩,cf3,fun z h=>hz z (.foul hk h),⟨ys,yw,by rw [hw24];exact qg q1,q2.ext hx24 (n1 (cT q2)),q3.ext hx24 (n1 (cT q3)),q4,q5,q6,q7,q8,q9⟩,fun h=>hbu1 (List.mem_cons_of_mem _ h),hbu2,hx1921.trans (hx24.mono (by simp;exact hin2 c k5)),fun b hb=>by have:=hcf3 b hb;omega,hsub3⟩
 ·obtain rfl:i=M.length:=by have hge:¬(i:Int) < (o1.2.1:Int):=hge;omega
  rw [List.drop_length] at hz
  have hmets:=hz u .nil
  refine⟨0,r',u,fp',cf3,rfl,.ok hexd hdec hind hP (by rw [hd,hM,hRs];exact hmets),hCu,by omega,hS19.ext hxW3 (fun b hb h=>hfp2 b hb h),hx019.own hxW3 (fun b hb hlt=>?_),fun b hb=>⟨hcf3 b hb,?_⟩,fun b hb=>⟨(hfp3 b hb).1,(hfp3 b hb).2,?_⟩⟩
  ·rcases hsub2 b hb with h | h
   ·simp [h]
   ·omega
  ·rcases hsub3 b hb with h | h
   ·rcases hsub2 b h with h | h
    ·exact .inl h
    ·right;omega
   ·right;omega
  ·rcases (hfp13 b hb).2.2 with h | h
   ·exact .inl h
   ·right;omega
end Go.Proofs.YtbmegmbnlajbbaaGreatDoor
