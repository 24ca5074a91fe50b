/- Part 6 of the texts below the card, joined. -/
import Derived.Test.YtbmegmbnlajbbaaGreatDoorTRpe
import Derived.Laws.IdiomStrings
import Derived.Laws.AppendOwn
import Derived.Test.YtbmegmbnlajbbaaGreatDoorTRpd
namespace Go.Proofs.YtbmegmbnlajbbaaGreatDoor.Bl
open Go Go.Fw Go.Proofs
abbrev BE:=List UInt8×BV×Nat
theorem zup {a b:SM}{k:List UInt8}:zbk (a++b) k=match zbk a k with | some v=>some v | none=>zbk b k:=by
 induction a with
 | nil=>rfl
 | cons x a ih=>
  rw [List.cons_append]
  by_cases e:x.1=k
  ·rw [zb7 e,zb7 e]
  ·rw [zb4 e,zb4 e,ih]
theorem znc {pre t:SM}{y:BE}{k':List UInt8}(h:∀ x∈pre,x.1≠y.1):vw (pre++y :: t) k'=if k'=y.1 then some y.2.1.2 else vw (pre++t) k':=by
 unfold vw
 rw [zup,zup]
 by_cases e:k'=y.1
 ·subst e
  rw [if_pos rfl,zhn h,zb7 rfl]
  rfl
 ·rw [if_neg e,zb4 (Ne.symm e)]
theorem zpl {pre t:SM}{y:BE}:zi1 (pre++y :: t) ↔ zi1 (pre++t)/\(∀ x∈pre,Lib.compareBytes x.1 y.1 < 0)/\∀ x∈t,Lib.compareBytes y.1 x.1 < 0:=by
 unfold zi1
 rw [List.pairwise_append,List.pairwise_append,List.pairwise_cons]
 constructor
 ·rintro ⟨h1,⟨h2,h3⟩,h4⟩
  exact⟨⟨h1,h3,fun a ha b hb=>h4 a ha b (by simp [hb])⟩,fun a ha=>h4 a ha y (by simp),h2⟩
 ·rintro ⟨⟨h1,h3,h4⟩,h5,h2⟩
  refine⟨h1,⟨h2,h3⟩,fun a ha b hb=>?_⟩
  rcases List.mem_cons.1 hb with rfl | hb
  ·exact h5 a ha
  ·exact h4 a ha b hb
theorem zst {a b:List UInt8}(h:Lib.compareBytes a b < 0):a≠b:=by rintro rfl;rw [zez.2 rfl] at h;omega
theorem zee {pre t:SM}{y x:BE}:x∈pre++y :: t ↔ x=y\/x∈pre++t:=by
 simp only [List.mem_append,List.mem_cons]
 constructor
 ·rintro (h | h | h)
  ·exact .inr (.inl h)
  ·exact .inl h
  ·exact .inr (.inr h)
 ·rintro (h | h | h)
  ·exact .inr (.inl h)
  ·exact .inl h
  ·exact .inr (.inr h)
theorem Apart.sub {r r':SM}(h:Apart r) (hs:∀ x∈r',x∈r):Apart r':=fun x hx y hy=>h x (hs x hx) y (hs y hy)
theorem Apart.mid {pre t:SM}{y:BE}(h:Apart (pre++t)) (hy:∀ x∈pre++t,∀ b∈jk y.2.1.1,b∉jk x.2.1.1):Apart (pre++y :: t):=by
 intro a ha b hb hne c hc hc2
 rcases zee.1 ha with e1 | ha' <;> rcases zee.1 hb with e2 | hb'
 ·exact hne (by rw [e1,e2])
 ·exact hy b hb' c (by rw [<-e1];exact hc) hc2
 ·exact hy a ha' c (by rw [<-e2];exact hc2) hc
 ·exact h a ha' b hb' hne c hc hc2
theorem ROk.sub {pre t:SM}{y:BE}(h:ROk (pre++y :: t)):ROk (pre++t):=⟨fun x hx=>h.len x (zee.2 (.inr hx)),(zpl.1 h.rise).1⟩
theorem ROk.mid {pre t:SM}{y:BE}(h:ROk (pre++t)) (hl:y.1.length=32) (h1:∀ x∈pre,Lib.compareBytes x.1 y.1 < 0) (h2:∀ x∈t,Lib.compareBytes y.1 x.1 < 0):ROk (pre++y :: t):=
 ⟨fun x hx=>by rcases zee.1 hx with rfl | hx;exact hl;exact h.len x hx,zpl.2 ⟨h.rise,h1,h2⟩⟩
theorem z1i {pre t:SM}{y:BE}:total (pre++y :: t)=y.2.1.2.length+total (pre++t):=by
 unfold total
 simp only [List.map_append,List.map_cons,List.sum_append,List.sum_cons]
 omega
theorem qfo {pre t:SM}{y y':BE}(h:zff y=zff y'):(pre++y :: t).flatMap zff=(pre++y' :: t).flatMap zff:=by
 simp only [List.flatMap_append,List.flatMap_cons,h]
theorem Cells.dropB {H:Heap}{a:Option Addr}{rl:SM}(h:Cells H a (rl.flatMap zff)) (k cap:Nat) (hcap:rl.length<=cap):Cells H (if cap=k then a else a.map (·.add (k * 33))) ((rl.drop k).flatMap zff):=by
 by_cases hk:k < rl.length
 ·rw [if_neg (by omega)]
  have hl:(rl.flatMap zff).length=rl.length * 33:=zq zff zdq _
  have:=h.part (k * 33) ((rl.length-k) * 33) (by rw [hl,<-Nat.add_mul];exact Nat.mul_le_mul_right 33 (by omega))
  have he:((rl.flatMap zff).drop (k * 33)).take ((rl.length-k) * 33)=(rl.drop k).flatMap zff:=by
   have h1:rl.flatMap zff=(rl.take k).flatMap zff++(rl.drop k).flatMap zff:=by rw [<-List.flatMap_append,List.take_append_drop]
   have h2:((rl.take k).flatMap zff).length=k * 33:=by rw [zq zff zdq,List.length_take,Nat.min_eq_left (by omega)]
   have h3:((rl.drop k).flatMap zff).length=(rl.length-k) * 33:=by rw [zq zff zdq,List.length_drop]
   rw [h1,List.drop_left' h2,List.take_of_length_le (by omega)]
  rwa [he] at this
 ·left;rw [List.drop_eq_nil_of_le (by omega)];rfl
theorem Cells.takeB {H:Heap}{a:Option Addr}{rl:SM}(h:Cells H a (rl.flatMap zff)) (k:Nat):Cells H a ((rl.take k).flatMap zff):=by
 have:=h.take (((rl.take k).flatMap zff).length)
 have h1:rl.flatMap zff=(rl.take k).flatMap zff++(rl.drop k).flatMap zff:=by rw [<-List.flatMap_append,List.take_append_drop]
 rwa [h1,List.take_left] at this
theorem qbk {rl:SM}:zcl (rl.flatMap zff):=by
 intro v hv
 obtain⟨x,_,hx⟩:=List.mem_flatMap.1 hv
 exact z4s v hx
theorem qf0 {w:World}{H:Heap}{B:Nat}{x:Option Addr×Nat×Nat}{a:Option Addr}{l c:Nat}{r1 r2:SM}(hw:w.heap=H) (hx:Mine H B za2 33 x (r1.flatMap zff)) (hB:B<=H.size) (hL:Cells H a (r2.flatMap zff)) (hl:l=r2.length) (hlen:r1.length+r2.length < 1099511627776){K:(Option Addr×Nat×Nat)->World->Prop}
  (hK:∀ x' w',Mine w'.heap B za2 33 x' ((r1++r2).flatMap zff)->x'.2.1=r1.length+r2.length->Ext (jk x) H w'.heap->(∀ b,b∈jk x'->b∈jk x\/H.size<=b)->K x' w') :
  zaw P (Builtin.append_ #[jc,jc] jc #[.slice x.1 x.2.1 x.2.2,.slice a l c]) .slc w K:=by
 have hxl:=zep hx
 refine zcj EB (by omega) uB (zbg uB) hw hx hB (Src.slc hw hL (by rw [zq zff zdq,hl])) qbk (by omega) ?_
 intro x' w' hm hl' hx' hs
 refine hK x' w' ?_ (by omega) hx' hs
 rw [List.flatMap_append];exact hm
set_option maxHeartbeats 2000000 in
theorem qct {w:World}{H:Heap}{fp:List Nat}{p:Nat}{q:Int}{rl:SM}{k:List UInt8}{at_:Int}{t:UInt8}(hw:w.heap=H) (hS:zdf H fp p q rl) (hk:k.length=32) (hn:rl.length < 1099511627776) :
  zy P zha #[.pointer (some ⟨p,0,none⟩),arr k,.int .i64 at_,.int .u8 (t.toNat:Int)] w fun e w'=>e=.returned (.int .i64 (zct (vw rl k) at_ t))/\∃ rl',zdf w'.heap fp p q rl'/\Ext fp H w'.heap /\
   ∀ k',vw rl' k'=if zct (vw rl k) at_ t=0/\k'=k then (vw rl k).map fun L=>spoilt L at_ t else vw rl k':=by
 refine zo8 ?_
 unfold zkq
 refine jm hw fun w1 hw1=>?_
 have hx1:Ext [] H w1.heap:=by rw [hw1];exact .push _
 refine qp rfl (by rw [hw1];exact zk) (by simp [arr,Value.cells,byteCells,hk]) ?_
 refine zl (z0w rfl (hS.ext hx1 (by simp)) hk hn) ?_
 rintro e w2 ⟨pre,rest,rfl,hsp,hx2⟩
 refine⟨((pre.length:Int),hit rest k),rfl,?_⟩
 have hx02:=hx1.trans hx2
 have keep:∀ (C:Int),C≠0->zct (vw rl k) at_ t=C->(Ending.returned (.int .i64 C)=Ending.returned (.int .i64 (zct (vw rl k) at_ t))/\∃ rl',zdf w2.heap fp p q rl'/\Ext fp H w2.heap /\
   ∀ k',vw rl' k'=if zct (vw rl k) at_ t=0/\k'=k then (vw rl k).map fun L=>spoilt L at_ t else vw rl k'):=by
  intro C hC hs
  refine⟨by rw [hs],rl,hS.ext hx02 (by simp),hx02.mono (by simp),fun k'=>?_⟩
  rw [if_neg (by rw [hs];exact fun h=>hC h.1)]
 cases hh:hit rest k with
 | false=>
  refine zai rfl ?_
  exact keep 50 (by omega) (by rw [zno hsp hS.rise hh];rfl)
 | true=>
  refine jr rfl ?_
  obtain⟨y,tl,rfl,hyk,hvy,hget,hmem⟩:=zqc hsp hS.rise hh
  obtain⟨x,h1,h2,h3,h4,h5,h6,h7⟩:=hS
  have hxl:=zep h2
  have hyl:=zrr h5 hget
  have h12:=hx02.get h1 (by simp)
  have h22:=h2.ext hx02 (by simp)
  have one:∀ h:at_ < 0\/(y.2.1.2.length:Int)<=at_\/t=0,zct (vw rl k) at_ t=1:=by intro h;rw [hvy];simp only [zct,if_pos h]
  refine zar ?_
  refine zx (fun h=>keep 1 (by omega) (one (.inl h))) (fun ha0=>?_)
  simp only [qg,vg,Nat.zero_add]
  refine je (s:=.slc) (t:=x) rfl h12 rfl ?_
  refine zkv rfl h22.cells hxl hget rfl ?_
  refine zx (fun h=>keep 1 (by omega) (one (.inr (.inl (by omega))))) (fun hal=>?_)
  refine zbo (fun h=>keep 1 (by omega) (one (.inr (.inr (UInt8.toNat_inj.1 (by simpa using h)))))) (fun ht=>?_)
  obtain⟨i,rfl⟩:∃ i:Nat,at_=(i:Int):=⟨at_.toNat,by omega⟩
  have hil:i < y.2.1.2.length:=by omega
  have hs0:zct (vw rl k) (i:Int) t=0:=by
   rw [hvy]
   simp only [zct]
   rw [if_neg]
   rintro (h | h | h)
   ·omega
   ·omega
   ·subst h;exact ht rfl
  obtain⟨hO,hOf⟩:=h5 y hmem
  obtain⟨bb,cc,hxa,hbb,hic,hci,hput⟩:=(hO.ext hx02 (by simp)).put (i:=i) (by simpa using hil) (.int .u8 ((y.2.1.2.getD i 0 ^^^ t).toNat:Int))
  refine je (s:=.slc) (t:=x) rfl h12 rfl ?_
  refine zkv rfl h22.cells hxl hget rfl ?_
  rw [hxa]
  refine zkk i rfl (by omega) ?_
  rw [Nat.zero_add]
  refine je (t:=((y.2.1.2.getD i 0).toNat:Int)) rfl hbb (by rw [hci,zc9 hil];rfl) ?_
  refine qju _ _ ?_
  refine zkk i rfl (by omega) ?_
  rw [Nat.zero_add]
  refine zbd rfl hbb hic fun w3 hw3=>?_
  rw [<-hw3] at hput
  have hbf:bb∈fp:=hOf bb (by simp only [jk];rw [hxa];simp)
  have hx23:Ext [bb] w2.heap w3.heap:=by rw [hw3];exact Ext.set _ (by simp)
  have heq:=hsp.eq
  subst heq
  obtain⟨_,hlo,hhi⟩:=zpl.1 h7.rise
  have hlen:(spoilt y.2.1.2 (i:Int) t).length=y.2.1.2.length:=by simp [spoilt]
  have hspb:byteCells (spoilt y.2.1.2 (i:Int) t)=(byteCells y.2.1.2).set i (.int .u8 ((y.2.1.2.getD i 0 ^^^ t).toNat:Int)):=by
   simp only [spoilt,byteCells,Int.toNat_natCast,List.map_set]
  refine⟨by rw [hs0],pre++(y.1,(y.2.1.1,spoilt y.2.1.2 (i:Int) t),y.2.2) :: tl,⟨x,hx23.get h12 ?_,?_,h3,h4,?_,?_,?_⟩,(hx02.mono (by simp)).trans (hx23.mono (by simpa using hbf)),?_⟩
  ·simp only [List.mem_singleton];rintro rfl;rw [h12] at hbb;cases hbb
  ·have henc:(pre++(y.1,(y.2.1.1,spoilt y.2.1.2 (i:Int) t),y.2.2) :: tl).flatMap zff=(pre++y :: tl).flatMap zff:=qfo rfl
   rw [henc]
   refine h22.ext hx23 fun b hb=>?_
   simp only [List.mem_singleton];rintro rfl
   rcases h22 with⟨rfl,_⟩ | ⟨b2,c2,hx2',_,hb2,_⟩
   ·simp [jk] at hb
   ·simp only [jk,hx2',List.mem_singleton] at hb;subst hb;rw [hbb] at hb2;cases hb2
  ·intro z hz
   rcases zee.1 hz with rfl | hz
   ·refine⟨?_,hOf⟩
    show Mine _ _ _ _ _ (byteCells (spoilt y.2.1.2 (i:Int) t))
    rw [hspb];exact hput
   ·obtain⟨hz1,hz2⟩:=h5 z (zee.2 (.inr hz))
    refine⟨(hz1.ext hx02 (by simp)).ext hx23 fun b hb=>?_,hz2⟩
    simp only [List.mem_singleton];rintro rfl
    refine h6 y hmem z (zee.2 (.inr hz)) ?_ b (by simp only [jk];rw [hxa];simp) hb
    rcases List.mem_append.1 hz with hz | hz
    ·exact (zst (hlo z hz)).symm
    ·exact zst (hhi z hz)
  ·refine Apart.mid (h6.sub fun z hz=>zee.2 (.inr hz)) fun z hz b hb=>?_
   refine h6 y hmem z (zee.2 (.inr hz)) ?_ b hb
   rcases List.mem_append.1 hz with hz | hz
   ·exact (zst (hlo z hz)).symm
   ·exact zst (hhi z hz)
  ·exact h7.sub.mid (h7.len y hmem) hlo hhi
  ·intro k'
   rw [hs0,hvy,znc (y:=(y.1,(y.2.1.1,spoilt y.2.1.2 (i:Int) t),y.2.2)) fun z hz=>zst (hlo z hz)]
   show (if k'=y.1 then some (spoilt y.2.1.2 (i:Int) t) else _)=_
   by_cases e:k'=k
   ·subst e;simp [hyk]
   ·rw [if_neg (by rw [hyk];exact e),if_neg (fun h=>e h.2),znc (y:=y) (fun z hz=>zst (hlo z hz)),if_neg (by rw [hyk];exact e)]
theorem z9b {H:Heap}{B:Nat}{T:TypeId}{sz:Nat}{x:Option Addr×Nat×Nat}{vs:List Value}(h:Mine H B T sz x vs):x.2.1<=x.2.2:=by
 rcases h with⟨rfl,_⟩ | ⟨b,c,_,_,_,_,_,h,_⟩
 ·exact Nat.le_refl _
 ·exact h
theorem zbs {H:Heap}{B:Nat}{T:TypeId}{sz:Nat}{x:Option Addr×Nat×Nat}{vs:List Value}(h:Mine H B T sz x vs):∀ b∈jk x,b < H.size/\∃ c,H[b]?=some (.cells c T (0,0)):=by
 intro b hb
 rcases h with⟨rfl,_⟩ | ⟨b2,c,hx,_,hb2,_⟩
 ·simp [jk] at hb
 ·simp only [jk,hx,List.mem_singleton] at hb
  subst hb;exact⟨lt_of_get hb2,c,hb2⟩
theorem qdw {H:Heap}{a:Option Addr}{l c:Nat}{rl:SM}{i:Nat}{n:Int}(hL:Cells H a (rl.flatMap zff)) (hlen:l=rl.length) (hc:l<=c) (hi:i<=rl.length) (hn:n=(i:Int)) :
  ∃ a',(∀ w,(Instr.sliceAt jc (.slice a l c) none (some (.int .i64 n)) none).run P w=.ok (.slice a' i c) w)/\Cells H a' ((rl.take i).flatMap zff):=by
 refine⟨_,fun w=>za9 (l:=0) (h:=i) uB szB .no (.yes hn) (Nat.zero_le _) (by omega),?_⟩
 exact Cells.takeB (rl:=rl) (Cells.dropB hL 0 c (by omega)) i
theorem z3q {H:Heap}{a:Option Addr}{l c:Nat}{rl:SM}{i:Nat}{n:Int}(hL:Cells H a (rl.flatMap zff)) (hlen:l=rl.length) (hc:l<=c) (hi:i<=rl.length) (hn:n=(i:Int)) :
  ∃ a',(∀ w,(Instr.sliceAt jc (.slice a l c) (some (.int .i64 n)) none none).run P w=.ok (.slice a' (l-i) (c-i)) w)/\Cells H a' ((rl.drop i).flatMap zff):=by
 refine⟨_,fun w=>za9 (l:=i) (h:=l) uB szB (.yes hn) .no (by omega) (by omega),?_⟩
 exact Cells.dropB hL i c (by omega)
theorem z1q.sub {H:Heap}{fp:List Nat}{r r':SM}(h:z1q H fp r) (hs:∀ x∈r',x∈r):z1q H fp r':=fun x hx=>h x (hs x hx)
theorem z1q.mono {H:Heap}{fp fp':List Nat}{r:SM}(h:z1q H fp r) (hs:∀ x∈fp,x∈fp'):z1q H fp' r:=fun x hx=>⟨(h x hx).1,fun b hb=>hs b ((h x hx).2 b hb)⟩
theorem z1q.off {H H':Heap}{fp:List Nat}{r:SM}{b:Nat}{c:Array Value}{T:TypeId}{o:Obj}(h:z1q H fp r) (hb:H[b]?=some (.cells c T (0,0))) (hT:T≠qw) (hx:Ext [b] H H'):z1q H' fp r:=by
 intro x hxr
 refine⟨(h x hxr).1.ext hx fun b' hb'=>?_,(h x hxr).2⟩
 simp only [List.mem_singleton];rintro rfl
 obtain⟨_,c',h'⟩:=zbs (h x hxr).1 _ hb'
 rw [hb] at h'
 injection h' with h'
 injection h' with _ h2
 exact hT h2
set_option maxHeartbeats 2000000 in
theorem qeu {w:World}{H:Heap}{fp:List Nat}{p:Nat}{q:Int}{rl:SM}{k:List UInt8}(hw:w.heap=H) (hS:zdf H fp p q rl) (hk:k.length=32) (hn:rl.length < 549755813888) :
  zy P zhx #[.pointer (some ⟨p,0,none⟩),arr k] w fun e w'=>e=.returned (.int .i64 (if (vw rl k).isSome then 0 else 50))/\∃ rl' fp',zdf w'.heap fp' p q rl'/\Ext fp H w'.heap/\(∀ b∈fp',b∈fp\/(H.size<=b/\b < w'.heap.size)) /\
   ∀ k',vw rl' k'=if k'=k then none else vw rl k':=by
 refine zq2 ?_
 unfold zlv
 refine jm hw fun w1 hw1=>?_
 have hx1:Ext [] H w1.heap:=by rw [hw1];exact .push _
 refine qp rfl (by rw [hw1];exact zk) (by simp [arr,Value.cells,byteCells,hk]) ?_
 refine zl (z0w rfl (hS.ext hx1 (by simp)) hk (by omega)) ?_
 rintro e w2 ⟨pre,rest,rfl,hsp,hx2⟩
 refine⟨((pre.length:Int),hit rest k),rfl,?_⟩
 have hx02:=hx1.trans hx2
 have hhv:=z3m hsp hS.rise
 rw [<-hhv]
 cases hh:hit rest k with
 | false=>
  refine zai rfl ?_
  refine⟨rfl,rl,fp,hS.ext hx02 (by simp),hx02.mono (by simp),fun b hb=>.inl hb,fun k'=>?_⟩
  split
  ·rename_i e;rw [e];exact zno hsp hS.rise hh
  ·rfl
 | true=>
  refine jr rfl ?_
  obtain⟨y,tl,rfl,hyk,hvy,hget,hmem⟩:=zqc hsp hS.rise hh
  obtain⟨x,h1,h2,h3,h4,h5,h6,h7⟩:=hS
  have heq:=hsp.eq
  subst heq
  obtain⟨_,hlo,hhi⟩:=zpl.1 h7.rise
  have hxl:=zep h2
  have hxc:=z9b h2
  have hln:(pre++y :: tl).length=pre.length+1+tl.length:=by simp;omega
  refine jv rfl fun w3 hw3=>?_
  have hx03:Ext [] H w3.heap:=by rw [hw3];exact hx02
  have h13:=hx03.get h1 (by simp)
  have h23:=h2.ext hx03 (by simp)
  simp only [qg,vg,Nat.zero_add]
  refine jd ((pre.length+1:Nat):Int) (by omega) (by omega) (by omega) ?_
  obtain⟨a1,hr1,hC1⟩:=qdw (i:=pre.length) h23.cells hxl hxc (by omega) rfl
  obtain⟨a2,hr2,hC2⟩:=z3q (i:=pre.length+1) h23.cells hxl hxc (by omega) rfl
  rw [List.take_left] at hC1
  rw [show (pre++y :: tl).drop (pre.length+1)=tl from by rw [show pre++y :: tl=(pre++[y])++tl from by simp];exact List.drop_left' (by simp)] at hC2
  refine je (s:=.slc) (t:=x) rfl h13 rfl ?_
  refine qm (s:=.slc) (a1,pre.length,x.2.2) (hr1 _) ?_
  refine je (s:=.slc) (t:=x) rfl h13 rfl ?_
  refine qm (s:=.slc) (a2,x.2.1-(pre.length+1),x.2.2-(pre.length+1)) (hr2 _) ?_
  refine qj1 rfl fun w4 hx4 hm4=>?_
  have hx04:=hx03.trans hx4
  have h14:=hx04.get h1 (by simp)
  refine⟨qm (s:=.slc) (a2,x.2.1-(pre.length+1),x.2.2-(pre.length+1)) (hr2 _) rfl,?_⟩
  refine⟨je (s:=.slc) (t:=x) rfl h14 rfl rfl,?_⟩
  refine⟨qm (s:=.slc) (a1,pre.length,x.2.2) (hr1 _) rfl,?_⟩
  refine⟨je (s:=.slc) (t:=x) rfl h14 rfl rfl,?_⟩
  refine qf0 (r1:=[]) (r2:=pre) rfl hm4 hx4.1 (hC1.ext hx4 (by simp)) rfl (by simp;omega) ?_
  intro x5 w5 hm5 hl5 hx5 hs5
  have hs34:=hx4.1
  have hs03:=hx03.1
  have hx05:Ext [] H w5.heap:=hx04.own hx5 (by intro b hb;simp [jk] at hb;omega)
  have hx35:Ext [] w3.heap w5.heap:=hx4.own hx5 (by intro b hb;simp [jk] at hb;omega)
  have h15:=hx05.get h1 (by simp)
  refine⟨qm (s:=.slc) (a2,x.2.1-(pre.length+1),x.2.2-(pre.length+1)) (hr2 _) rfl,?_⟩
  refine⟨je (s:=.slc) (t:=x) rfl h15 rfl rfl,?_⟩
  rw [List.nil_append] at hm5
  refine qf0 (r1:=pre) (r2:=tl) rfl hm5 (Nat.le_trans hs34 hx5.1) (hC2.ext hx35 (by simp)) (by simp only;omega) (by omega) ?_
  intro x6 w6 hm6 hl6 hx6 hs6
  have hx06:Ext [] H w6.heap:=hx05.own hx6 (by intro b hb;have:=qx hm5 b hb;omega)
  have h16:=hx06.get h1 (by simp)
  refine zbd rfl h16 (by simp) fun w7 hw7=>?_
  have hx67:Ext [p] w6.heap w7.heap:=by rw [hw7];exact Ext.set _ (by simp)
  have hg6:=qx hm6
  have hm7:Mine w7.heap 0 za2 33 x6 ((pre++tl).flatMap zff):=by
   refine (hm6.ext hx67 fun b hb=>?_).mono (Nat.zero_le _)
   have:=hg6 b hb
   have:=lt_of_get h1
   simp only [List.mem_singleton];omega
  refine⟨rfl,pre++tl,fp++jk x6,⟨x6,by rw [hw7];exact qc h16,hm7,by simp [h3],fun b hb=>by simp [hb],?_,h6.sub fun z hz=>zee.2 (.inr hz),h7.sub⟩,(hx06.mono (by simp)).trans (hx67.mono (by simpa using h3)),?_,?_⟩
  ·have hV6:z1q w6.heap fp (pre++tl):=(h5.ext hx06 (by simp)).sub fun z hz=>zee.2 (.inr hz)
   exact (hV6.off (o:=.map #[] 0) h16 (by decide) hx67).mono fun b hb=>by simp [hb]
  ·intro b hb
   rcases List.mem_append.1 hb with hb | hb
   ·exact .inl hb
   ·exact .inr ⟨by have:=hg6 b hb;omega,(zbs hm7 b hb).1⟩
  ·intro k'
   by_cases e:k'=k
   ·rw [if_pos e,e,<-hyk]
    unfold vw
    rw [zhn fun z hz=>?_];rfl
    rcases List.mem_append.1 hz with hz | hz
    ·exact zst (hlo z hz)
    ·exact (zst (hhi z hz)).symm
   ·rw [if_neg e,znc (y:=y) (fun z hz=>zst (hlo z hz)),if_neg (by rw [hyk];exact e)]
theorem z0d {place:Nat->Option (Nat×Nat)}{cells:Array Value}{i off size:Nat}{v:Value}{rest:List (Nat×Value)}(hp:place i=some (off,size)) (hs:v.cells.size=size) (ho:off+size<=cells.size):Instr.fill place cells ((i,v) :: rest)=Instr.fill place (setCells cells off v.cells.toList) rest:=by
 simp only [Instr.fill,hp,hs,ne_eq,not_true_eq_false,decide_false,Bool.false_or]
 rw [if_neg (by simp;omega)]
 have h:=zli off v.cells.toList 0 cells
 simp only [Nat.add_zero] at h
 rw [<-Array.foldl_toList,Array.toList_zipIdx,h]
theorem z6s {x:Option Addr×Nat×Nat}:(zb2 x).cells=#[zb2 x]:=rfl
theorem qfx (u v:Value):P.built za2 [(0,u),(1,v)]=Instr.fill (fun i=>#[(0,32),(32,1)][i]?) ((List.replicate 32 (Value.int .u8 0))++[Value.slice none 0 0]).toArray [(0,u),(1,v)]:=by kernel_rfl
theorem qij {A:List Value}(hA:A.length=32) (x:Option Addr×Nat×Nat) (w:World):(Instr.build za2 #[(0,.agg A.toArray),(1,zb2 x)]).run P w=.ok (.agg (A++[zb2 x]).toArray) w:=by
 refine run_build w _ _ _ ?_
 show P.built za2 [(0,.agg A.toArray),(1,zb2 x)]=_
 have hc:(Value.agg A.toArray).cells=A.toArray:=rfl
 rw [qfx,z0d (off:=0) (size:=32) rfl (by rw [hc];simpa using hA) (by simp),z0d (off:=32) (size:=1) rfl rfl (by simp)]
 simp only [Instr.fill]
 congr 1
 rw [hc,z6s]
 apply Array.ext_getElem?
 intro j
 show (setCells (setCells _ 0 A.toArray.toList) 32 [zb2 x])[j]?=_
 rw [zdc (by simp),zdc (by simp;omega)]
 simp only [List.length_cons,List.length_nil,List.getElem?_toArray,hA]
 by_cases h1:j < 32
 ·rw [if_neg (by omega),if_pos (by omega),List.getElem?_append_left (by omega)]
  simp
 ·by_cases h2:j=32
  ·subst h2;simp [hA]
  ·rw [if_neg (by omega),if_neg (by omega)]
   rw [List.getElem?_eq_none (by simp;omega),List.getElem?_eq_none (by simp;omega)]
theorem qhw {w:World}{H:Heap}(hw:w.heap=H) (y:BE) (h32:y.1.length=32){K:(Option Addr×Nat×Nat)->World->Prop}(hK:∀ a w1,Ext [] H w1.heap->Cells w1.heap a ([y].flatMap zff)->K (a,1,1) w1) :
  zba P (Instr.build za2 #[(0,.agg (byteCells y.1).toArray),(1,.slice y.2.1.1.1 y.2.1.1.2.1 y.2.1.1.2.2)]) .any w fun t=>zaw P (Instr.buildSlice jc 1 #[(0,t)]) .slc w K:=by
 refine qm (s:=.any) _ (qij (A:=byteCells y.1) (by rw [jl,h32]) y.2.1.1 w) ?_
 have hc:(Value.agg (byteCells y.1++[zb2 y.2.1.1]).toArray).cells=(zff y).toArray:=by
  show (byteCells y.1++[zb2 y.2.1.1]).toArray=_
  rw [zff,z0z h32]
 refine zah (s:=.slc) (some ⟨w.heap.size,0,none⟩,1,1) _ (zen EB uB (v:=.agg (byteCells y.1++[zb2 y.2.1.1]).toArray) (by rw [hc];simp [zdq]) (by omega) (by omega)) ?_
 refine hK _ _ (by rw [<-hw];exact .push _) (.inr ⟨w.heap.size,0,_,_,_,rfl,zk,?_,?_⟩)
 ·rw [hc];simp
 ·rw [hc];simp
def bare (r:SM):List (List UInt8×List UInt8):=r.map fun x=>(x.1,x.2.1.2)
theorem z08:∀ {r s:SM},bare r=bare s->∀ k,vw r k=vw s k
 | [],[],_,_=>rfl
 | [],y :: s,h,_=>by simp [bare] at h
 | x :: r,[],h,_=>by simp [bare] at h
 | x :: r,y :: s,h,k=>by
  simp only [bare,List.map_cons,List.cons.injEq,Prod.mk.injEq] at h
  obtain⟨⟨h1,h2⟩,h3⟩:=h
  have ih:=z08 (r:=r) (s:=s) h3 k
  unfold vw at ih |-
  by_cases e:x.1=k
  ·rw [zb7 e,zb7 (by rw [<-h1];exact e)];simp [h2]
  ·rw [zb4 e,zb4 (by rw [<-h1];exact e)];exact ih
theorem z95 {r s:SM}(h:bare r=bare s):r.map (·.1)=s.map (·.1):=by
 have:=congrArg (List.map (·.1)) h
 simpa [bare,Function.comp_def] using this
theorem qfd {r s:SM}(h:bare r=bare s) (hs:ROk s):ROk r:=by
 have hk:=z95 h
 refine⟨fun x hx=>?_,?_⟩
 ·have:x.1∈s.map (·.1):=by rw [<-hk];exact List.mem_map.2 ⟨x,hx,rfl⟩
  obtain⟨y,hy,e⟩:=List.mem_map.1 this
  rw [<-e];exact hs.len y hy
 ·have h1:(s.map (·.1)).Pairwise fun a b=>Lib.compareBytes a b < 0:=List.pairwise_map.2 hs.rise
  rw [<-hk] at h1
  exact List.pairwise_map.1 h1
theorem z3o {r s:SM}(h:bare r=bare s):r.length=s.length:=by simpa [bare] using congrArg List.length h
set_option maxHeartbeats 4000000 in
theorem qcy {w:World}{H:Heap}{fp:List Nat}{p:Nat}{q:Int}{rl:SM}(hw:w.heap=H) (hS:zdf H fp p q rl) (hn:rl.length < 549755813888) (hlen:∀ x∈rl,x.2.1.2.length < 1099511627776) :
  zy P zg8 #[.pointer (some ⟨p,0,none⟩)] w fun e w'=>∃ p' fp' rl',e=.returned (.pointer (some ⟨p',0,none⟩))/\zdf w'.heap fp' p' q rl'/\Ext [] H w'.heap/\(∀ b∈fp',H.size<=b/\b < w'.heap.size)/\bare rl'=bare rl:=by
 obtain⟨x,h1,h2,h3,h4,h5,h6,h7⟩:=hS
 have hxl:=zep h2
 refine zpq ?_
 unfold zkh
 simp only [qg,vg,Nat.zero_add]
 refine je (s:=.int .i64) (t:=q) hw h1 rfl ?_
 refine qm (s:=.any) _ (bR q _) ?_
 refine jm hw fun w1 hw1=>?_
 have hx1:Ext [] H w1.heap:=by rw [hw1];exact .push _
 have hs1:w1.heap.size=H.size+1:=by rw [hw1];simp
 refine jg (fun (s:Int) W=>∃ (i:Nat) (xc:Option Addr×Nat×Nat) (cl:SM),s=(i:Int)/\i<=rl.length/\Ext [] H W.heap/\H.size < W.heap.size/\W.heap[H.size]?=some (.cells #[.int .i64 q,zb2 xc] zf3 (0,0))/\Mine W.heap (H.size+1) za2 33 xc (cl.flatMap zff) /\
  bare cl=bare (rl.take i)/\(∀ z∈cl,Mine W.heap (H.size+1) qw 1 z.2.1.1 (byteCells z.2.1.2))/\Apart cl) (fun s _=>(rl.length-s).toNat)
  ⟨0,(none,0,0),[],rfl,Nat.zero_le _,hx1,by omega,by rw [hw1];exact zk,.inl ⟨rfl,rfl⟩,rfl,(by intro z hz;cases hz),(by intro z hz;cases hz)⟩ ?_
 rintro _ W ⟨i,xc,cl,rfl,hi,hxW,hsW,hbW,hmW,hbare,hvals,hap⟩
 refine je (s:=.slc) (t:=x) rfl (hxW.get h1 (by simp)) rfl ?_
 refine zx (fun hlt=>?_) (fun hge=>?_)
 ·have hil:i < rl.length:=by omega
  have hget:=List.getElem?_eq_getElem hil
  have hmem:rl[i]∈rl:=List.getElem_mem hil
  have hk:=h7.len _ hmem
  have hyl:=zrr h5 hget
  have hLl:=hlen _ hmem
  have hcl:cl.length=i:=by rw [z3o hbare];simp;omega
  have hcll:xc.2.1=i:=by have:=hmW.len;rw [zq zff zdq] at this;omega
  obtain⟨hyM,_⟩:=h5 _ hmem
  generalize rl[i]=y at *
  refine jv rfl fun w3 hw3=>?_
  have hx3:Ext [] W.heap w3.heap:=by rw [hw3];exact .refl _ _
  have hx03:Ext [] H w3.heap:=hxW.trans hx3
  have hb3:=hx3.get hbW (by simp)
  have h13:=hx03.get h1 (by simp)
  have h23:=h2.ext hx03 (by simp)
  refine je (s:=.slc) (t:=xc) rfl hb3 rfl ?_
  refine je (s:=.slc) (t:=x) rfl h13 rfl ?_
  refine zd6 zdq (by omega) h23.cells hxl hget rfl fun rb o c T fr _ hrb hrs hrc _=>?_
  have hkey:c.extract o (o+32)=(byteCells y.1).toArray:=z1m hk hrs hrc
  refine zhc rfl hrb (by omega) ?_
  rw [hkey]
  refine je (s:=.slc) (t:=x) rfl h13 rfl ?_
  refine zd6 zdq (by omega) h23.cells hxl hget rfl fun rb' o' c' T' fr' _ hrb' hrs' hrc' _=>?_
  simp only [vg]
  refine je (s:=.slc) (t:=y.2.1.1) rfl hrb' (zx3 hrc') ?_
  refine qgs rfl fun w4 hx4 hm4=>?_
  have hx04:=hx03.trans hx4
  refine⟨je (s:=.slc) (t:=y.2.1.1) rfl (hx4.get hrb' (by simp)) (zx3 hrc') rfl,?_⟩
  refine⟨je (s:=.slc) (t:=x) rfl (hx04.get h1 (by simp)) rfl rfl,?_⟩
  refine⟨zhc rfl (hx4.get hrb (by simp)) (by omega) (by rw [hkey]),?_⟩
  refine⟨je (s:=.slc) (t:=x) rfl (hx04.get h1 (by simp)) rfl rfl,?_⟩
  refine⟨je (s:=.slc) (t:=xc) rfl (hx4.get hb3 (by simp)) rfl rfl,?_⟩
  refine qbu rfl hm4 hx4.1 (hyM.ext hx04 (by simp)).cells hyl (by omega) ?_
  intro x5 w5 hm5 hl5 hx5
  have hx35:Ext [] w3.heap w5.heap:=hx4.own hx5 (by intro b hb;simp [jk] at hb;omega)
  have hx05:=hx03.trans hx35
  refine⟨zhc rfl (hx35.get hrb (by simp)) (by omega) (by rw [hkey]),?_⟩
  refine⟨je (s:=.slc) (t:=x) rfl (hx05.get h1 (by simp)) rfl rfl,?_⟩
  refine⟨je (s:=.slc) (t:=xc) rfl (hx35.get hb3 (by simp)) rfl rfl,?_⟩
  refine qhw rfl (y.1,(x5,y.2.1.2),0) hk fun a6 w6 hx6 hC6=>?_
  have hx36:=hx35.trans hx6
  refine⟨je (s:=.slc) (t:=xc) rfl (hx36.get hb3 (by simp)) rfl rfl,?_⟩
  have hm6:Mine w6.heap (H.size+1) za2 33 xc (cl.flatMap zff):=hmW.ext (hx3.trans hx36) (by simp)
  refine qf0 (r1:=cl) (r2:=[(y.1,(x5,y.2.1.2),0)]) rfl hm6 (by have:=(hx3.trans hx36).1;omega) hC6 rfl (by simp;omega) ?_
  intro x7 w7 hm7 hl7 hx7 hs7
  have hb6:=hx36.get hb3 (by simp)
  have hnb:H.size∉jk xc:=fun h=>by have:=qx hm6 _ h;omega
  have hb7:=hx7.get hb6 hnb
  refine zbd rfl hb7 (by simp) fun w8 hw8=>?_
  have hx78:Ext [H.size] w7.heap w8.heap:=by rw [hw8];exact Ext.set _ (by simp)
  have hg7:=qx hm7
  have hx06:=hx03.trans hx36
  have hx08:Ext [] H w8.heap:=(hx06.own hx7 (by intro b hb hlt;have:=qx hm6 _ hb;omega)).own hx78 (by intro b hb hlt;simp at hb;omega)
  refine jd ((i+1:Nat):Int) (by omega) (by omega) (by omega) ?_
  have hs56:=hx6.1
  have hs35:=hx35.1
  have hs4:=hx4.1
  have hsw3:W.heap.size<=w3.heap.size:=hx3.1
  have hg5:=qx hm5
  have tail:∀ {z:BV},Mine w6.heap (H.size+1) qw 1 z.1 (byteCells z.2)->Mine w8.heap (H.size+1) qw 1 z.1 (byteCells z.2):=by
   intro z hz
   refine (hz.ext hx7 fun b hb hb2=>?_).ext hx78 fun b hb=>?_
   ·obtain⟨_,c1,e1⟩:=zbs hz b hb
    obtain⟨_,c2,e2⟩:=zbs hm6 b hb2
    rw [e1] at e2;cases e2
   ·have:=qx hz b hb
    simp only [List.mem_singleton];omega
  refine⟨⟨i+1,x7,cl++[(y.1,(x5,y.2.1.2),0)],rfl,by omega,hx08,by have:=hx7.1;have:=hx78.1;have:=hx36.1;omega,by rw [hw8];exact qc hb7,hm7.ext hx78 (fun b hb=>by have:=hg7 b hb;simp;omega),?_,?_,?_⟩,by omega⟩
  ·unfold bare at hbare |-
   rw [List.take_add_one,hget,List.map_append,List.map_append,hbare];rfl
  ·intro z hz
   rcases List.mem_append.1 hz with hz | hz
   ·exact tail ((hvals z hz).ext (hx3.trans hx36) (by simp))
   ·simp only [List.mem_singleton] at hz;subst hz
    exact tail (z:=(x5,y.2.1.2)) ((hm5.mono (by omega)).ext hx6 (by simp))
  ·refine Apart.mid (t:=[]) (by rw [List.append_nil];exact hap) fun z hz b hb hb2=>?_
   rw [List.append_nil] at hz
   have h8:=hg5 b hb
   have h9:=(zbs (hvals z hz) b hb2).1
   omega
 ·have hie:i=rl.length:=by omega
  subst hie
  rw [List.take_length] at hbare
  refine⟨H.size,H.size :: (jk xc++cl.flatMap fun z=>jk z.2.1.1),cl,rfl,⟨xc,hbW,hmW.mono (Nat.zero_le _),by simp,fun b hb=>by simp [hb],fun z hz=>⟨(hvals z hz).mono (Nat.zero_le _),fun b hb=>by simp only [List.mem_cons,List.mem_append,List.mem_flatMap];exact .inr (.inr ⟨z,hz,hb⟩)⟩,hap,qfd hbare h7⟩,hxW,?_,hbare⟩
  intro b hb
  simp only [List.mem_cons,List.mem_append,List.mem_flatMap] at hb
  rcases hb with rfl | hb | ⟨z,hz,hb⟩
  ·exact⟨Nat.le_refl _,hsW⟩
  ·exact⟨by have:=qx hmW b hb;omega,(zbs hmW b hb).1⟩
  ·exact⟨by have:=qx (hvals z hz) b hb;omega,(zbs (hvals z hz) b hb).1⟩
end Go.Proofs.YtbmegmbnlajbbaaGreatDoor.Bl
namespace Go.Proofs.YtbmegmbnlajbbaaGreatDoor.Bl
open Go Go.Fw Go.Proofs
def Whole (r:SM):Prop:=∀ k L,vw r k=some L->Sha.sum L=k/\L.length<=4096
theorem Whole.small {r:SM}(h:Whole r):Small r:=fun k L hv=>by have:=(h k L hv).2;omega
theorem Rows.ext {M:List Nat}{H H':Heap}{a:Option Addr}{n:Nat}{Ls:List (List UInt8)}(h:Rows H a n Ls) (hx:Ext M H H') (hM:∀ b,b < H.size->b∉M):Rows H' a n Ls:=by
 refine⟨h.1,fun i hi=>?_⟩
 obtain⟨b,o,c,T,fr,x,h1,h2,h3,h4,h5,h6⟩:=h.2 i hi
 refine⟨b,o,c,T,fr,x,h1,hx.get h2 (hM b (lt_of_get h2)),h3,h4.ext hx fun y hy hv=>?_,h5,h6⟩
 obtain⟨z,hz,hlt⟩:=h4.lt hv
 rw [hy] at hz;cases hz
 exact hM _ hlt
end Go.Proofs.YtbmegmbnlajbbaaGreatDoor.Bl
namespace Go.Proofs.YtbmegmbnlajbbaaGreatDoor.Bl
open Go Go.Fw Go.Proofs
theorem zzj {F:BL}{d L k:List UInt8}:znl (F++[(d,L)]) k=match znl F k with | some v=>some v | none=>if k=d then some L else none:=by
 induction F with
 | nil=>
  simp only [znl,List.nil_append,List.find?_cons,List.find?_nil,Option.map_none]
  by_cases e:d=k
  ·subst e;simp
  ·have:(d==k)=false:=by simp [e]
   simp [this,Ne.symm e]
 | cons x F ih=>
  simp only [znl,List.cons_append,List.find?_cons] at ih |-
  by_cases e:x.1=k
  ·simp [e]
  ·have:(x.1==k)=false:=by simp [e]
   simp only [this]
   exact ih
theorem zz3:∀ (Ls:List (List UInt8)) (F:BL),(∀ k L,znl F k=some L->Sha.sum L=k)->∀ k L,znl (Ls.foldl zpy F) k=some L->Sha.sum L=k
 | [],F,h=>h
 | M :: Ls,F,h=>by
  rw [List.foldl_cons]
  refine zz3 Ls (zpy F M) fun k L hg=>?_
  unfold zpy at hg
  split at hg
  ·exact h k L hg
  ·rw [zzj] at hg
   cases hf:znl F k with
   | some v=>rw [hf] at hg;simp only at hg;exact h k L (by rw [hf];exact hg)
   | none=>
    rw [hf] at hg
    simp only at hg
    split at hg
    ·rename_i e;cases hg;exact e.symm
    ·cases hg
theorem zvm:∀ (Ls:List (List UInt8)) (F:BL),(F.map (·.1)).Nodup->((Ls.foldl zpy F).map (·.1)).Nodup
 | [],F,h=>h
 | M :: Ls,F,h=>by
  rw [List.foldl_cons]
  refine zvm Ls (zpy F M) ?_
  unfold zpy
  split
  ·exact h
  ·rename_i hn
   rw [List.map_append,List.nodup_append]
   refine⟨h,by simp,fun a ha b hb=>?_⟩
   simp only [List.map_cons,List.map_nil,List.mem_singleton] at hb
   subst hb
   rintro rfl
   obtain⟨x,hx,e⟩:=List.mem_map.1 ha
   apply hn
   unfold znl
   rw [Option.isSome_map]
   rw [List.find?_isSome]
   exact⟨x,hx,by simp [e]⟩
theorem qc0 {V U:List UInt8->Option (List UInt8)}{F:BL}{L:List UInt8}(hF:∀ k L,znl F k=some L->Sha.sum L=k) (hU:∀ k,U k=zwo (V k) (znl F k) k) (k:List UInt8) :
  (if k=Sha.sum L then zwo (U (Sha.sum L)) (some L) (Sha.sum L) else U k)=zwo (V k) (znl (zpy F L) k) k:=by
 unfold zpy
 cases hf:znl F (Sha.sum L) with
 | some M=>
  simp only [Option.isSome_some,if_true]
  by_cases e:k=Sha.sum L
  ·subst e
   rw [if_pos rfl,hU,hf]
   have hM:=hF _ _ hf
   cases hv:V (Sha.sum L) with
   | none=>simp [zwo,hM]
   | some old=>
    by_cases e2:Sha.sum old=Sha.sum L
    ·simp [zwo,e2]
    ·simp [zwo,e2,hM]
  ·rw [if_neg e,hU]
 | none=>
  simp only [Option.isSome_none,Bool.false_eq_true,if_false]
  rw [zzj]
  by_cases e:k=Sha.sum L
  ·subst e
   rw [if_pos rfl,hU,hf]
   simp [zwo]
  ·rw [if_neg e,hU]
   cases znl F k with
   | some M=>rfl
   | none=>simp [e]
theorem zla {r:SM}{p:List UInt8->Bool}{k:List UInt8}:zbk (r.filter fun x=>p x.1) k=if p k then zbk r k else none:=by
 induction r with
 | nil=>simp [zbk]
 | cons x r ih=>
  rw [List.filter_cons]
  by_cases e:x.1=k
  ·subst e
   cases hp:p x.1 with
   | true=>simp only [if_true];rw [zb7 rfl,zb7 rfl]
   | false=>simp only [Bool.false_eq_true,if_false];rw [ih,hp];simp
  ·rw [zb4 e]
   cases hp:p x.1 with
   | true=>simp only [if_true];rw [zb4 e,ih]
   | false=>simp only [Bool.false_eq_true,if_false];exact ih
theorem zuv {r:SM}{p:List UInt8->Bool}{k:List UInt8}:vw (r.filter fun x=>p x.1) k=if p k then vw r k else none:=by
 unfold vw;rw [zla];split <;> rfl
def qf1 (F:BL):SM:=F.map fun x=>(x.1,((none,0,0),x.2),0)
theorem qaw {F:BL}:view (qf1 F)=F:=by
 unfold view qf1
 rw [List.map_map]
 conv=>rhs;rw [<-List.map_id F]
 rfl
theorem z9x {F:BL}{k:List UInt8}:vw (qf1 F) k=znl F k:=by rw [<-zpd,qaw]
theorem z0y {tl rl:SM}{F:BL}(hk:(tl.map (·.1)).Nodup) (hF:(F.map (·.1)).Nodup) (hv:∀ k,vw tl k=zwo (vw rl k) (znl F k) k):zkg tl rl=extra rl F:=by
 have h1:zkg tl rl=total (tl.filter fun x=>(vw rl x.1).isNone):=rfl
 have h2:extra rl F=total ((qf1 F).filter fun x=>(vw rl x.1).isNone):=by
  unfold extra total qf1
  rw [List.filter_map,List.map_map]
  rfl
 rw [h1,h2]
 refine (zik (hk.sublist (List.Sublist.map _ List.filter_sublist)) (List.Nodup.sublist (List.Sublist.map _ List.filter_sublist) (by simpa [qf1,Function.comp_def] using hF)) fun k=>?_).1
 rw [zuv (p:=fun k=>(vw rl k).isNone),zuv (p:=fun k=>(vw rl k).isNone),z9x,hv]
 cases vw rl k with
 | none=>cases znl F k <;> rfl
 | some v=>rfl
theorem Mine.putk {H:Heap}{B sz:Nat}{T:TypeId}{x:Option Addr×Nat×Nat}{vs:List Value}(h:Mine H B T sz x vs){i:Nat}(hi:i < vs.length) (v:Value) :
  ∃ b c,x.1=some ⟨b,0,none⟩/\H[b]?=some (.cells c T (0,0))/\i < c.size/\Mine (H.setIfInBounds b (.cells (c.setIfInBounds i v) T (0,0))) B T sz x (vs.set i v):=by
 rcases h with⟨_,rfl⟩ | ⟨b,c,hx,hB,hb,hc,hl,hle,he⟩
 ·cases hi
 ·have hvc:vs.length<=c.size:=by rw [hl,hc];exact Nat.mul_le_mul_right sz hle
  have hget:∀ j,j < vs.length->c[j]?=vs[j]?:=by
   intro j hj
   have:((c.extract 0 vs.length).toList)[j]?=vs[j]?:=by rw [he]
   rw [Array.getElem?_toList,Array.getElem?_extract,if_pos (by omega)] at this
   simpa using this
  refine⟨b,c,hx,hb,by omega,.inr ⟨b,_,hx,hB,qc hb,by simpa using hc,by simpa using hl,hle,?_⟩⟩
  apply List.ext_getElem?
  intro j
  rw [Array.getElem?_toList,Array.getElem?_extract]
  simp only [List.length_set,Nat.sub_zero,Nat.zero_add,Array.size_setIfInBounds]
  by_cases hj:j < vs.length
  ·rw [if_pos (by omega),Array.getElem?_setIfInBounds,List.getElem?_set]
   by_cases e:i=j
   ·subst e;simp [hi,show i < c.size by omega]
   ·simp only [e,if_false];exact hget j hj
  ·rw [if_neg (by omega),List.getElem?_eq_none (by simp;omega)]
theorem set_mid {pre t:SM}{y:BE}{v:Option Addr×Nat×Nat}{L:List UInt8}{s:Nat}:((pre++y :: t).flatMap zff).set (pre.length * 33+32) (zb2 v)=(pre++(y.1,(v,L),s) :: t).flatMap zff:=by
 have h1:(pre.flatMap zff).length=pre.length * 33:=zq zff zdq _
 have h2:(byteCells (pad y.1)).length=32:=by rw [jl,zmp]
 simp only [List.flatMap_append,List.flatMap_cons]
 rw [List.set_append_right _ _ (by omega),h1,Nat.add_sub_cancel_left,List.set_append_left _ _ (by rw [zdq];omega)]
 congr 2
 unfold zff
 rw [List.set_append_right _ _ (by omega),h2]
 rfl
theorem qb5 {rl pre rest:SM}{k:List UInt8}(h:Split rl k pre rest) (hr:zi1 rl) (hh:hit rest k=false):∀ x∈rest,Lib.compareBytes k x.1 < 0:=by
 intro x hx
 have h1:=h.hi x hx
 have h2:x.1≠k:=by
  intro e
  have hv:=ztk hr.nodup (y:=x) (by rw [h.eq];simp [hx])
  rw [e,zno h hr hh] at hv
  cases hv
 have h3:Lib.compareBytes x.1 k≠0:=fun e=>h2 (zez.1 e)
 rw [zji]
 rcases zg7 (a:=x.1) (b:=k) with e | e | e <;> omega
def Pt (H:Heap) (pc:Nat) (q:Int) (rl:SM) (Ls:List (List UInt8)) (i:Nat) (W:World):Prop:=∃ tl fpc,Ext [] H W.heap/\zdf W.heap fpc pc q tl/\(∀ b∈fpc,H.size<=b/\b < W.heap.size) /\
 (∀ k,vw tl k=zwo (vw rl k) (znl (fresh (Ls.take i)) k) k)/\tl.length<=rl.length+i/\total tl<=total rl+4096 * i/\∀ x∈tl,x.2.1.2.length < 1099511627776
theorem Pt.next {H:Heap}{pc:Nat}{q:Int}{rl tl:SM}{Ls:List (List UInt8)}{i:Nat}(hi:i < Ls.length){U:List UInt8->Option (List UInt8)}(hU:∀ k,U k=zwo (vw rl k) (znl (fresh (Ls.take i)) k) k)
  (ht:∀ k,vw tl k=if k=Sha.sum Ls[i] then zwo (U (Sha.sum Ls[i])) (some Ls[i]) (Sha.sum Ls[i]) else U k):∀ k,vw tl k=zwo (vw rl k) (znl (fresh (Ls.take (i+1))) k) k:=by
 intro k
 rw [ht,zq6 hi]
 exact qc0 (zz3 _ [] (by intro k L h;simp [znl] at h)) hU k
set_option maxHeartbeats 16000000 in
theorem qax {w:World}{H:Heap}{fp:List Nat}{p:Nat}{q:Int}{rl:SM}{a:Option Addr}{n nc:Nat}{Ls:List (List UInt8)}(hw:w.heap=H) (hS:zdf H fp p q rl) (hfp:∀ b∈fp,b < H.size)
  (hL:Rows H a n Ls) (hb:total rl+4096 * Ls.length < 1125899906842624) (hn:rl.length+Ls.length < 274877906944) (hq:0<=q) (hq2:q<=9223372036854775807) (hlen:∀ x∈rl,x.2.1.2.length < 1099511627776) (hlens:∀ L∈Ls,L.length < 140737488351233) :
  zy P zgj #[.pointer (some ⟨p,0,none⟩),.slice a n nc] w fun e w'=>∃ code rl' fp',e=.returned (.int .i64 code)/\zdf w'.heap fp' p q rl'/\Ext fp H w'.heap/\(∀ b∈fp',b∈fp\/(H.size<=b/\b < w'.heap.size))/\zl0 q rl Ls code rl' /\
   rl'.length<=rl.length+Ls.length/\total rl'<=total rl+4096 * Ls.length/\∀ x∈rl',x.2.1.2.length < 1099511627776:=by
 obtain⟨rfl,hL⟩:=hL
 refine zoq ?_
 unfold zjk
 refine jg (fun (s:Int) W=>∃ i:Nat,s=(i:Int)/\i<=Ls.length/\W=w/\∀ j (h:j < Ls.length),j < i->Ls[j].length<=4096) (fun s _=>(Ls.length-s).toNat) ⟨0,rfl,Nat.zero_le _,rfl,by intro j h h2;omega⟩ ?_
 rintro _ _ ⟨i,rfl,hi,rfl,hsh⟩
 refine zx (fun hlt=>?_) (fun hge=>?_)
 ·have hil:i < Ls.length:=by omega
  obtain⟨bl,ol,cl,Tl,frl,xl,rfl,hbl,hcl,hxC,hxl,hxc⟩:=hL i hil
  refine zkk i rfl hil ?_
  refine je (s:=.slc) (t:=xl) hw hbl hcl ?_
  refine zx (fun hbig=>?_) (fun hsmall=>?_)
  ·have hlong:long Ls:=⟨Ls[i],List.getElem_mem hil,by omega⟩
   exact⟨2,rl,fp,rfl,by rw [hw];exact hS,by rw [hw];exact .refl _ _,fun b hb=>.inl hb,⟨fun _=>⟨rfl,rfl⟩,fun h=>absurd hlong h,fun h=>absurd hlong h⟩,by omega,by omega,hlen⟩
  ·refine jd ((i+1:Nat):Int) (by omega) (by omega) (by omega) ?_
   refine⟨⟨i+1,rfl,by omega,rfl,fun j hj hj1=>?_⟩,by omega⟩
   by_cases e:j=i
   ·subst e;omega
   ·exact hsh j hj (by omega)
 have hnlong:¬long Ls:=by
  rintro ⟨L,hLm,hLl⟩
  obtain⟨j,hj,rfl⟩:=List.mem_iff_getElem.1 hLm
  have:=hsh j hj (by omega)
  omega
 have hsm:∀ j (h:j < Ls.length),Ls[j].length<=4096:=fun j h=>hsh j h (by omega)
 clear hge hsh hi i
 refine zl (qcy hw hS (by omega) hlen) ?_
 rintro e w2 ⟨pc,fpc,tl0,rfl,hT0,hx2,hfpc,hbare⟩
 refine⟨some ⟨pc,0,none⟩,rfl,?_⟩
 have htot0:total tl0=total rl:=by
  have:=congrArg (fun l=>(l.map fun x:List UInt8×List UInt8=>x.2.length).sum) hbare
  simpa [bare,total,Function.comp_def] using this
 refine jg (fun (s:Int) W=>∃ i:Nat,s=(i:Int)/\i<=Ls.length/\Pt H pc q rl Ls i W) (fun s _=>(Ls.length-s).toNat) ⟨0,rfl,Nat.zero_le _,tl0,fpc,hx2,hT0,hfpc,fun k=>by rw [z08 hbare];rfl,by rw [z3o hbare];omega,by omega,?_⟩ ?_
 ·intro x hx
  have:(x.1,x.2.1.2)∈bare tl0:=List.mem_map.2 ⟨x,hx,rfl⟩
  rw [hbare] at this
  obtain⟨y,hy,e⟩:=List.mem_map.1 this
  simp only [Prod.mk.injEq] at e
  rw [<-e.2];exact hlen y hy
 clear hT0 hbare hfpc hx2 htot0 fpc tl0
 rintro _ W ⟨i,rfl,hi,tl,fpc,hxW,hT,hfpc,hview,htl,htt,hlt2⟩
 refine zx (fun hlt=>?_) (fun hge=>?_)
 ·have hil:i < Ls.length:=by omega
  obtain⟨bl,ol,cl,Tl,frl,xl,rfl,hbl,hcl,hxC,hxl,hxc⟩:=hL i hil
  have hLl:=hsm i hil
  have hnext:=fun (tl':SM)=>Pt.next (H:=H) (pc:=pc) (q:=q) (tl:=tl') hil hview
  refine joinP_of (fun _ W'=>Pt H pc q rl Ls (i+1) W') ?_ ?_
  rotate_left
  ·rintro _ W' h
   refine jd ((i+1:Nat):Int) (by omega) (by omega) (by omega) ?_
   exact⟨⟨i+1,rfl,by omega,h⟩,by omega⟩
  refine joinP_of (fun _ W'=>Pt H pc q rl Ls (i+1) W') ?_ (fun _ _ h=>h)
  generalize hLL:Ls[i]=L at *
  refine zkk i rfl hil ?_
  refine je (s:=.slc) (t:=xl) rfl (hxW.get hbl (by simp)) hcl ?_
  refine zl (zpr rfl (hxC.ext hxW (by simp)) hxl (by omega)) ?_
  rintro e w4 ⟨rfl,hx4⟩
  refine⟨arr (Sha.sum L),rfl,?_⟩
  refine qjo rfl zae fun w6 hb6 hx6 hs6=>?_
  have hx46:=hx4.trans hx6
  have hx06:=hxW.trans hx46
  refine qp rfl hb6 (by simp [byteCells,zae]) ?_
  have hT6:=hT.ext hx46 (by simp)
  refine zl (z0w rfl hT6 zae (by omega)) ?_
  rintro e w7 ⟨pre,rest,rfl,hsp,hx7⟩
  refine⟨((pre.length:Int),hit rest (Sha.sum L)),rfl,?_⟩
  have hx07:=hx06.trans hx7
  have hT7:=hT6.ext hx7 (by simp)
  have hb7:=hx7.get hb6 (by simp)
  have hW7:W.heap.size<=w7.heap.size:=(hx46.trans hx7).1
  have hHW:=hxW.1
  have hrise:=hT.rise
  have hfp7:∀ b∈fpc,H.size<=b/\b < w7.heap.size:=fun b hb=>⟨(hfpc b hb).1,by have:=(hfpc b hb).2;omega⟩
  generalize w4.heap.size=bk at *
  clear hx4 hx6 hx46 hx06 hT hT6 hb6 hfpc hxW hs6
  cases hh:hit rest (Sha.sum L) with
  | false=>
   refine zai rfl ?_
   have hvn:=zno hsp hrise hh
   have hgap:=qb5 hsp hrise hh
   obtain⟨xt,t1,t2,t3,t4,t5,t6,t7⟩:=hT7
   have hpH:=(hfp7 _ t3).1
   have heq:=hsp.eq
   subst heq
   have hll:(pre++rest).length=pre.length+rest.length:=by simp
   have hxl7:=zep t2
   have hxc7:=z9b t2
   refine qj1 rfl fun w8 hx8 hm8=>?_
   have hx78:=hx8
   simp only [qg,vg,Nat.zero_add]
   refine je (s:=.slc) (t:=xt) rfl (hx78.get t1 (by simp)) rfl ?_
   obtain⟨a1,hr1,hC1⟩:=qdw (i:=pre.length) (t2.ext hx78 (by simp)).cells hxl7 hxc7 (by omega) rfl
   rw [List.take_left] at hC1
   refine qm (s:=.slc) (a1,pre.length,xt.2.2) (hr1 _) ?_
   refine qf0 (r1:=[]) (r2:=pre) rfl hm8 hx8.1 hC1 rfl (by simp;omega) ?_
   intro x9 w9 hm9 hl9 hx9 hs9
   rw [List.nil_append] at hm9
   have hx79:Ext [] w7.heap w9.heap:=hx8.own hx9 (by intro b hb;simp [jk] at hb;omega)
   refine jv rfl fun w10 hw10=>?_
   have hx910:Ext [] w9.heap w10.heap:=by rw [hw10];exact .refl _ _
   have hx710:=hx79.trans hx910
   refine zkk i rfl hil ?_
   refine qp rfl (hx710.get hb7 (by simp)) (by simp [byteCells,zae]) ?_
   have hbl10:=(hx07.trans hx710).get hbl (by simp)
   refine je (s:=.slc) (t:=xl) rfl hbl10 hcl ?_
   refine qgs rfl fun w11 hx11 hm11=>?_
   have hx711:=hx710.trans hx11
   refine⟨je (s:=.slc) (t:=xl) rfl (hx11.get hbl10 (by simp)) hcl rfl,?_⟩
   refine⟨qp rfl (hx711.get hb7 (by simp)) (by simp [byteCells,zae]) rfl,?_⟩
   refine qbu rfl hm11 hx11.1 (hxC.ext (hx07.trans hx711) (by simp)) hxl (by omega) ?_
   intro x12 w12 hm12 hl12 hx12
   have hx712:Ext [] w7.heap w12.heap:=hx711.own hx12 (by intro b hb hlt;have:=hx710.1;simp [jk] at hb;omega)
   have hx912:Ext [] w9.heap w12.heap:=(hx910.trans hx11).own hx12 (by intro b hb hlt;have:=hx910.1;simp [jk] at hb;omega)
   refine⟨qp rfl (hx712.get hb7 (by simp)) (by simp [byteCells,zae]) rfl,?_⟩
   refine qhw rfl (Sha.sum L,(x12,L),0) zae fun a13 w13 hx13 hC13=>?_
   have hx913:=hx912.trans hx13
   have hx713:=hx712.trans hx13
   have hm13:=hm9.ext hx913 (by simp)
   have hs78:=hx8.1
   have hs79:=hx79.1
   refine qf0 (r1:=pre) (r2:=[(Sha.sum L,(x12,L),0)]) rfl hm13 (by have:=hx713.1;omega) hC13 rfl (by simp;omega) ?_
   intro x14 w14 hm14 hl14 hx14 hs14
   have hx714:Ext [] w7.heap w14.heap:=hx713.own hx14 (by intro b hb hlt;have:=qx hm13 b hb;omega)
   refine je (s:=.slc) (t:=xt) rfl (hx714.get t1 (by simp)) rfl ?_
   obtain⟨a2,hr2,hC2⟩:=z3q (i:=pre.length) (t2.ext hx714 (by simp)).cells hxl7 hxc7 (by omega) rfl
   rw [List.drop_left] at hC2
   refine qm (s:=.slc) (a2,xt.2.1-pre.length,xt.2.2-pre.length) (hr2 _) ?_
   refine qf0 (r1:=pre++[(Sha.sum L,(x12,L),0)]) (r2:=rest) rfl hm14 (by have:=hx714.1;omega) hC2 (by simp only;omega) (by simp;omega) ?_
   intro x15 w15 hm15 hl15 hx15 hs15
   have hx715:Ext [] w7.heap w15.heap:=hx714.own hx15 (by intro b hb hlt;have:=qx hm14 b hb;omega)
   have t15:=hx715.get t1 (by simp)
   refine zbd rfl t15 (by simp) fun w16 hw16=>?_
   have hx1516:Ext [pc] w15.heap w16.heap:=by rw [hw16];exact Ext.set _ (by simp)
   rw [List.append_assoc,List.singleton_append] at hm15
   have hg15:=qx hm15
   have hg12:=qx hm12
   have hpc7:=(hfp7 _ t3).2
   have hm16:=hm15.ext hx1516 (fun b hb=>by have:=hg15 b hb;simp only [List.mem_singleton];omega)
   have h12_15:Mine w15.heap 0 qw 1 x12 (byteCells L):=by
    have h1:=hm12.ext hx13 (by simp)
    have h2:=h1.ext hx14 (fun b hb hb2=>by
     obtain⟨_,c1,e1⟩:=zbs h1 b hb
     obtain⟨_,c2,e2⟩:=zbs hm13 b hb2
     rw [e1] at e2;cases e2)
    have h3:=h2.ext hx15 (fun b hb hb2=>by
     obtain⟨_,c1,e1⟩:=zbs h2 b hb
     obtain⟨_,c2,e2⟩:=zbs hm14 b hb2
     rw [e1] at e2;cases e2)
    exact h3.mono (Nat.zero_le _)
   have hs712:=hx712.1
   have hs710:=hx710.1
   have h12_16:Mine w16.heap 0 qw 1 x12 (byteCells L):=h12_15.ext hx1516 (fun b hb=>by have:=hg12 b hb;simp only [List.mem_singleton];omega)
   refine⟨pre++(Sha.sum L,(x12,L),0) :: rest,fpc++jk x15++jk x12,(hx07.trans hx715).own hx1516 (by intro b hb hlt;simp at hb;omega),⟨x15,by rw [hw16];exact qc t15,hm16.mono (Nat.zero_le _),by simp [t3],fun b hb=>by simp [hb],?_,?_,?_⟩,?_,?_,?_,?_,?_⟩
   ·intro z hz
    rcases zee.1 hz with rfl | hz
    ·exact⟨h12_16,fun b hb=>by simp only [List.mem_append];exact .inr hb⟩
    ·have hV:=(t5.ext hx715 (by simp)).off (o:=.map #[] 0) t15 (by decide) hx1516
     exact⟨(hV z hz).1,fun b hb=>by simp [(hV z hz).2 b hb]⟩
   ·refine t6.mid fun z hz b hb hb2=>?_
    have h1:=hg12 b hb
    have h2:=(hfp7 b ((t5 z hz).2 b hb2)).2
    have:=hx710.1
    omega
   ·exact t7.mid zae hsp.lo hgap
   ·intro b hb
    rw [List.append_assoc] at hb
    rcases List.mem_append.1 hb with hb | hb
    ·exact⟨(hfp7 b hb).1,by have:=(hfp7 b hb).2;have:=hx715.1;have:=hx1516.1;omega⟩
    ·rcases List.mem_append.1 hb with hb | hb
     ·exact⟨by have:=hg15 b hb;omega,(zbs hm16 b hb).1⟩
     ·exact⟨by have:=hg12 b hb;omega,(zbs h12_16 b hb).1⟩
   ·refine hnext _ fun k=>?_
    rw [znc (y:=(Sha.sum L,(x12,L),0)) (fun z hz=>zst (hsp.lo z hz)),hvn]
    rfl
   ·simp only [List.length_append,List.length_cons] at htl |-;omega
   ·rw [z1i];simp only;omega
   ·intro z hz
    rcases zee.1 hz with rfl | hz
    ·simp only;omega
    ·exact hlt2 z hz
  | true=>
   refine jr rfl ?_
   obtain⟨y,t,rfl,hyk,hvy,hget,hmem⟩:=zqc hsp hrise hh
   obtain⟨xt,t1,t2,t3,t4,t5,t6,t7⟩:=hT7
   have hpH:=(hfp7 _ t3).1
   have hxl7:=zep t2
   have hyl:=zrr t5 hget
   have hyL:=hlt2 _ hmem
   refine jv rfl fun w17 hw17=>?_
   have hx17:Ext [] w7.heap w17.heap:=by rw [hw17];exact .refl _ _
   simp only [qg,vg,Nat.zero_add]
   refine je (s:=.slc) (t:=xt) rfl (hx17.get t1 (by simp)) rfl ?_
   refine zkv rfl (t2.ext hx17 (by simp)).cells hxl7 hget rfl ?_
   refine qp rfl (hx17.get hb7 (by simp)) (by simp [byteCells,zae]) ?_
   refine zl (zpr rfl ((t5 y hmem).1.ext hx17 (by simp)).cells hyl (by omega)) ?_
   rintro e w18 ⟨rfl,hx18⟩
   refine⟨arr (Sha.sum y.2.1.2),rfl,?_⟩
   have hx718:=hx17.trans hx18
   refine⟨qp rfl (hx718.get hb7 (by simp)) (by simp [byteCells,zae]) rfl,?_⟩
   refine qm (s:=.bool) _ (ztb u27 u5 c5 g27 zae zae) ?_
   have heq:=hsp.eq
   subst heq
   obtain⟨_,hlo,hhi⟩:=zpl.1 hrise
   by_cases e:Sha.sum y.2.1.2=Sha.sum L
   ·refine jr (by simp [e]) ?_
    refine⟨pre++y :: t,fpc,hx07.trans hx718,⟨xt,hx718.get t1 (by simp),t2.ext hx718 (by simp),t3,t4,t5.ext hx718 (by simp),t6,t7⟩,fun b hb=>⟨(hfp7 b hb).1,by have:=(hfp7 b hb).2;have:=hx718.1;omega⟩,?_,by omega,by omega,hlt2⟩
    refine hnext _ fun k=>?_
    rw [hvy]
    by_cases e2:k=Sha.sum L
    ·rw [if_pos e2,e2,hvy];simp [zwo,e]
    ·rw [if_neg e2]
   ·refine zai (by simp [e]) ?_
    refine jv rfl fun w19 hw19=>?_
    have hx719:Ext [] w7.heap w19.heap:=by rw [hw19];exact hx718
    refine zkk i rfl hil ?_
    have t119:=hx719.get t1 (by simp)
    refine je (s:=.slc) (t:=xt) rfl t119 rfl ?_
    have hbl19:=(hx07.trans hx719).get hbl (by simp)
    refine je (s:=.slc) (t:=xl) rfl hbl19 hcl ?_
    refine qgs rfl fun w20 hx20 hm20=>?_
    refine⟨je (s:=.slc) (t:=xl) rfl (hx20.get hbl19 (by simp)) hcl rfl,?_⟩
    refine⟨je (s:=.slc) (t:=xt) rfl (hx20.get t119 (by simp)) rfl rfl,?_⟩
    have hx720:=hx719.trans hx20
    refine qbu rfl hm20 hx20.1 (hxC.ext (hx07.trans hx720) (by simp)) hxl (by omega) ?_
    intro x21 w21 hm21 hl21 hx21
    have hx721:Ext [] w7.heap w21.heap:=hx720.own hx21 (by intro b hb hlt;have:=hx719.1;simp [jk] at hb;omega)
    have t121:=hx721.get t1 (by simp)
    refine⟨je (s:=.slc) (t:=xt) rfl t121 rfl rfl,?_⟩
    have t221:=t2.ext hx721 (by simp)
    have hlv:((pre++y :: t).flatMap zff).length=(pre++y :: t).length * 33:=zq zff zdq _
    obtain⟨bb,cc,hxa,hbb,hic,hput⟩:=Mine.putk t221 (i:=pre.length * 33+32) (by rw [hlv];simp;omega) (zb2 x21)
    rw [set_mid (s:=y.2.2) (L:=L)] at hput
    rw [hxa]
    refine z07 pre.length rfl (by rw [hxl7];simp) ?_
    simp only [vg,Nat.zero_add]
    refine zbd rfl hbb hic fun w22 hw22=>?_
    have hw22':w22.heap=w21.heap.setIfInBounds bb (.cells (cc.setIfInBounds (pre.length * 33+32) (zb2 x21)) za2 (0,0)):=hw22
    rw [<-hw22'] at hput
    have hx2122:Ext [bb] w21.heap w22.heap:=by rw [hw22];exact Ext.set _ (by simp)
    have hbf:bb∈fpc:=t4 bb (by simp only [jk];rw [hxa];simp)
    have hg21:=qx hm21
    have hs719:=hx719.1
    have h21_22:Mine w22.heap 0 qw 1 x21 (byteCells L):=(hm21.mono (Nat.zero_le _)).ext hx2122 (fun b hb=>by have:=hg21 b hb;have:=(hfp7 _ hbf).2;simp only [List.mem_singleton];omega)
    refine⟨pre++(y.1,(x21,L),y.2.2) :: t,fpc++jk x21,(hx07.trans hx721).own hx2122 (by intro b hb hlt;simp at hb;have:=(hfp7 _ hbf).1;omega),⟨xt,hx2122.get t121 ?_,hput,by simp [t3],fun b hb=>by simp [t4 b hb],?_,?_,?_⟩,?_,?_,?_,?_,?_⟩
    ·simp only [List.mem_singleton];rintro rfl;rw [t121] at hbb;cases hbb
    ·intro z hz
     rcases zee.1 hz with rfl | hz
     ·exact⟨h21_22,fun b hb=>by simp only [List.mem_append];exact .inr hb⟩
     ·have hV:=(t5.ext hx721 (by simp)).off (o:=.map #[] 0) hbb (by decide) hx2122
      have hz':z∈pre++y :: t:=zee.2 (.inr hz)
      exact⟨(hV z hz').1,fun b hb=>by simp [(hV z hz').2 b hb]⟩
    ·refine Apart.mid (t6.sub fun z hz=>zee.2 (.inr hz)) fun z hz b hb hb2=>?_
     have h1:=hg21 b hb
     have h2:=(hfp7 b ((t5 z (zee.2 (.inr hz))).2 b hb2)).2
     omega
    ·exact t7.sub.mid (t7.len y hmem) hlo hhi
    ·intro b hb
     rcases List.mem_append.1 hb with hb | hb
     ·exact⟨(hfp7 b hb).1,by have:=(hfp7 b hb).2;have:=hx721.1;have:=hx2122.1;omega⟩
     ·exact⟨by have:=hg21 b hb;omega,(zbs h21_22 b hb).1⟩
    ·refine hnext _ fun k=>?_
     rw [znc (y:=(y.1,(x21,L),y.2.2)) (fun z hz=>zst (hlo z hz)),hvy]
     show (if k=y.1 then some L else _)=_
     rw [hyk]
     by_cases e2:k=Sha.sum L
     ·rw [if_pos e2,if_pos e2];simp [zwo,e]
     ·rw [if_neg e2,if_neg e2,znc (y:=y) (fun z hz=>zst (hlo z hz)),if_neg (by rw [hyk];exact e2)]
    ·simp only [List.length_append,List.length_cons] at htl |-;omega
    ·rw [z1i] at htt |-;simp only;omega
    ·intro z hz
     rcases zee.1 hz with rfl | hz
     ·simp only;omega
     ·exact hlt2 z (zee.2 (.inr hz))
 ·have hie:i=Ls.length:=by omega
  subst hie
  rw [List.take_length] at hview
  refine jv rfl fun w25 hw25=>?_
  have hxW5:Ext [] W.heap w25.heap:=by rw [hw25];exact .refl _ _
  have hx25:=hxW.trans hxW5
  have hS25:=hS.ext hx25 (by simp)
  have hT25:=hT.ext hxW5 (by simp)
  obtain⟨x,h1,h2,h3,h4,h5,h6,h7⟩:=hS
  simp only [qg,vg,Nat.zero_add]
  refine je (s:=.int .i64) (t:=q) rfl (hx25.get h1 (by simp)) rfl ?_
  refine zl (qco rfl hT25 hS25 (by omega) (by omega) (by omega)) ?_
  rintro e w26 ⟨rfl,hx26⟩
  refine⟨_,rfl,?_⟩
  have hx026:=hx25.trans hx26
  refine⟨je (s:=.int .i64) (t:=q) rfl (hx026.get h1 (by simp)) rfl rfl,?_⟩
  refine zl (z4v rfl (hS25.ext hx26 (by simp)) (by omega) (by omega)) ?_
  rintro e w27 ⟨rfl,rfl⟩
  refine⟨(total rl:Int),rfl,?_⟩
  refine⟨je (s:=.int .i64) (t:=q) rfl (hx026.get h1 (by simp)) rfl rfl,?_⟩
  refine zb3 (q-total rl) rfl (by omega) (by omega) ?_
  have hext:zkg tl rl=extra rl (fresh Ls):=z0y hT.keys (zvm Ls [] (by simp)) hview
  have hT26:=hT25.ext hx26 (by simp)
  have hpl:=lt_of_get h1
  refine zx (fun hfull=>?_) (fun hfit=>?_)
  ·refine⟨3,rl,fp,rfl,hS25.ext hx26 (by simp),hx026.mono (by simp),fun b hb=>.inl hb,⟨fun h=>absurd h hnlong,fun _ _=>⟨rfl,rfl⟩,fun _ h=>absurd (by omega) h⟩,by omega,by omega,hlen⟩
  ·obtain⟨xt,t1,t2,t3,t4,t5,t6,t7⟩:=hT26
   refine je (s:=.slc) (t:=xt) rfl t1 rfl ?_
   have hp26:=hx026.get h1 (by simp)
   refine zbd rfl hp26 (by simp) fun w28 hw28=>?_
   have hx28:Ext [p] w27.heap w28.heap:=by rw [hw28];exact Ext.set _ (by simp)
   have hnp:∀ b∈fpc,b∉[p]:=fun b hb=>by have:=(hfpc b hb).1;simp only [List.mem_singleton];omega
   refine⟨0,tl,fp++fpc,rfl,⟨xt,by rw [hw28];exact qc hp26,t2.ext hx28 (fun b hb=>hnp b (t4 b hb)),by simp [h3],fun b hb=>by simp [t4 b hb],(t5.ext hx28 hnp).mono (fun b hb=>by simp [hb]),t6,t7⟩,(hx026.mono (by simp)).trans (hx28.mono (by simpa using h3)),?_,⟨fun h=>absurd h hnlong,fun _ h=>absurd h (by omega),fun _ _=>⟨rfl,hview⟩⟩,by omega,by omega,hlt2⟩
   intro b hb
   rcases List.mem_append.1 hb with hb | hb
   ·exact .inl hb
   ·exact .inr ⟨(hfpc b hb).1,by have:=(hfpc b hb).2;have:=hxW5.1;have:=hx26.1;have:=hx28.1;omega⟩
theorem zxn {r rl:SM}(h:∀ k,vw r k=vw rl k) (F:BL):extra r F=extra rl F:=by
 unfold extra
 rw [show (fun x:List UInt8×List UInt8=>(vw r x.1).isNone)=fun x=>(vw rl x.1).isNone from funext fun x=>by rw [h]]
theorem z2j {q:Int}{r r' rl rl':SM}{Ls:List (List UInt8)}{code code':Int}(h:zl0 q r Ls code r') (h':zl0 q rl Ls code' rl') (hv:∀ k,vw r k=vw rl k) (ht:total r=total rl):code=code'/\∀ k,vw r' k=vw rl' k:=by
 have hx:=zxn hv (fresh Ls)
 by_cases hl:long Ls
 ·obtain⟨rfl,rfl⟩:=h.1 hl
  obtain⟨rfl,rfl⟩:=h'.1 hl
  exact⟨rfl,hv⟩
 by_cases hf:q < total r+extra r (fresh Ls)
 ·obtain⟨rfl,rfl⟩:=h.2.1 hl hf
  obtain⟨rfl,rfl⟩:=h'.2.1 hl (by omega)
  exact⟨rfl,hv⟩
 ·obtain⟨rfl,h2⟩:=h.2.2 hl hf
  obtain⟨rfl,h3⟩:=h'.2.2 hl (by omega)
  exact⟨rfl,fun k=>by rw [h2,h3,hv]⟩
theorem qg0 {w:World}{H:Heap}{fp:List Nat}{p:Nat}{q:Int}{rl:SM}{a:Option Addr}{l lc:Nat}{L:List UInt8}(hw:w.heap=H) (hS:zdf H fp p q rl) (hfp:∀ b∈fp,b < H.size)
  (hL:Cells H a (byteCells L)) (hl:l=L.length) (hc:l<=lc) (ha:L≠[]->∀ y,a=some y->y.block∉fp)
  (hb:total rl+4096 < 1125899906842624) (hn:rl.length+1 < 274877906944) (hq:0<=q) (hq2:q<=9223372036854775807) (hlen:∀ x∈rl,x.2.1.2.length < 1099511627776) (hlens:L.length < 140737488351233) :
  zy P zis #[.pointer (some ⟨p,0,none⟩),.slice a l lc] w fun e w'=>∃ code rl' fp',e=.returned (.tuple #[arr (if code=0 then Sha.sum L else nought),.int .i64 code])/\zdf w'.heap fp' p q rl'/\Ext fp H w'.heap/\(∀ b∈fp',b∈fp\/(H.size<=b/\b < w'.heap.size))/\zl0 q rl [L] code rl' /\
   rl'.length<=rl.length+1/\total rl'<=total rl+4096/\∀ x∈rl',x.2.1.2.length < 1099511627776:=by
 refine zs4 ?_
 unfold zmd
 refine jm hw fun w1 hw1=>?_
 have hx1:Ext [] H (H.push (.cells (zc P zf) zf)):=.push _
 have hz1:(H.push (.cells (zc P zf) zf (0,0)))[H.size]?=some (.cells (zc P zf) zf (0,0)):=zk
 generalize hH1:H.push (.cells (zc P zf) zf (0,0))=H1 at *
 refine zah (s:=.slc) (some ⟨H1.size,0,none⟩,1,1) _ (by rw [qj6,hw1];rfl) ?_
 have hx2:Ext [] H1 (H1.push (.cells #[.slice a l lc] zi (0,0))):=.push _
 have hl2:(H1.push (.cells #[.slice a l lc] zi (0,0)))[H1.size]?=some (.cells #[.slice a l lc] zi (0,0)):=zk
 generalize hH2:H1.push (.cells #[.slice a l lc] zi (0,0))=H2 at *
 have hx02:=hx1.trans hx2
 have hs1:H1.size=H.size+1:=by rw [<-hH1];simp
 have hs2:H2.size=H.size+2:=by rw [<-hH2];simp [hs1]
 refine zl (qax (w:={ w1 with heap:=H2 }) (H:=H2) (Ls:=[L]) rfl (hS.ext hx02 (by simp)) (fun b hb=>by have:=hfp b hb;omega) ⟨by simp,fun i hi=>?_⟩ (by simpa using hb) (by simpa using hn) hq hq2 hlen (by intro M hM;simp only [List.mem_singleton] at hM;subst hM;exact hlens)) ?_
 ·obtain rfl:i=0:=by simp at hi;omega
  exact⟨H1.size,0,_,_,_,(a,l,lc),rfl,hl2,rfl,hL.ext hx02 (by simp),hl,hc⟩
 rintro e w3 ⟨code,r',fp',rfl,hS3,hx3,hsub,hres,hrl,htot,hsm⟩
 refine⟨code,rfl,?_⟩
 have hx03:Ext fp H w3.heap:=(hx02.mono (by simp)).trans hx3
 have hz3:=(hx3.get (hx2.get hz1 (by simp)) (fun h=>absurd (hfp _ h) (by omega)))
 generalize hH3:w3.heap=H3 at *
 have hn3:H.size∉fp':=fun h=>by rcases hsub _ h with h | h;exact absurd (hfp _ h) (by omega);omega
 have hsub':∀ {W:World},H3.size<=W.heap.size->∀ b∈fp',b∈fp\/(H.size<=b/\b < W.heap.size):=fun h3 b hb=>by rcases hsub b hb with h | h;exact .inl h;exact .inr (by omega)
 refine zan (fun hne=>?_) (fun heq=>?_)
 ·refine qm (s:=.any) (arr nought) (b27 _) ?_
  refine zay (zjj.trans (by rw [xq,zbf])) (by rw [xq,zbf];omega) jo hH3 hz3 (by rw [zsj,xq,zbf];simp) fun w5 hw5=>?_
  rw [show setCells (zc P zf) 0 (Value.cells (arr nought)).toList=(byteCells nought).toArray from by rw [zak (by rw [zsj,Array.length_toList,xq,zbf];simp)];simp [Value.cells,arr]] at hw5
  refine qp hw5 (qc hz3) (by simp [byteCells,nought]) ?_
  have hx5:Ext [H.size] H3 w5.heap:=by rw [hw5];exact Ext.set _ (by simp)
  refine⟨code,r',fp',by rw [if_neg hne];rfl,hS3.ext hx5 (fun b hb=>?_),hx03.own hx5 (by intro b hb hlt;simp at hb;omega),hsub' hx5.1,hres,by simpa using hrl,by simpa using htot,hsm⟩
  simp only [List.mem_singleton]
  rintro rfl
  exact hn3 hb
 ·subst heq
  refine zl (zpr hH3 (hL.ext hx03 fun y hy hv=>ha (by rintro rfl;exact hv rfl) y hy) hl hlens) ?_
  rintro e w4 ⟨rfl,hx4⟩
  refine⟨arr (Sha.sum L),rfl,?_⟩
  have hz4:=hx4.get hz3 (by simp)
  refine zay (zjj.trans (by rw [xq,zae])) (by rw [xq,zae];omega) jo rfl hz4 (by rw [zsj,xq,zae];simp) fun w5 hw5=>?_
  rw [show setCells (zc P zf) 0 (Value.cells (arr (Sha.sum L))).toList=(byteCells (Sha.sum L)).toArray from by rw [zak (by rw [zsj,Array.length_toList,xq,zae];simp)];simp [Value.cells,arr]] at hw5
  refine qp hw5 (qc hz4) (by simp [byteCells,zae]) ?_
  have hx5:Ext [H.size] H3 w5.heap:=by rw [hw5];exact (hx4.mono (by simp)).trans (Ext.set _ (by simp))
  refine⟨0,r',fp',by rw [if_pos rfl];rfl,hS3.ext hx5 (fun b hb=>?_),hx03.own hx5 (by intro b hb hlt;simp at hb;omega),hsub' hx5.1,hres,by simpa using hrl,by simpa using htot,hsm⟩
  simp only [List.mem_singleton]
  rintro rfl
  exact hn3 hb
theorem Small.view {r s:SM}(h:Small r) (hv:∀ k,vw r k=vw s k):Small s:=fun k L hk=>h k L (by rw [hv];exact hk)
end Go.Proofs.YtbmegmbnlajbbaaGreatDoor.Bl
namespace Go.Proofs.YtbmegmbnlajbbaaGreatDoor
open Go Go.Fw Go.Proofs
structure Itm where
 name:List UInt8
 kind:Int
 sum:List UInt8
deriving DecidableEq,Inhabited
structure Nod where
 kind:Int
 data:List UInt8
 size:Int
 parts:List (List UInt8)
 items:List Itm
deriving DecidableEq,Inhabited
def zb0 (i:Itm):List Value:=.string (strOf i.name) :: .int .i64 i.kind :: Bl.zat i.sum
theorem zac (i:Itm):(zb0 i).length=34:=by simp [zb0,Bl.zab]
theorem ztm {i:Itm}:zcl (zb0 i):=by
 intro v hv
 simp only [zb0,List.mem_cons] at hv
 rcases hv with rfl | rfl | hv
 ·rfl
 ·rfl
 ·exact Bl.zi4 v hv
def zcx (n:Nod) (xp xi:Option Addr×Nat×Nat):List Value:=[.int .i64 n.kind,.string (strOf n.data),.int .i64 n.size,zb2 xp,zb2 xi]
structure NodW (H:Heap) (n:Nod) (xp xi:Option Addr×Nat×Nat):Prop where
 parts:Cells H xp.1 (n.parts.flatMap Bl.zat)
 plen:xp.2.1=n.parts.length
 items:Cells H xi.1 (n.items.flatMap zb0)
 ilen:xi.2.1=n.items.length
 p32:∀ p∈n.parts,p.length=32
 i32:∀ i∈n.items,i.sum.length=32
theorem NodW.ext {H H':Heap}{n:Nod}{xp xi:Option Addr×Nat×Nat}(h:NodW H n xp xi) (hx:Ext [] H H'):NodW H' n xp xi:=
 ⟨h.parts.ext hx (by simp),h.plen,h.items.ext hx (by simp),h.ilen,h.p32,h.i32⟩
def qf3 (i:Itm):List UInt8:=zo4 i.name++zf5 i.kind++i.sum
def zin (l:List (List UInt8)):List UInt8:=l.flatten
def zo5 (l:List Itm):List UInt8:=(l.map qf3).flatten
def zgk (n:Nod):List UInt8:=zf5 n.kind++(if n.kind=1 then zo4 n.data else if n.kind=2 then zf5 n.size++zin n.parts else zf5 n.items.length++zo5 n.items)
structure SmallN (n:Nod):Prop where
 data:n.data.length<=65536
 parts:n.parts.length<=65536
 items:n.items.length<=65536
 names:∀ i∈n.items,i.name.length<=65536
theorem znm:∀ {l:List (List UInt8)},(∀ p∈l,p.length=32)->(zin l).length=32 * l.length
 | [],_=>by simp [zin]
 | p :: l,h=>by
  have h1:=h p (by simp)
  have h2:=znm (l:=l) fun q hq=>h q (by simp [hq])
  simp only [zin,List.flatten_cons,List.length_append,List.length_cons] at *
  omega
theorem qbm {i:Itm}(h:i.name.length<=65536) (h32:i.sum.length=32):(qf3 i).length<=65600:=by
 have h1:=zd7 (n:=i.name.length) (by omega)
 have h2:=zd5 (k:=i.kind)
 simp only [qf3,zo4,List.length_append]
 omega
theorem zpa:∀ {l:List Itm},(∀ i∈l,i.name.length<=65536)->(∀ i∈l,i.sum.length=32)->(zo5 l).length<=65600 * l.length
 | [],_,_=>by simp [zo5]
 | i :: l,h,h'=>by
  have h1:=qbm (h i (by simp)) (h' i (by simp))
  have h2:=zpa (l:=l) (fun q hq=>h q (by simp [hq])) (fun q hq=>h' q (by simp [hq]))
  simp only [zo5,List.map_cons,List.flatten_cons,List.length_append,List.length_cons] at *
  omega
theorem zw2 {l:List Itm}{i:Itm}:zo5 (l++[i])=zo5 l++qf3 i:=by simp [zo5]
theorem zvi {l:List (List UInt8)}{p:List UInt8}:zin (l++[p])=zin l++p:=by simp [zin]
theorem qgr {w:World}{H1:Heap}{F:List Nat}{b:Nat}{L k:List UInt8}(hO:zsv H1 F b L w) (hk:k.length=32) (hL:L.length<=274877906944) :
  zy P zfi #[.pointer (some ⟨b,0,none⟩),arr k] w fun e w'=>e=.returned (.tuple #[])/\zsv H1 F b (L++k) w':=by
 refine zps ?_
 unfold zke
 refine jm rfl fun w0 hw0=>?_
 have hx0:Ext [] w.heap w0.heap:=by rw [hw0];exact .push _
 have hd0:w0.heap[w.heap.size]?=some (.cells (byteCells k).toArray zf (0,0)):=by rw [hw0];exact zk
 refine zai rfl ?_
 refine jv rfl fun w1 hw1=>?_
 have hx1:Ext [] w.heap w1.heap:=by rw [hw1];exact hx0
 have hd1:w1.heap[w.heap.size]?=some (.cells (byteCells k).toArray zf (0,0)):=by rw [hw1];exact hd0
 have hO1:=hO.ext hx1
 obtain⟨x,h1,h2,h3,h4,h5,h6⟩:=hO1
 have hxl:x.2.1=L.length:=by have:=h3.len;simp at this;omega
 simp only [qg]
 refine je (s:=.slc) (t:=x) rfl h2 rfl ?_
 refine qm (s:=.slc) (some (if 32=0 then (⟨w.heap.size,0,none⟩:Addr) else (⟨w.heap.size,0,none⟩:Addr).add (0 * 1)),32-0,32-0) (zdp Bl.u27 sz8 .no .no (by omega) (by omega)) ?_
 have hadd:(some (if 32=0 then (⟨w.heap.size,0,none⟩:Addr) else (⟨w.heap.size,0,none⟩:Addr).add (0 * 1)))=some (⟨w.heap.size,0,none⟩:Addr):=by simp [Addr.add]
 have hcd:Cells w1.heap (some (if 32=0 then (⟨w.heap.size,0,none⟩:Addr) else (⟨w.heap.size,0,none⟩:Addr).add (0 * 1))) (byteCells k):=by
  rw [hadd]
  exact .inr ⟨_,0,_,_,_,rfl,hd1,by simp,by simp [List.take_of_length_le]⟩
 refine zcj E8 (by omega) uS8 (zbg uS8) rfl h3 (Nat.zero_le _) (Src.slc rfl hcd (by simp [hk])) jo (by simp only;omega) ?_
 intro x' w4 hm4 hl4 hx4 hs4
 have hb4:w4.heap[b]?=some (.cells #[zb2 x] zgd (0,0)):=hx4.get h2 h4
 refine zbd rfl hb4 (by simp) fun w5 hw5=>?_
 have hx5:Ext [b] w4.heap w5.heap:=by rw [hw5];exact Ext.set _ (by simp)
 have hs1:=h1.1
 have hbl:=lt_of_get h2
 have hbx:b∉jk x':=fun h=>by
  rcases hs4 b h with h | h
  ·exact h4 h
  ·omega
 refine⟨trivial,x',?_,by rw [hw5];exact qc hb4,?_,hbx,fun c hc=>?_,h6⟩
 ·have h14:Ext (b :: F) H1 w4.heap:=h1.own hx4 (fun c hc hlt=>by
   rcases h5 c hc with h | h
   ·exact List.mem_cons_of_mem _ h
   ·omega)
  exact h14.trans (hx5.mono (by simp))
 ·rw [<-byteCells_append]
  exact hm4.ext hx5 (fun c hc=>by simp only [List.mem_singleton];rintro rfl;exact hbx hc)
 ·rcases hs4 c hc with h | h
  ·exact h5 c h
  ·exact .inr (by omega)
theorem zcT:(zc P zu).size=34:=by kernel_rfl
theorem szT:P.cellsOf zu=34:=by kernel_rfl
theorem zcN:(zc P zh).size=5:=by kernel_rfl
theorem szN:P.cellsOf zh=5:=by kernel_rfl
theorem szD:P.cellsOf zf=32:=by kernel_rfl
theorem zcD:(zc P zf).size=32:=by kernel_rfl
theorem qa8 {w:World}{H:Heap}(n:Nod) (xp xi:Option Addr×Nat×Nat) (hw:w.heap=H){K:Nat->World->Prop}(hK:∀ w',w'.heap=H.push (.cells (zcx n xp xi).toArray zh (0,0))->K H.size w') :
  zbm (zc P zh) zh w fun b w1=>zb8 P (storeVar zh (⟨b,0,none⟩:Addr) (.agg (zcx n xp xi).toArray)) w1 fun w2=>K b w2:=
 zv6 (v:=.agg (zcx n xp xi).toArray) szN zcN (by simp [Value.cells,zcx]) (by
  intro v hv
  simp only [Value.cells,zcx,List.mem_cons,List.not_mem_nil,or_false] at hv
  rcases hv with rfl | rfl | rfl | rfl | rfl <;> rfl) hw hK
theorem qdt {w:World}{H:Heap}(i:Itm) (hw:w.heap=H){K:Nat->World->Prop}(hK:∀ w',w'.heap=H.push (.cells (zb0 i).toArray zu (0,0))->K H.size w') :
  zbm (zc P zu) zu w fun b w1=>zb8 P (storeVar zu (⟨b,0,none⟩:Addr) (.agg (zb0 i).toArray)) w1 fun w2=>K b w2:=
 zv6 (v:=.agg (zb0 i).toArray) (by rw [szT];simp [Value.cells,zac]) (by rw [zcT];simp [Value.cells,zac]) (by simp [Value.cells,zac]) (by simpa [Value.cells] using ztm) hw hK
theorem qg8 {w:World}{H:Heap}{k:List UInt8}(hk:k.length=32) (hw:w.heap=H){K:Nat->World->Prop}(hK:∀ w',w'.heap=H.push (.cells (byteCells k).toArray zf (0,0))->K H.size w') :
  zbm (zc P zf) zf w fun b w1=>zb8 P (storeVar zf (⟨b,0,none⟩:Addr) (arr k)) w1 fun w2=>K b w2:=
 zv6 (v:=arr k) (by rw [szD,Bl.xq,hk]) (by rw [zcD,Bl.xq,hk]) (by rw [Bl.xq];omega) (by simpa [Value.cells,arr] using jo) hw hK
theorem zft {vs:List Value}:(Value.cells (.agg vs.toArray):Array Value)=vs.toArray:=rfl
def ze6:List UInt8->List Itm->Bool
 | _,[]=>true
 | last,i :: r=>decide (Lib.compareBytes last i.name < 0)&&zc0 i.name&&(decide (i.kind=2) || decide (i.kind=3))&&ze6 i.name r
def zhy (l:List Itm):Bool:=ze6 [] l&&decide (l.length<=64)
def zkf (size:Int):Int:=(size+63) / 64
def zau (n:Nod):Bool:=
 if n.kind=1 then decide (0 < n.data.length/\n.data.length<=64/\n.size=0/\n.parts.length=0/\n.items.length=0)
 else if n.kind=2 then decide (n.data=[]/\0<=n.size/\n.size<=1024/\(n.parts.length:Int)=zkf n.size/\n.items.length=0)
 else if n.kind=3 then decide (n.data=[]/\n.size=0/\n.parts.length=0)&&zhy n.items else false
theorem zum:∀ {l:List Itm}{last:List UInt8},ze6 last l=true->∀ i∈l,zc0 i.name=true
 | [],_,_=>by simp
 | i :: r,last,h=>by
  simp only [ze6,Bool.and_eq_true] at h
  intro j hj
  rcases List.mem_cons.1 hj with rfl | hj
  ·exact h.1.1.2
  ·exact zum h.2 j hj
theorem zsp {n:Nod}(h:zau n=true):SmallN n:=by
 unfold zau at h
 split at h
 ·simp only [decide_eq_true_eq] at h
  have:n.items=[]:=List.eq_nil_of_length_eq_zero h.2.2.2.2
  exact⟨by omega,by omega,by omega,by rw [this];simp⟩
 ·split at h
  ·have h:=of_decide_eq_true h
   unfold zkf at h
   have:n.items=[]:=List.eq_nil_of_length_eq_zero h.2.2.2.2
   exact⟨by rw [h.1];simp,by omega,by omega,by rw [this];simp⟩
  ·split at h
   ·simp only [Bool.and_eq_true,decide_eq_true_eq,zhy] at h
    exact⟨by rw [h.1.1];simp,by omega,by omega,fun i hi=>by have:=(zd4.1 (zum h.2.1 i hi)).1.2.1;omega⟩
   ·cases h
theorem z0p {L:List UInt8}:zsm [L]=0 ↔ zc0 L=true:=by
 rw [qch]
 simp [okP]
set_option maxHeartbeats 4000000 in
theorem qbh {w:World}{H:Heap}{a:Option Addr}{l c:Nat}{T:List Itm}(hw:w.heap=H) (hL:Cells H a (T.flatMap zb0)) (hl:l=T.length) (hn:∀ i∈T,i.name.length<=9223372036854775807) (hm:T.length<=9223372036854775807) :
  zy P zk0 #[.slice a l c] w fun e w'=>e=.returned (.bool (zhy T))/\Ext [] H w'.heap:=by
 subst hl
 refine zwp ?_
 unfold zqj
 refine jg (fun (s:ByteArray×Int) W=>∃ (i:Nat) (last:List UInt8),s=(strOf last,(i:Int))/\i<=T.length/\ze6 [] T=ze6 last (T.drop i)/\Ext [] H W.heap) (fun s _=>(T.length-s.2).toNat)
  ⟨0,[],rfl,Nat.zero_le _,by simp,by rw [hw];exact .refl _ _⟩ ?_
 rintro _ W ⟨i,last,rfl,hi,hr,hxW⟩
 refine zx (fun hlt=>?_) (fun hge=>?_)
 ·have hil:i < T.length:=by omega
  have hget:=List.getElem?_eq_getElem hil
  have hmem:T[i]∈T:=List.getElem_mem hil
  have hdrop:T.drop i=T[i] :: T.drop (i+1):=(List.drop_eq_getElem_cons hil)
  rw [hdrop] at hr
  generalize T[i]=v at hget hmem hr
  have hvn:=hn v hmem
  have hfalse:∀ {W':World},Ext [] H W'.heap->ze6 last (v :: T.drop (i+1))=false->(Ending.returned (.bool false)=.returned (.bool (zhy T))/\Ext [] H W'.heap):=by
   intro W' hx h
   refine⟨?_,hx⟩
   rw [zhy,hr,h];rfl
  refine zar ?_
  refine zci (i:=i) zac (by omega) rfl (hL.ext hxW (by simp)) rfl hget rfl ?_
  refine qdt v rfl fun w3 hw3=>?_
  have hx3:Ext [] W.heap w3.heap:=by rw [hw3];exact .push _
  have hb3:w3.heap[W.heap.size]?=some (.cells (zb0 v).toArray zu (0,0)):=by rw [hw3];exact zk
  have hx03:=hxW.trans hx3
  refine joinP_of (fun _ W'=>Ext [] w3.heap W'.heap/\Lib.compareBytes last v.name < 0/\zc0 v.name=true) ?_ ?_
  ·refine je (s:=.str) (t:=strOf v.name) rfl hb3 rfl ?_
   refine zdv (p:=¬Lib.compareBytes last v.name < 0) (by
    rw [bytesLess_eq,zeb,zeb,zdg]
    simp only [Bool.or_eq_true,decide_eq_true_eq,beq_iff_eq]
    constructor
    ·rintro (h | h) h2
     ·exact absurd h (by have:=zdg.2 h;have:=zdg.2 h2;have:=zji (a:=last) (b:=v.name);omega)
     ·rw [h] at h2;have:=zdg.2 h2;rw [zez.2 rfl] at this;omega
    ·intro h
     have h1:¬Lib.compareBytes last v.name < 0:=fun h2=>h (zdg.1 h2)
     have h2:=zji (a:=last) (b:=v.name)
     by_cases h3:Lib.compareBytes v.name last=0
     ·right;exact zez.1 h3
     ·left;exact zdg.1 (by omega)) (fun h=>hfalse hx03 (by simp [ze6,h])) (fun h=>?_)
   have hlt:Lib.compareBytes last v.name < 0:=by omega
   refine je (s:=.str) (t:=strOf v.name) rfl hb3 rfl ?_
   refine zah (s:=.slc) (some ⟨w3.heap.size,0,none⟩,1,1) _ (zen qi1 z2x (v:=.string (strOf v.name)) rfl (by omega) (by omega)) ?_
   have hx4:Ext [] w3.heap (w3.heap.push (.cells (Value.string (strOf v.name)).cells jw)):=.push _
   have hc4:Cells (w3.heap.push (.cells (Value.string (strOf v.name)).cells jw)) (some ⟨w3.heap.size,0,none⟩) (strRow [v.name]):=.inr ⟨_,0,_,_,_,rfl,zk,by simp [strRow,Value.cells],by simp [strRow,Value.cells]⟩
   refine zl (qes (p:=[v.name]) rfl hc4 rfl (by intro L hL;simp at hL;subst hL;exact hvn) (by simp)) ?_
   rintro e w5 ⟨rfl,hw5⟩
   subst hw5
   refine⟨zsm [v.name],rfl,?_⟩
   refine zan (fun h=>hfalse (hx03.trans hx4) (by
    have:zc0 v.name=false:=by rw [<-Bool.not_eq_true];exact fun h2=>h (z0p.2 h2)
    simp [ze6,this])) (fun h=>⟨hx4,hlt,z0p.1 h⟩)
  rintro _ W5 ⟨hx35,hlt,hok⟩
  have hb5:=hx35.get hb3 (by simp)
  have hx05:=hx03.trans hx35
  refine je (s:=.int .i64) (t:=v.kind) rfl hb5 rfl ?_
  refine joinP_of (fun s' W'=>s'=strOf v.name/\Ext [] H W'.heap/\(v.kind=2\/v.kind=3)) ?_ ?_
  ·refine joinP_of (fun _ W'=>W'=W5/\(v.kind=2\/v.kind=3)) ?_ ?_
   ·refine zar ?_
    refine zbo (fun h=>⟨rfl,.inl h⟩) (fun h2=>?_)
    refine zbo (fun h=>⟨rfl,.inr h⟩) (fun h3=>hfalse hx05 (by simp [ze6,h2,h3]))
   rintro _ W' ⟨rfl,hk⟩
   exact je (s:=.str) (t:=strOf v.name) rfl hb5 rfl ⟨rfl,hx05,hk⟩
  rintro _ W' ⟨rfl,hx',hk⟩
  refine jd ((i+1:Nat):Int) (by omega) (by omega) (by omega) ?_
  refine⟨⟨i+1,v.name,rfl,by omega,?_,hx'⟩,by omega⟩
  rw [hr]
  rcases hk with hk | hk <;> simp [ze6,hlt,hok,hk]
 ·obtain rfl:i=T.length:=by omega
  refine⟨?_,hxW⟩
  rw [List.drop_length] at hr
  congr 2
  rw [zhy,hr,Bool.eq_iff_iff]
  simp [ze6]
  omega
set_option maxHeartbeats 4000000 in
theorem z9u {w:World}{H:Heap}{n:Nod}{xp xi:Option Addr×Nat×Nat}(hw:w.heap=H) (hN:NodW H n xp xi) (hs:n.size<=4611686018427387904) (hnn:∀ i∈n.items,i.name.length<=9223372036854775807) (hm:n.items.length<=9223372036854775807) :
  zy P zjf #[.agg (zcx n xp xi).toArray] w fun e w'=>e=.returned (.bool (zau n))/\Ext [] H w'.heap:=by
 obtain⟨g1,g2,g3,g4,g5,g6⟩:=hN
 refine zyv ?_
 unfold zsq
 refine jm hw fun w1 hw1=>?_
 have hx1:Ext [] H w1.heap:=by rw [hw1];exact .push _
 have hb1:w1.heap[H.size]?=some (.cells (zcx n xp xi).toArray zh (0,0)):=by rw [hw1];exact zk
 refine je (s:=.int .i64) (t:=n.kind) rfl hb1 rfl ?_
 have hle:∀ {k:Nat},(((k:Int)==0)=true) ↔ k=0:=by intro k;simp
 refine zbo (fun h1=>?_) (fun h1=>?_)
 ·have hf:∀ {p:Prop},(¬(0 < n.data.length/\n.data.length<=64/\n.size=0/\n.parts.length=0/\n.items.length=0))->(Ending.returned (.bool false)=.returned (.bool (zau n))/\Ext [] H w1.heap):=by
   intro p h
   exact⟨by rw [zau,if_pos h1,decide_eq_false h],hx1⟩
  refine je (s:=.str) (t:=strOf n.data) rfl hb1 rfl ?_
  refine zx (fun h2=>?_) (fun h2=>hf (p:=True) fun h=>h2 (by simp;omega))
  refine je (s:=.str) (t:=strOf n.data) rfl hb1 rfl ?_
  refine zx (fun h3=>?_) (fun h3=>hf (p:=True) fun h=>h3 (by simp;omega))
  refine je (s:=.int .i64) (t:=n.size) rfl hb1 rfl ?_
  refine zbo (fun h4=>?_) (fun h4=>hf (p:=True) fun h=>h4 h.2.2.1)
  refine je (s:=.slc) (t:=xp) rfl hb1 rfl ?_
  refine zbo (fun h5=>?_) (fun h5=>hf (p:=True) fun h=>h5 (by omega))
  refine je (s:=.slc) (t:=xi) rfl hb1 rfl ?_
  refine⟨?_,hx1⟩
  rw [zau,if_pos h1]
  congr 2
  rw [Bool.eq_iff_iff,hle,decide_eq_true_eq,g4]
  simp at h2 h3
  exact⟨fun h=>⟨by omega,by omega,h4,by omega,h⟩,fun h=>h.2.2.2.2⟩
 refine zbo (fun h2=>?_) (fun h2=>?_)
 ·have hf:∀ {W:World},Ext [] H W.heap->(¬(n.data=[]/\0<=n.size/\n.size<=1024/\(n.parts.length:Int)=zkf n.size/\n.items.length=0))->(Ending.returned (.bool false)=.returned (.bool (zau n))/\Ext [] H W.heap):=by
   intro W hx h
   exact⟨by rw [zau,if_neg h1,if_pos h2,decide_eq_false h],hx⟩
  refine jv rfl fun w2 hw2=>?_
  have hx2:Ext [] H w2.heap:=by rw [hw2];exact hx1
  have hb2:w2.heap[H.size]?=some (.cells (zcx n xp xi).toArray zh (0,0)):=by rw [hw2];exact hb1
  refine je (s:=.str) (t:=strOf n.data) rfl hb2 rfl ?_
  refine zdv (p:=n.data=[]) (by rw [zjg]) (fun h3=>?_) (fun h3=>⟨rfl,hf hx2 fun h=>h3 h.1⟩)
  refine je (s:=.int .i64) (t:=n.size) rfl hb2 rfl ?_
  refine zx (fun h4=>?_) (fun h4=>⟨rfl,hf hx2 fun h=>h4 h.2.1⟩)
  refine je (s:=.int .i64) (t:=n.size) rfl hb2 rfl ?_
  refine zx (fun h5=>?_) (fun h5=>⟨rfl,hf hx2 fun h=>h5 h.2.2.1⟩)
  refine je (s:=.slc) (t:=xp) rfl hb2 rfl ?_
  refine je (s:=.int .i64) (t:=n.size) rfl hb2 rfl ?_
  have hparts:zy P zhl #[.int .i64 n.size] w2 fun e w'=>e=.returned (.int .i64 (zkf n.size))/\w'=w2:=by
   refine zp1 ?_
   unfold zmx
   refine jd (n.size+64) rfl (by omega) (by omega) ?_
   refine zb3 (n.size+63) (by omega) (by omega) (by omega) ?_
   refine z3t (n.size+63).toNat 64 (by omega) rfl (by omega) (by omega) ?_
   refine⟨?_,rfl⟩
   congr 2
   unfold zkf
   omega
  refine zl hparts ?_
  rintro e w3 ⟨rfl,rfl⟩
  refine⟨zkf n.size,rfl,?_⟩
  refine⟨je (s:=.slc) (t:=xp) rfl hb2 rfl rfl,?_⟩
  refine zbo (fun h6=>?_) (fun h6=>hf hx2 fun h=>h6 (by rw [g2];exact h.2.2.2.1))
  refine je (s:=.slc) (t:=xi) rfl hb2 rfl ?_
  refine⟨?_,hx2⟩
  rw [zau,if_neg h1,if_pos h2]
  congr 2
  rw [Bool.eq_iff_iff,hle,decide_eq_true_eq,g4]
  rw [g2] at h6
  exact⟨fun h=>⟨h3,h4,h5,h6,h⟩,fun h=>h.2.2.2.2⟩
 refine zbo (fun h3=>?_) (fun h3=>⟨by rw [zau,if_neg h1,if_neg h2,if_neg h3],hx1⟩)
 have hf:¬(n.data=[]/\n.size=0/\n.parts.length=0)->(Ending.returned (.bool false)=.returned (.bool (zau n))/\Ext [] H w1.heap):=by
  intro h
  exact⟨by rw [zau,if_neg h1,if_neg h2,if_pos h3,decide_eq_false h];rfl,hx1⟩
 refine je (s:=.str) (t:=strOf n.data) rfl hb1 rfl ?_
 refine zdv (p:=n.data=[]) (by rw [zjg]) (fun h4=>?_) (fun h4=>hf fun h=>h4 h.1)
 refine je (s:=.int .i64) (t:=n.size) rfl hb1 rfl ?_
 refine zbo (fun h5=>?_) (fun h5=>hf fun h=>h5 h.2.1)
 refine je (s:=.slc) (t:=xp) rfl hb1 rfl ?_
 refine zbo (fun h6=>?_) (fun h6=>hf fun h=>h6 (by omega))
 refine je (s:=.slc) (t:=xi) rfl hb1 rfl ?_
 refine zl (qbh rfl (g3.ext hx1 (by simp)) g4 hnn hm) ?_
 rintro e w4 ⟨rfl,hx4⟩
 refine⟨zhy n.items,rfl,?_⟩
 refine⟨?_,hx1.trans hx4⟩
 rw [zau,if_neg h1,if_neg h2,if_pos h3,decide_eq_true ⟨h4,h5,by omega⟩]
 rfl
theorem z5i {n:Nod}:(zf5 n.kind).length<=10:=zd5
set_option maxHeartbeats 8000000 in
theorem z9r {w:World}{H:Heap}{n:Nod}{xp xi:Option Addr×Nat×Nat}(hw:w.heap=H) (hN:NodW H n xp xi) (hR:zau n=true) :
  zy P zk6 #[.agg (zcx n xp xi).toArray] w fun e w'=>∃ y,e=.returned (.tuple #[zb2 y,.int .i64 0])/\Mine w'.heap H.size qw 1 y (byteCells (zgk n))/\Ext [] H w'.heap:=by
 have hS:=zsp hR
 have hsz:n.size<=4611686018427387904:=by
  unfold zau at hR
  split at hR
  ·have:=of_decide_eq_true hR;omega
  ·split at hR
   ·have:=of_decide_eq_true hR;omega
   ·split at hR
    ·simp only [Bool.and_eq_true,decide_eq_true_eq] at hR;omega
    ·cases hR
 refine zwq ?_
 unfold zp6
 refine jm hw fun w1 hw1=>?_
 have hx1:Ext [] H w1.heap:=by rw [hw1];exact .push _
 have hb1:w1.heap[H.size]?=some (.cells (zcx n xp xi).toArray zh (0,0)):=by rw [hw1];exact zk
 refine qp rfl hb1 rfl ?_
 refine zl (z9u rfl (hN.ext hx1) hsz (fun i hi=>by have:=hS.names i hi;omega) (by have:=hS.items;omega)) ?_
 rintro e w2 ⟨rfl,hx12⟩
 refine⟨zau n,rfl,?_⟩
 rw [hR]
 refine jr rfl ?_
 have hx2:=hx1.trans hx12
 have hb2:=hx12.get hb1 (by simp)
 rw [zcO]
 refine jm rfl fun w3 hw3=>?_
 have hx23:Ext [] w2.heap w3.heap:=by rw [hw3];exact .push _
 have ho3:w3.heap[w2.heap.size]?=some (.cells #[zb2 (none,0,0)] zgd (0,0)):=by rw [hw3];exact zk
 have hO3:zsv w3.heap [] w2.heap.size [] w3:=⟨(none,0,0),.refl _ _,ho3,.inl ⟨rfl,rfl⟩,by simp [jk],by simp [jk],lt_of_get ho3⟩
 have hb3:=hx23.get hb2 (by simp)
 have hN3:=hN.ext (hx2.trans hx23)
 have hH2:H.size < w2.heap.size:=lt_of_get hb2
 have keep:∀ {W:World}{K:List UInt8},zsv w3.heap [] w2.heap.size K W->Ext [w2.heap.size] w3.heap W.heap:=fun ⟨x,h1,_⟩=>h1
 have hne:H.size∉[w2.heap.size]:=by simp;omega
 have u1:=@z5i n
 refine je (s:=.int .i64) (t:=n.kind) rfl hb3 rfl ?_
 refine cvU fun k1 e1 l1=>?_
 refine zl (qa1 k1 hO3 l1 (by simp)) ?_
 rintro e w4 ⟨rfl,hO4⟩
 refine⟨(),rfl,?_⟩
 rw [show zph k1=zf5 n.kind by rw [e1];rfl,List.nil_append] at hO4
 have hx4:=keep hO4
 have hb4:=hx4.get hb3 hne
 refine joinP_of (fun _ W=>zsv w3.heap [] w2.heap.size (zgk n) W/\(zgk n).length<=274877906944) ?_ ?_
 rotate_left
 ·rintro _ W ⟨hOW,hlen⟩
  refine zl (z3f hOW (by omega)) ?_
  rintro e w5 ⟨y,rfl,hm,hx5⟩
  refine⟨y,rfl,?_⟩
  have hx3W:Ext [] H W.heap:=(hx2.trans hx23).own (keep hOW) (by intro c hc hlt;simp at hc;omega)
  have:=hx3W.1
  exact⟨y,rfl,hm.mono this,hx3W.trans hx5⟩
 refine je (s:=.int .i64) (t:=n.kind) rfl hb4 rfl ?_
 refine zar ?_
 refine zbo (fun h1=>?_) (fun h1=>?_)
 ·refine je (s:=.str) (t:=strOf n.data) rfl hb4 rfl ?_
  have hd:=hS.data
  refine zl (qdq n.data hO4 (by omega)) ?_
  rintro e w5 ⟨rfl,hO5⟩
  refine⟨(),rfl,?_⟩
  have nl:=zd7 (n:=n.data.length) (by omega)
  have:zgk n=zf5 n.kind++zo4 n.data:=by unfold zgk;rw [if_pos h1]
  rw [this]
  exact⟨hO5,by simp only [List.length_append,zo4];omega⟩
 refine zbo (fun h2=>?_) (fun h2=>?_)
 ·refine je (s:=.int .i64) (t:=n.size) rfl hb4 rfl ?_
  refine cvU fun k2 e2 l2=>?_
  refine zl (qa1 k2 hO4 l2 (by omega)) ?_
  rintro e w6 ⟨rfl,hO6⟩
  refine⟨(),rfl,?_⟩
  rw [show zph k2=zf5 n.size by rw [e2];rfl] at hO6
  have u2:=@zd5 n.size
  have hb6:=(keep hO6).get hb3 hne
  refine je (s:=.slc) (t:=xp) rfl hb6 rfl ?_
  have hpl:=hS.parts
  have hp32:=hN.p32
  have henc:zgk n=zf5 n.kind++zf5 n.size++zin n.parts:=by unfold zgk;rw [if_neg h1,if_pos h2,List.append_assoc]
  refine jg (fun (s:Int) W=>∃ i:Nat,s=(i:Int)/\i<=n.parts.length/\zsv w3.heap [] w2.heap.size (zf5 n.kind++zf5 n.size++zin (n.parts.take i)) W) (fun s _=>(n.parts.length-s).toNat) ⟨0,rfl,Nat.zero_le _,by simpa [zin] using hO6⟩ ?_
  rintro _ W ⟨i,rfl,hi,hOW⟩
  have hpre:(zin (n.parts.take i)).length<=32 * 65536:=by
   rw [znm fun p hp=>hp32 p (List.mem_of_mem_take hp)]
   simp;omega
  refine zx (fun hlt=>?_) (fun hge=>?_)
  ·have hil:i < n.parts.length:=by have:=hN.plen;omega
   have hget:=List.getElem?_eq_getElem hil
   have hmem:n.parts[i]∈n.parts:=List.getElem_mem hil
   have htake:n.parts.take (i+1)=n.parts.take i++[n.parts[i]]:=by rw [List.take_add_one,hget];rfl
   generalize n.parts[i]=v at hget hmem htake
   have hv:=hp32 v hmem
   have hcW:=hN3.parts.ext (keep hOW) (fun a ha hne2 h=>by
    obtain⟨x,hx,hlt⟩:=hN.parts.lt hne2
    rw [hx] at ha;cases ha
    simp at h;omega)
   refine zci (i:=i) Bl.zab (by omega) rfl hcW hN.plen hget rfl ?_
   rw [Bl.qfi hv]
   refine qg8 hv rfl fun w9 hw9=>?_
   have hx9:Ext [] W.heap w9.heap:=by rw [hw9];exact .push _
   have hb9:w9.heap[W.heap.size]?=some (.cells (byteCells v).toArray zf (0,0)):=by rw [hw9];exact zk
   refine qp rfl hb9 (by simp [hv]) ?_
   refine zl (qgr (k:=v) (hOW.ext hx9) hv (by simp only [List.length_append];omega)) ?_
   rintro e w10 ⟨rfl,hO10⟩
   refine⟨(),rfl,?_⟩
   refine jd ((i+1:Nat):Int) (by omega) (by omega) (by omega) ?_
   refine⟨⟨i+1,rfl,by omega,?_⟩,by omega⟩
   rw [htake,zvi]
   simpa using hO10
  ·obtain rfl:i=n.parts.length:=by have:=hN.plen;omega
   rw [List.take_length] at hOW hpre
   rw [henc]
   exact⟨hOW,by simp only [List.length_append];omega⟩
 ·refine je (s:=.slc) (t:=xi) rfl hb4 rfl ?_
  have hil:=hN.ilen
  rw [hil]
  refine cvU fun k2 e2 l2=>?_
  refine zl (qa1 k2 hO4 l2 (by omega)) ?_
  rintro e w6 ⟨rfl,hO6⟩
  refine⟨(),rfl,?_⟩
  rw [show zph k2=zf5 (n.items.length:Int) by rw [e2];rfl] at hO6
  have u2:=@zd5 (n.items.length:Int)
  have hb6:=(keep hO6).get hb3 hne
  refine je (s:=.slc) (t:=xi) rfl hb6 rfl ?_
  have hpl:=hS.items
  have hnm:=hS.names
  have hi32:=hN.i32
  have henc:zgk n=zf5 n.kind++zf5 n.items.length++zo5 n.items:=by unfold zgk;rw [if_neg h1,if_neg h2,List.append_assoc]
  refine jg (fun (s:Int) W=>∃ i:Nat,s=(i:Int)/\i<=n.items.length/\zsv w3.heap [] w2.heap.size (zf5 n.kind++zf5 n.items.length++zo5 (n.items.take i)) W) (fun s _=>(n.items.length-s).toNat) ⟨0,rfl,Nat.zero_le _,by simpa [zo5] using hO6⟩ ?_
  rintro _ W ⟨i,rfl,hi,hOW⟩
  have hpre:(zo5 (n.items.take i)).length<=65600 * 65536:=by
   have h:=zpa (l:=n.items.take i) (fun p hp=>hnm p (List.mem_of_mem_take hp)) (fun p hp=>hi32 p (List.mem_of_mem_take hp))
   have:(n.items.take i).length<=65536:=by simp;omega
   omega
  refine zx (fun hlt=>?_) (fun hge=>?_)
  ·have hil2:i < n.items.length:=by omega
   have hget:=List.getElem?_eq_getElem hil2
   have hmem:n.items[i]∈n.items:=List.getElem_mem hil2
   have htake:n.items.take (i+1)=n.items.take i++[n.items[i]]:=by rw [List.take_add_one,hget];rfl
   generalize n.items[i]=v at hget hmem htake
   have hv:=hi32 v hmem
   have hvn:=hnm v hmem
   have hcW:=hN3.items.ext (keep hOW) (fun a ha hne2 h=>by
    obtain⟨x,hx,hlt⟩:=hN.items.lt hne2
    rw [hx] at ha;cases ha
    simp at h;omega)
   refine zci (i:=i) zac (by omega) rfl hcW hil hget rfl ?_
   refine qdt v rfl fun w9 hw9=>?_
   have hx9:Ext [] W.heap w9.heap:=by rw [hw9];exact .push _
   have hb9:w9.heap[W.heap.size]?=some (.cells (zb0 v).toArray zu (0,0)):=by rw [hw9];exact zk
   have nl:=zd7 (n:=v.name.length) (by omega)
   have uk:=@zd5 v.kind
   have hOsz:w2.heap.size < W.heap.size:=by have:=(keep hOW).1;have:=lt_of_get ho3;omega
   obtain⟨F9,hO9,hF9,hF9l⟩:=hOW.rebase hx9
   have kp:∀ {K:List UInt8}{W':World},zsv w9.heap F9 w2.heap.size K W'->W'.heap[W.heap.size]?=some (.cells (zb0 v).toArray zu (0,0)):=by
    intro K W' ⟨x,h1,_⟩
    refine h1.get hb9 fun h=>?_
    rcases List.mem_cons.1 h with h | h
    ·omega
    ·have:=hF9l _ h;omega
   refine je (s:=.str) (t:=strOf v.name) rfl hb9 rfl ?_
   refine zl (qdq v.name hO9 (by simp only [List.length_append];omega)) ?_
   rintro e w10 ⟨rfl,hO10⟩
   refine⟨(),rfl,?_⟩
   refine je (s:=.int .i64) (t:=v.kind) rfl (kp hO10) rfl ?_
   refine cvU fun k3 e3 l3=>?_
   refine zl (qa1 k3 hO10 l3 (by simp only [List.length_append,zo4];omega)) ?_
   rintro e w11 ⟨rfl,hO11⟩
   refine⟨(),rfl,?_⟩
   rw [show zph k3=zf5 v.kind by rw [e3];rfl] at hO11
   refine zhc (o:=2) rfl (kp hO11) (by simp [zac]) ?_
   have hex:(zb0 v).toArray.extract 2 (2+32)=(Bl.zat v.sum).toArray:=by
    apply Array.ext'
    simp [zb0,List.take_of_length_le,Bl.zab]
   rw [hex,Bl.qfi hv]
   refine zl (qgr (k:=v.sum) hO11 hv (by simp only [List.length_append,zo4];omega)) ?_
   rintro e w12 ⟨rfl,hO12⟩
   refine⟨(),rfl,?_⟩
   refine jd ((i+1:Nat):Int) (by omega) (by omega) (by omega) ?_
   refine⟨⟨i+1,rfl,by omega,?_⟩,by omega⟩
   have:=hOW.unbase hx9 hF9 hO12
   rw [htake,zw2]
   simpa [qf3] using this
  ·obtain rfl:i=n.items.length:=by omega
   rw [List.take_length] at hOW hpre
   rw [henc]
   exact⟨hOW,by simp only [List.length_append];omega⟩
theorem qdr {w:World}{H:Heap}{b o:Nat}{c:Array Value}{T:TypeId}{fr:Nat×Nat}{k:List UInt8}(hw:w.heap=H) (hb:H[b]?=some (.cells c T fr)) (hs:o+32<=c.size) (hk:k.length=32) (hc:∀ j,j < 32->c[o+j]?=(byteCells k)[j]?)
  {K:(Option Addr×Nat×Nat)->Prop}(hK:∀ y:Option Addr×Nat×Nat,Cells H y.1 (byteCells k)->y.2.1=k.length->K y) :
  zba P (Instr.sliceAt zf (Value.pointer (some (⟨b,o,none⟩:Addr))) none none none) .slc w K:=by
 refine qm (s:=.slc) (some (if 32=0 then (⟨b,o,none⟩:Addr) else (⟨b,o,none⟩:Addr).add (0 * 1)),32-0,32-0) (zdp Bl.u27 sz8 .no .no (by omega) (by omega)) ?_
 refine hK _ ?_ (by simp [hk])
 have hadd:(some (if 32=0 then (⟨b,o,none⟩:Addr) else (⟨b,o,none⟩:Addr).add (0 * 1)))=some (⟨b,o,none⟩:Addr):=by simp [Addr.add]
 show Cells H (some (if 32=0 then (⟨b,o,none⟩:Addr) else (⟨b,o,none⟩:Addr).add (0 * 1))) (byteCells k)
 rw [hadd]
 refine .inr ⟨b,o,c,T,fr,rfl,hb,by simp [hk];omega,?_⟩
 apply List.ext_getElem?
 intro j
 rw [Array.getElem?_toList,Array.getElem?_extract]
 simp only [jl,hk]
 by_cases hj:j < 32
 ·rw [if_pos (by omega),hc j hj]
 ·rw [if_neg (by omega),List.getElem?_eq_none (by simp [hk];omega)]
set_option maxHeartbeats 8000000 in
theorem z5o {w:World}{H:Heap}{n:Nod}{xp xi:Option Addr×Nat×Nat}(hw:w.heap=H) (hN:NodW H n xp xi) (hS:SmallN n) :
  zy P zms #[.agg (zcx n xp xi).toArray] w fun e w'=>∃ y,e=.returned (zb2 y)/\Mine w'.heap H.size qw 1 y (byteCells (zgk n))/\Ext [] H w'.heap:=by
 refine zx6 ?_
 unfold zr9
 refine jm hw fun w1 hw1=>?_
 have hx1:Ext [] H w1.heap:=by rw [hw1];exact .push _
 have hb1:w1.heap[H.size]?=some (.cells (zcx n xp xi).toArray zh (0,0)):=by rw [hw1];exact zk
 have u1:=@z5i n
 have h1s:H.size<=w1.heap.size:=hx1.1
 refine je (s:=.int .i64) (t:=n.kind) rfl hb1 rfl ?_
 refine cvU fun k1 e1 l1=>?_
 refine zl (zts rfl l1) ?_
 rintro e w2 ⟨y1,rfl,hm2,hx2⟩
 refine⟨y1,rfl,?_⟩
 rw [show zph k1=zf5 n.kind by rw [e1];rfl] at hm2
 have hb2:=hx2.get hb1 (by simp)
 have fin:∀ {W:World}{x:Option Addr×Nat×Nat}{L:List UInt8},Mine W.heap w1.heap.size qw 1 x (byteCells L)->Ext [] w1.heap W.heap->L=zgk n->∃ y,Ending.returned (zb2 x)=.returned (zb2 y)/\Mine W.heap H.size qw 1 y (byteCells (zgk n))/\Ext [] H W.heap:=by
  intro W x L hm hx he
  exact⟨x,rfl,by rw [<-he];exact hm.mono h1s,hx1.trans hx⟩
 refine je (s:=.int .i64) (t:=n.kind) rfl hb2 rfl ?_
 refine zbo (fun h1=>?_) (fun h1=>?_)
 ·refine je (s:=.str) (t:=strOf n.data) rfl hb2 rfl ?_
  have hd:=hS.data
  have nl:=zd7 (n:=n.data.length) (by omega)
  refine zl (z5j n.data rfl (by omega)) ?_
  rintro e w3 ⟨y3,rfl,hm3,hx3⟩
  refine⟨y3,rfl,?_⟩
  have hx03:=hx2.trans hx3
  refine qcd rfl (hm2.ext hx3 (by simp)) hx03.1 hm3.cells (by have:=hm3.len;simp at this;omega) (by simp [zo4];omega) fun x4 w4 hm4 hx4 hs4=>?_
  exact fin hm4 (zi6 hx03 (hm2.ext hx3 (by simp)) (Nat.le_refl _) hx4) (by unfold zgk;rw [if_pos h1])
 refine je (s:=.int .i64) (t:=n.kind) rfl hb2 rfl ?_
 refine zbo (fun h2=>?_) (fun h2=>?_)
 ·refine je (s:=.int .i64) (t:=n.size) rfl hb2 rfl ?_
  refine cvU fun k2 e2 l2=>?_
  refine zl (zts rfl l2) ?_
  rintro e w3 ⟨y3,rfl,hm3,hx3⟩
  refine⟨y3,rfl,?_⟩
  rw [show zph k2=zf5 n.size by rw [e2];rfl] at hm3
  have u2:=@zd5 n.size
  have hx03:=hx2.trans hx3
  refine qcd rfl (hm2.ext hx3 (by simp)) hx03.1 hm3.cells (by have:=hm3.len;simp at this;omega) (by omega) fun x4 w4 hm4 hx4 hs4=>?_
  have hx04:=zi6 hx03 (hm2.ext hx3 (by simp)) (Nat.le_refl _) hx4
  have hpl:=hS.parts
  have hp32:=hN.p32
  have henc:zgk n=zf5 n.kind++zf5 n.size++zin n.parts:=by unfold zgk;rw [if_neg h1,if_pos h2,List.append_assoc]
  refine jg (fun (s:(Option Addr×Nat×Nat)×Int) W=>∃ i:Nat,s.2=(i:Int)/\i<=n.parts.length/\Ext [] w1.heap W.heap/\Mine W.heap w1.heap.size qw 1 s.1 (byteCells (zf5 n.kind++zf5 n.size++zin (n.parts.take i)))) (fun s _=>(n.parts.length-s.2).toNat) ⟨0,rfl,Nat.zero_le _,hx04,by simpa [zin] using hm4⟩ ?_
  rintro ⟨z,_⟩ W ⟨i,rfl,hi,hxW,hmW⟩
  have hpre:(zin (n.parts.take i)).length<=32 * 65536:=by
   rw [znm fun p hp=>hp32 p (List.mem_of_mem_take hp)]
   simp;omega
  have hplen:=hN.plen
  refine je (s:=.slc) (t:=xp) rfl (hxW.get hb1 (by simp)) rfl ?_
  refine zx (fun hlt=>?_) (fun hge=>?_)
  ·have hil:i < n.parts.length:=by simp only at hlt;omega
   have hget:=List.getElem?_eq_getElem hil
   have hmem:n.parts[i]∈n.parts:=List.getElem_mem hil
   have htake:n.parts.take (i+1)=n.parts.take i++[n.parts[i]]:=by rw [List.take_add_one,hget];rfl
   generalize n.parts[i]=v at hget hmem htake
   have hv:=hp32 v hmem
   refine je (s:=.slc) (t:=xp) rfl (hxW.get hb1 (by simp)) rfl ?_
   refine Bl.zd6 (i:=i) Bl.zab (by omega) (hN.parts.ext (hx1.trans hxW) (by simp)) hplen hget rfl fun b o c T fr _ hb hsz hc _=>?_
   rw [Bl.za7 hv] at hc
   refine qdr rfl hb hsz hv hc fun y hy hyl=>?_
   refine qcd rfl hmW hxW.1 hy hyl (by simp only [List.length_append];omega) fun x5 w5 hm5 hx5 hs5=>?_
   refine jd ((i+1:Nat):Int) (by simp) (by omega) (by omega) ?_
   refine⟨⟨i+1,rfl,by omega,zi6 hxW hmW (Nat.le_refl _) hx5,?_⟩,by simp only;omega⟩
   rw [htake,zvi]
   simpa using hm5
  ·obtain rfl:i=n.parts.length:=by simp only at hge;omega
   rw [List.take_length] at hmW
   exact fin hmW hxW henc.symm
 ·refine je (s:=.slc) (t:=xi) rfl hb2 rfl ?_
  have hil:=hN.ilen
  rw [hil]
  refine cvU fun k2 e2 l2=>?_
  refine zl (zts rfl l2) ?_
  rintro e w3 ⟨y3,rfl,hm3,hx3⟩
  refine⟨y3,rfl,?_⟩
  rw [show zph k2=zf5 (n.items.length:Int) by rw [e2];rfl] at hm3
  have u2:=@zd5 (n.items.length:Int)
  have hx03:=hx2.trans hx3
  refine qcd rfl (hm2.ext hx3 (by simp)) hx03.1 hm3.cells (by have:=hm3.len;simp at this;omega) (by omega) fun x4 w4 hm4 hx4 hs4=>?_
  have hx04:=zi6 hx03 (hm2.ext hx3 (by simp)) (Nat.le_refl _) hx4
  have hpl:=hS.items
  have hnm:=hS.names
  have hi32:=hN.i32
  have henc:zgk n=zf5 n.kind++zf5 n.items.length++zo5 n.items:=by unfold zgk;rw [if_neg h1,if_neg h2,List.append_assoc]
  refine jg (fun (s:(Option Addr×Nat×Nat)×Int) W=>∃ i:Nat,s.2=(i:Int)/\i<=n.items.length/\Ext [] w1.heap W.heap/\Mine W.heap w1.heap.size qw 1 s.1 (byteCells (zf5 n.kind++zf5 n.items.length++zo5 (n.items.take i)))) (fun s _=>(n.items.length-s.2).toNat) ⟨0,rfl,Nat.zero_le _,hx04,by simpa [zo5] using hm4⟩ ?_
  rintro ⟨z,_⟩ W ⟨i,rfl,hi,hxW,hmW⟩
  have hpre:(zo5 (n.items.take i)).length<=65600 * 65536:=by
   have h:=zpa (l:=n.items.take i) (fun p hp=>hnm p (List.mem_of_mem_take hp)) (fun p hp=>hi32 p (List.mem_of_mem_take hp))
   have:(n.items.take i).length<=65536:=by simp;omega
   omega
  refine je (s:=.slc) (t:=xi) rfl (hxW.get hb1 (by simp)) rfl ?_
  refine zx (fun hlt=>?_) (fun hge=>?_)
  ·have hil2:i < n.items.length:=by simp only at hlt;omega
   have hget:=List.getElem?_eq_getElem hil2
   have hmem:n.items[i]∈n.items:=List.getElem_mem hil2
   have htake:n.items.take (i+1)=n.items.take i++[n.items[i]]:=by rw [List.take_add_one,hget];rfl
   generalize n.items[i]=v at hget hmem htake
   have hv:=hi32 v hmem
   have hvn:=hnm v hmem
   have nl:=zd7 (n:=v.name.length) (by omega)
   have uk:=@zd5 v.kind
   have itc:∀ {W':World},Ext [] w1.heap W'.heap->Cells W'.heap xi.1 (n.items.flatMap zb0):=fun h=>hN.items.ext (hx1.trans h) (by simp)
   refine je (s:=.slc) (t:=xi) rfl (hxW.get hb1 (by simp)) rfl ?_
   refine Bl.zd6 (i:=i) zac (by omega) (itc hxW) hil hget rfl fun b o c T fr _ hb hsz hc _=>?_
   refine je (s:=.str) (t:=strOf v.name) rfl hb (hc 0 (by omega)) ?_
   refine zl (z5j v.name rfl (by omega)) ?_
   rintro e w5 ⟨y5,rfl,hm5,hx5⟩
   refine⟨y5,rfl,?_⟩
   have hx05:=hxW.trans hx5
   refine qcd rfl (hmW.ext hx5 (by simp)) hx05.1 hm5.cells (by have:=hm5.len;simp at this;omega) (by simp only [List.length_append,zo4];omega) fun x6 w6 hm6 hx6 hs6=>?_
   have hx06:=zi6 hx05 (hmW.ext hx5 (by simp)) (Nat.le_refl _) hx6
   refine je (s:=.slc) (t:=xi) rfl (hx06.get hb1 (by simp)) rfl ?_
   refine Bl.zd6 (i:=i) zac (by omega) (itc hx06) hil hget rfl fun b' o' c' T' fr' _ hb' hsz' hc' _=>?_
   simp only [vg]
   refine je (s:=.int .i64) (t:=v.kind) rfl hb' (hc' 1 (by omega)) ?_
   refine cvU fun k3 e3 l3=>?_
   refine zl (zts rfl l3) ?_
   rintro e w7 ⟨y7,rfl,hm7,hx7⟩
   refine⟨y7,rfl,?_⟩
   rw [show zph k3=zf5 v.kind by rw [e3];rfl] at hm7
   have hx07:=hx06.trans hx7
   refine qcd rfl (hm6.ext hx7 (by simp)) hx07.1 hm7.cells (by have:=hm7.len;simp at this;omega) (by simp only [List.length_append,zo4];omega) fun x8 w8 hm8 hx8 hs8=>?_
   have hx08:=zi6 hx07 (hm6.ext hx7 (by simp)) (Nat.le_refl _) hx8
   refine je (s:=.slc) (t:=xi) rfl (hx08.get hb1 (by simp)) rfl ?_
   refine Bl.zd6 (i:=i) zac (by omega) (itc hx08) hil hget rfl fun b2 o2 c2 T2 fr2 _ hb2' hsz2 hc2 _=>?_
   simp only [vg]
   refine qdr (k:=v.sum) rfl hb2' (by omega) hv (fun j hj=>?_) fun y hy hyl=>?_
   ·have:=hc2 (2+j) (by omega)
    rw [<-Nat.add_assoc] at this
    rw [this]
    simp only [zb0,Bl.za7 hv]
    rw [show 2+j=(j+1)+1 by omega]
    rfl
   refine qcd rfl hm8 hx08.1 hy hyl (by simp only [List.length_append,zo4];omega) fun x9 w9 hm9 hx9 hs9=>?_
   refine jd ((i+1:Nat):Int) (by simp) (by omega) (by omega) ?_
   refine⟨⟨i+1,rfl,by omega,zi6 hx08 hm8 (Nat.le_refl _) hx9,?_⟩,by omega⟩
   rw [htake,zw2]
   simpa [qf3] using hm9
  ·obtain rfl:i=n.items.length:=by simp only at hge;omega
   rw [List.take_length] at hmW
   exact fin hmW hxW henc.symm
abbrev BV:=(Option Addr×Nat×Nat)×List UInt8
def zcm (H:Heap) (B:Nat) (x:Option Addr×Nat×Nat) (Ls:List (List UInt8)):Prop:=
 ∃ ys:List BV,Mine H B zi 1 x (ys.map fun y=>zb2 y.1)/\ys.map (·.2)=Ls/\∀ y∈ys,Mine H B qw 1 y.1 (byteCells y.2)/\∀ b∈jk y.1,b∉jk x
theorem zcm.nil {H:Heap}{B:Nat}:zcm H B (none,0,0) []:=⟨[],.inl ⟨rfl,rfl⟩,rfl,by simp⟩
theorem zcm.len {H:Heap}{B:Nat}{x:Option Addr×Nat×Nat}{Ls:List (List UInt8)}(h:zcm H B x Ls):x.2.1=Ls.length:=by
 obtain⟨ys,h1,h2,_⟩:=h
 have:=h1.len
 rw [<-h2];simp at *;omega
theorem zcm.ge {H:Heap}{B:Nat}{x:Option Addr×Nat×Nat}{Ls:List (List UInt8)}(h:zcm H B x Ls):∀ b∈jk x,B<=b:=by
 obtain⟨ys,h1,_⟩:=h
 exact qx h1
theorem zbs {H:Heap}{B:Nat}{T:TypeId}{sz:Nat}{x:Option Addr×Nat×Nat}{vs:List Value}(h:Mine H B T sz x vs):∀ b∈jk x,b < H.size/\∃ c T fr,H[b]?=some (.cells c T fr):=by
 intro b hb
 rcases h with⟨rfl,_⟩ | ⟨b',c',hx1,_,hg,_⟩
 ·simp [jk] at hb
 ·simp [jk,hx1] at hb
  subst hb
  exact⟨lt_of_get hg,_,_,_,hg⟩
theorem zic {H:Heap}{B:Nat}{T:TypeId}{sz:Nat}{x:Option Addr×Nat×Nat}{vs:List Value}(h:Mine H B T sz x vs):x.2.1<=x.2.2:=by
 rcases h with⟨rfl,_⟩ | ⟨_,_,_,_,_,_,_,h,_⟩
 ·exact Nat.le_refl _
 ·exact h
theorem zcm.lt {H:Heap}{B:Nat}{x:Option Addr×Nat×Nat}{Ls:List (List UInt8)}(h:zcm H B x Ls):∀ b∈jk x,b < H.size/\∃ c T fr,H[b]?=some (.cells c T fr):=by
 obtain⟨ys,h1,_⟩:=h
 exact zbs h1
theorem zcm.ext {H H':Heap}{B:Nat}{x:Option Addr×Nat×Nat}{Ls:List (List UInt8)}{M:List Nat}(h:zcm H B x Ls) (hx:Ext M H H') (hM:∀ b∈M,b < B):zcm H' B x Ls:=by
 obtain⟨ys,h1,h2,h3⟩:=h
 refine⟨ys,h1.ext hx fun b hb hm=>?_,h2,fun y hy=>⟨(h3 y hy).1.ext hx fun b hb hm=>?_,(h3 y hy).2⟩⟩
 ·have:=qx h1 b hb;have:=hM b hm;omega
 ·have:=qx (h3 y hy).1 b hb;have:=hM b hm;omega
theorem zcm.beside {B B':Nat}{W W':World}{x:Option Addr×Nat×Nat}{Ls:List (List UInt8)}(h:zcm W.heap B x Ls) (hx:Beside B' W W'):zcm W'.heap B x Ls:=by
 obtain⟨ys,h1,h2,h3⟩:=h
 exact⟨ys,hx.mine h1,h2,fun y hy=>⟨hx.mine (h3 y hy).1,(h3 y hy).2⟩⟩
theorem zcm.mono {H:Heap}{B B':Nat}{x:Option Addr×Nat×Nat}{Ls:List (List UInt8)}(h:zcm H B x Ls) (hB:B'<=B):zcm H B' x Ls:=by
 obtain⟨ys,h1,h2,h3⟩:=h
 exact⟨ys,h1.mono hB,h2,fun y hy=>⟨(h3 y hy).1.mono hB,(h3 y hy).2⟩⟩
theorem zcm.rows {H:Heap}{B:Nat}{x:Option Addr×Nat×Nat}{Ls:List (List UInt8)}(h:zcm H B x Ls):Bl.Rows H x.1 x.2.1 Ls:=by
 have hl:=h.len
 obtain⟨ys,h1,h2,h3⟩:=h
 refine⟨hl,fun i hi=>?_⟩
 have hyl:ys.length=Ls.length:=by rw [<-h2];simp
 have hiy:i < ys.length:=by omega
 rcases h1 with⟨rfl,_⟩ | ⟨b,c,hx1,_,hg,hc,hle,hxle,he⟩
 ·simp at hl;omega
 have hy:=h3 ys[i] (List.getElem_mem hiy)
 have hL:Ls[i]=ys[i].2:=by simp [<-h2]
 refine⟨b,0,c,_,_,ys[i].1,hx1,hg,?_,by rw [hL];exact hy.1.cells,by rw [hL];have:=hy.1.len;simp at this;omega,?_⟩
 ·have h5:(c.extract 0 (ys.map fun y=>zb2 y.1).length).toList[i]?=(ys.map fun y=>zb2 y.1)[i]?:=by rw [he]
  rw [Array.getElem?_toList,Array.getElem?_extract] at h5
  simp at h5
  rw [if_pos (by omega),List.getElem?_eq_getElem hiy] at h5
  simpa using h5
 ·rcases hy.1 with⟨h,_⟩ | ⟨_,_,_,_,_,_,_,h,_⟩
  ·rw [h];exact Nat.le_refl _
  ·exact h
theorem EBs:Elem P zi 1 24:=zmm (z:=.slice none 0 0) (by kernel_rfl) rfl
theorem uSS:P.underlying jq=some (.slice zi):=by kernel_rfl
theorem qbc {w:World}{H:Heap}{B:Nat}{x y:Option Addr×Nat×Nat}{Ls:List (List UInt8)}{L:List UInt8}(hw:w.heap=H) (hB:zcm H B x Ls) (hBs:B<=H.size) (hy:Mine H B qw 1 y (byteCells L)) (hyx:∀ b∈jk y,b∉jk x) (hlen:Ls.length<=1073741824){K:(Option Addr×Nat×Nat)->World->Prop}
  (hK:∀ x' w',zcm w'.heap B x' (Ls++[L])->Ext (jk x) H w'.heap->(∀ c∈jk x',c∈jk x\/H.size<=c)->K x' w') :
  zaw P (Instr.buildSlice jq 1 #[(0,(Value.slice y.1 y.2.1 y.2.2))]) .slc w fun (t15:(Option Addr×Nat×Nat)) w_4=>
  zaw P (Builtin.append_ #[jq,jq] jq #[(Value.slice x.1 x.2.1 x.2.2),(Value.slice t15.1 t15.2.1 t15.2.2)]) .slc w_4 K:=by
 have hl:=hB.len
 have hylt:=zbs hy
 obtain⟨ys,h1,h2,h3⟩:=hB
 have hylen:ys.length=Ls.length:=by rw [<-h2];simp
 refine zah (s:=.slc) (some ⟨w.heap.size,0,none⟩,1,1) _ (zen EBs uSS (v:=.slice y.1 y.2.1 y.2.2) rfl (by omega) (by omega)) ?_
 subst hw
 have hxp:Ext [] w.heap (w.heap.push (.cells (Value.slice y.1 y.2.1 y.2.2).cells zi)):=.push _
 refine zcj (n:=1) (us:=[zb2 y]) (H:=w.heap.push (.cells (Value.slice y.1 y.2.1 y.2.2).cells zi)) EBs (by omega) uSS (zbg uSS) rfl (h1.ext hxp (by simp)) (by simp;omega)
  (Src.slc rfl (.inr ⟨w.heap.size,0,_,_,_,rfl,zk,by simp [Value.cells],by simp [Value.cells,zb2]⟩) rfl) (by intro v hv;simp at hv;subst hv;rfl) (by omega) ?_
 intro x' w4 hm4 hl4 hx4 hs4
 have hx04:Ext (jk x) w.heap w4.heap:=(hxp.mono (by simp)).trans hx4
 have hs0:w.heap.size<=w4.heap.size:=hx04.1
 have hs4':∀ c∈jk x',c∈jk x\/w.heap.size<=c:=fun c hc=>by
  rcases hs4 c hc with h | h
  ·exact .inl h
  ·right;have:=hxp.1;omega
 refine hK x' w4 ⟨ys++[(y,L)],by simpa using hm4,by simp [h2],fun z hz=>?_⟩ hx04 hs4'
 rcases List.mem_append.1 hz with hz | hz
 ·obtain⟨g1,g2⟩:=h3 z hz
  refine⟨g1.ext hx04 g2,fun b hb h=>?_⟩
  rcases hs4' b h with h | h
  ·exact g2 b hb h
  ·have:=(zbs g1 b hb).1;omega
 ·simp only [List.mem_singleton] at hz
  subst hz
  refine⟨hy.ext hx04 hyx,fun b hb h=>?_⟩
  rcases hs4' b h with h | h
  ·exact hyx b hb h
  ·have:=(hylt b hb).1;omega
theorem stD {w:World}{H:Heap}{b o:Nat}{c:Array Value}{T:TypeId}{k:List UInt8}(hk:k.length=32) (hw:w.heap=H) (hb:H[b]?=some (.cells c T (0,0))) (hs:o+32<=c.size){K:World->Prop}
  (hK:∀ w',w'.heap=H.setIfInBounds b (.cells (setCells c o (byteCells k)) T (0,0))->K w'):zb8 P (storeVar zf (⟨b,o,none⟩:Addr) (arr k)) w K:=by
 refine zay (v:=arr k) (by rw [szD,Bl.xq,hk]) (by rw [Bl.xq];omega) (by simpa [Value.cells,arr] using jo) hw hb (by rw [Bl.xq];omega) fun w' hw'=>hK w' ?_
 rw [hw']
 simp [Value.cells,arr]
theorem z4l {w:World}{H:Heap}{b:Nat}{c:Array Value}{T:TypeId}{k:List UInt8}(hk:k.length=32) (hw:w.heap=H) (hb:H[b]?=some (.cells c T (0,0))) (hs:c.size=32){K:World->Prop}
  (hK:∀ w',w'.heap=H.setIfInBounds b (.cells (byteCells k).toArray T (0,0))->K w'):zb8 P (storeVar zf (⟨b,0,none⟩:Addr) (arr k)) w K:=by
 refine stD hk hw hb (by omega) fun w' hw'=>hK w' ?_
 rw [hw',zak (by simp [hk,hs])]
theorem zae {L:List UInt8}:(Sha.sum L).length=32:=Bl.zae
set_option maxHeartbeats 4000000 in
theorem z8b {w:World}{H:Heap}{B:Nat}{x xp xi:Option Addr×Nat×Nat}{Ls:List (List UInt8)}{n:Nod}(hw:w.heap=H) (hB:zcm H B x Ls) (hB0:0 < B) (hBs:B<=H.size) (hN:NodW H n xp xi) (hR:zau n=true) (hS:Bl.Rounds H) (hlen:Ls.length<=1073741824) (hel:(zgk n).length<=1099511627776) :
  zy P zi8 #[.slice x.1 x.2.1 x.2.2,.agg (zcx n xp xi).toArray] w fun e w'=>∃ x',e=.returned (.tuple #[zb2 x',arr (Sha.sum (zgk n))])/\zcm w'.heap B x' (Ls++[zgk n])/\Ext (jk x) H w'.heap/\∀ c∈jk x',c∈jk x\/H.size<=c:=by
 refine z0r ?_
 unfold zug
 refine jm hw fun w1 hw1=>?_
 have hx1:Ext [] H w1.heap:=by rw [hw1];exact .push _
 have hb1:w1.heap[H.size]?=some (.cells (zcx n xp xi).toArray zh (0,0)):=by rw [hw1];exact zk
 refine jm rfl fun w2 hw2=>?_
 have hx2:Ext [] w1.heap w2.heap:=by rw [hw2];exact .push _
 have hd2:w2.heap[w1.heap.size]?=some (.cells (zc P zf) zf (0,0)):=by rw [hw2];exact zk
 have hx02:=hx1.trans hx2
 refine qp rfl (hx2.get hb1 (by simp)) rfl ?_
 refine zl (z9r rfl (hN.ext hx02) hR) ?_
 rintro e w3 ⟨y,rfl,hm3,hx3⟩
 refine⟨(y,0),rfl,?_⟩
 have hx03:=hx02.trans hx3
 have hs02:=hx02.1
 have hxlt:=hB.lt
 refine qbc rfl (hB.ext hx03 (by simp)) (by have:=hx03.1;omega) (hm3.mono (by omega)) (fun b hb h=>by have:=qx hm3 b hb;have:=(hxlt b h).1;omega) hlen fun x5 w5 hB5 hx5 hs5=>?_
 have hylt:=zbs hm3
 have hm5:=hm3.ext hx5 (fun b hb h=>by have:=qx hm3 b hb;have:=(hxlt b h).1;omega)
 have hx05:Ext (jk x) H w5.heap:=(hx03.mono (by simp)).trans hx5
 have h0x:0∉jk x:=fun h=>by have:=hB.ge 0 h;omega
 have hyl:y.2.1=(zgk n).length:=by have:=hm3.len;simp at this;omega
 refine zl (Bl.z9w rfl hm5.cells hyl (zic hm3) (hS.ext hx05 h0x) (by omega)) ?_
 rintro e w6 ⟨rfl,hx6⟩
 refine⟨arr (Sha.sum (zgk n)),rfl,?_⟩
 have hs1:H.size < w1.heap.size:=lt_of_get hb1
 have hdn:w1.heap.size∉jk x:=fun h=>by have:=(hxlt _ h).1;omega
 have hd6:w6.heap[w1.heap.size]?=some (.cells (zc P zf) zf (0,0)):=hx6.get (hx5.get (hx3.get hd2 (by simp)) hdn) (by simp)
 refine z4l zae rfl hd6 (by rw [zcD]) fun w7 hw7=>?_
 have hd7:w7.heap[w1.heap.size]?=some (.cells (byteCells (Sha.sum (zgk n))).toArray zf (0,0)):=by rw [hw7];exact qc hd6
 refine qp rfl hd7 (by simp [zae]) ?_
 have hx06:=hx05.trans (hx6.mono (by simp))
 have hdx5:w1.heap.size∉jk x5:=fun h=>by
  rcases hs5 _ h with h | h
  ·exact hdn h
  ·have:=hx3.1;have:=lt_of_get hd2;omega
 refine⟨x5,rfl,?_,?_,fun c hc=>?_⟩
 ·have hB6:=hB5.ext hx6 (by simp)
  obtain⟨ys,g1,g2,g3⟩:=hB6
  have hx67:Ext [w1.heap.size] w6.heap w7.heap:=by rw [hw7];exact Ext.set _ (by simp)
  refine⟨ys,g1.ext hx67 (fun b hb h=>by simp at h;subst h;exact hdx5 hb),g2,fun z hz=>⟨(g3 z hz).1.ext hx67 fun b hb h=>?_,(g3 z hz).2⟩⟩
  simp at h;subst h
  obtain⟨_,c',T',fr',hcell⟩:=zbs (g3 z hz).1 _ hb
  rcases (g3 z hz).1 with⟨h,_⟩ | ⟨b',c2,hx1',_,hg,_⟩
  ·rw [h] at hb;simp [jk] at hb
  ·simp [jk,hx1'] at hb
   subst hb
   rw [hd6] at hg
   simp only [Option.some.injEq,Obj.cells.injEq] at hg
   exact absurd hg.2.1 (by decide)
 ·rw [hw7];exact hx06.set_own (.inl (by omega))
 ·rcases hs5 c hc with h | h
  ·exact .inl h
  ·right;have:=hx03.1;omega
theorem qha {w:World}{H:Heap}{D:List UInt8}(hw:w.heap=H){K:(Option Addr×Nat×Nat)->World->Prop}
  (hK:∀ y w',Cells w'.heap y.1 (byteCells D)->y.2.1=D.length->y.2.1<=y.2.2->jk y=[H.size]->Ext [] H w'.heap->H.size < w'.heap.size->K y w'):zaw P (convert jw zi (.string (strOf D))) .slc w K:=by
 subst hw
 have h:=run_bytes_of_string w jw zi qw (strOf D) z4r uS8 u8 (P:=P)
 have hge:=grownCap_ge w (strOf D).size 0 qw
 refine zah (s:=.slc) (some ⟨w.heap.size,0,none⟩,(strOf D).size,grownCap w (strOf D).size 0 qw) _ h ?_
 refine hK _ _ (.inr ⟨w.heap.size,0,_,_,_,rfl,zk,?_,?_⟩) (by simp) hge rfl (.push _) (by show w.heap.size < (w.heap.push _).size;simp)
 ·simp [bytesRow,strOf]
 ·rw [Nat.zero_add]
  simp [bytesRow,strOf,byteCells,List.take_of_length_le]
theorem z7p {w:World}{t e:TypeId}{sz:Nat}{a:Option Addr}{len cap l h m:Nat}{k:IntKind}(hu:P.underlying t=some (.slice e)) (hs:(P.info? e).map (·.size)=some sz) (h1:l<=h) (h2:h<=m) (h3:m<=cap) :
  (Instr.sliceAt t (.slice a len cap) (some (.int k (l:Int))) (some (.int k (h:Int))) (some (.int k (m:Int)))).run P w=.ok (.slice (if m=l then a else a.map (·.add (l * sz))) (h-l) (m-l)) w:=by
 have em:∀ code,(Instr.sliceBound (.int k (m:Int)) cap code).run P w=.ok m w:=by
  intro code
  simp [Instr.sliceBound,asIntOf,h3]
 have eh:∀ code,(Instr.sliceBound (.int k (h:Int)) m code).run P w=.ok h w:=by
  intro code
  simp [Instr.sliceBound,asIntOf,h2]
 have el:∀ code,(Instr.sliceBound (.int k (l:Int)) h code).run P w=.ok l w:=by
  intro code
  simp [Instr.sliceBound,asIntOf,h1]
 simp [Instr.sliceAt,Instr.slice,Instr.sliceBounds,ql hu,em,eh,el,zb1 hs]
def npc (D:List UInt8):Nat:=(D.length+63) / 64
def znv (D:List UInt8) (j:Nat):List UInt8:=(D.drop (64 * j)).take 64
def zue (y:Option Addr×Nat×Nat) (D:List UInt8) (j:Nat):Option Addr×Nat×Nat:=(if 64 * j+min 64 (D.length-64 * j)=64 * j then y.1 else y.1.map (·.add (64 * j * 1)),(64 * j+min 64 (D.length-64 * j))-64 * j,(64 * j+min 64 (D.length-64 * j))-64 * j)
theorem zrx {D:List UInt8}{j:Nat}:(znv D j).length=min 64 (D.length-64 * j):=by simp [znv]
theorem zzs {D:List UInt8}{j:Nat}:j < npc D ↔ 64 * j < D.length:=by unfold npc;omega
theorem z1w {H:Heap}{y:Option Addr×Nat×Nat}{D:List UInt8}{j:Nat}(h:Cells H y.1 (byteCells D)) (hj:j < npc D):Cells H (zue y D j).1 (byteCells (znv D j)):=by
 have hj':=zzs.1 hj
 have h1:=h.part (64 * j) (min 64 (D.length-64 * j)) (by simp;omega)
 rw [zju,zfv] at h1
 have h2:znv D j=(D.drop (64 * j)).take (min 64 (D.length-64 * j)):=by
  unfold znv
  by_cases h64:64<=D.length-64 * j
  ·rw [Nat.min_eq_left h64]
  ·rw [Nat.min_eq_right (by omega),List.take_of_length_le (by simp;omega),List.take_of_length_le (by simp)]
 rw [h2]
 unfold zue
 simp only
 rw [if_neg (by omega),Nat.mul_one]
 exact h1
theorem qar {w:World}{H:Heap}{b c:Nat}{y:Option Addr×Nat×Nat}{D:List UInt8}(hw:w.heap=H) (hb:H[b]?=some (.cells #[zb2 y] zi (0,0))) (hc:H[c]?=some (.cells #[.int .i64 64] zbl (0,0))) (hy:y.2.1=D.length) (hcap:y.2.1<=y.2.2) (hD:D.length<=1099511627776) :
  z7s P (.func (.func zb9) #[] #[.pointer (some ⟨b,0,none⟩),.pointer (some ⟨c,0,none⟩)]) (fun ys=>ys=List.range (npc D)) (fun pre j=>j=pre.length/\j < npc D) (fun j=>#[zb2 (zue y D j)]) [b,c] w:=by
 refine⟨_,_,rfl,fun l I J w1 M hx1 hMM hst h0 hY=>?_⟩
 have hx1:=hw▸hx1
 have hb1:=hx1.get hb (by simp)
 have hc1:=hx1.get hc (by simp)
 have hbl:=lt_of_get hb1
 have hcl:=lt_of_get hc1
 refine zhu ?_
 unfold ze4
 refine jg (fun s W=>∃ i:Nat,s=((64 * i:Nat):Int)/\i<=npc D/\I (List.range i) W/\w1.heap.size<=W.heap.size/\W.heap[b]?=some (.cells #[zb2 y] zi (0,0))/\W.heap[c]?=some (.cells #[.int .i64 64] zbl (0,0))) (fun s _=>(64 * npc D+64-s).toNat)
  ⟨0,rfl,Nat.zero_le _,h0,Nat.le_refl _,hb1,hc1⟩ ?_
 rintro _ W ⟨i,rfl,hi,hI,hsz,hbW,hcW⟩
 simp only [qg]
 refine je (s:=.slc) (t:=y) rfl hbW rfl ?_
 refine zx (fun hil=>?_) (fun hil=>?_)
 ·have hil:i < npc D:=zzs.2 (by omega)
  have hil':=zzs.1 hil
  refine jv rfl fun w2 hw2=>?_
  have hx02:Ext [] W.heap w2.heap:=by rw [hw2];exact .refl _ _
  have hb2:=hx02.get hbW (by simp)
  have hc2:=hx02.get hcW (by simp)
  refine je (s:=.int .i64) (t:=(64:Int)) rfl hc2 rfl ?_
  refine je (s:=.slc) (t:=y) rfl hb2 rfl ?_
  refine qm (s:=.slc) (if y.2.2=64 * i then y.1 else y.1.map (·.add (64 * i * 1)),y.2.1-64 * i,y.2.2-64 * i) (za9 uS8 sz8 (.yes rfl) .no (by omega) hcap) ?_
  refine qm (s:=.int .i64) ((min 64 (D.length-64 * i):Nat):Int) (by rw [run_min_int2];congr 2;simp only;split <;> omega) ?_
  refine je (s:=.slc) (t:=y) rfl hb2 rfl ?_
  refine jd ((64 * i+min 64 (D.length-64 * i):Nat):Int) (by omega) (by omega) (by omega) ?_
  refine jd ((64 * i+min 64 (D.length-64 * i):Nat):Int) (by omega) (by omega) (by omega) ?_
  refine qm (s:=.slc) (zue y D i) (z7p uS8 sz8 (by omega) (Nat.le_refl _) (by omega)) ?_
  refine ziv ((hY (List.range i) i w2 ⟨by simp,hil⟩ (hst _ _ _ hI (.new hsz hx02))).mono ?_)
  have hs2:W.heap.size<=w2.heap.size:=hx02.1
  rintro e W2 ⟨hK,⟨rfl,hI2⟩ | ⟨rfl,hJ2⟩⟩
  ·refine⟨true,rfl,?_⟩
   refine jr rfl ?_
   have hb3:=hK.get hb2 hbl (fun h=>(hMM _ h).2 (by simp))
   have hc3:=hK.get hc2 hcl (fun h=>(hMM _ h).2 (by simp))
   refine je (s:=.int .i64) (t:=(64:Int)) rfl hc3 rfl ?_
   refine jd ((64 * (i+1):Nat):Int) (by omega) (by omega) (by omega) ?_
   refine⟨⟨i+1,rfl,by omega,?_,?_,hb3,hc3⟩,by omega⟩
   ·rw [List.range_succ];exact hI2
   ·exact Nat.le_trans (Nat.le_trans hsz hs2) hK.1
  ·refine⟨false,rfl,?_⟩
   exact zai rfl ⟨⟨_,rfl⟩,.inr hJ2⟩
 ·have hil:i=npc D:=by
   have:¬i < npc D:=fun h=>by have:=zzs.1 h;omega
   omega
  refine⟨⟨_,rfl⟩,.inl ⟨List.range (npc D),rfl,?_⟩⟩
  rw [<-hil];exact hI
theorem qfc {w:World}{H:Heap}{y:Option Addr×Nat×Nat}{D:List UInt8}(hw:w.heap=H) (hy:y.2.1=D.length) (hcap:y.2.1<=y.2.2) (hD:D.length<=1099511627776) :
  zy P zdl #[.slice y.1 y.2.1 y.2.2,.int .i64 64] w fun e w'=>∃ gv b c,e=.returned gv/\H.size<=b/\H.size<=c/\b < w'.heap.size/\c < w'.heap.size/\Ext [] H w'.heap /\
   z7s P gv (fun ys=>ys=List.range (npc D)) (fun pre j=>j=pre.length/\j < npc D) (fun j=>#[zb2 (zue y D j)]) [b,c] w':=by
 refine zij ?_
 unfold zfl
 refine jm hw fun w1 hw1=>?_
 have hx1:Ext [] H w1.heap:=by rw [hw1];exact .push _
 have hb1:w1.heap[H.size]?=some (.cells #[zb2 y] zi (0,0)):=by rw [hw1];exact zk
 refine jm rfl fun w2 hw2=>?_
 have hx2:Ext [] w1.heap w2.heap:=by rw [hw2];exact .push _
 have hc2:w2.heap[w1.heap.size]?=some (.cells #[.int .i64 64] zbl (0,0)):=by rw [hw2];exact zk
 have hb2:=hx2.get hb1 (by simp)
 refine zar ?_
 refine je (s:=.int .i64) (t:=(64:Int)) rfl hc2 rfl ?_
 refine jr rfl ?_
 refine qm (s:=.any) (.func (.func zb9) #[] #[.pointer (some ⟨H.size,0,none⟩),.pointer (some ⟨w1.heap.size,0,none⟩)]) (by simp [Instr.makeFunc];rfl) ?_
 have hs1:=hx1.1
 exact⟨_,H.size,w1.heap.size,rfl,Nat.le_refl _,hs1,lt_of_get hb2,lt_of_get hc2,hx1.trans hx2,qar rfl hb2 hc2 hy hcap hD⟩
def zr8 (p:List UInt8):Nod:=⟨1,p,0,[],[]⟩
def zfp (D:List UInt8) (j:Nat):List UInt8:=zgk (zr8 (znv D j))
def zlt (D:List UInt8) (k:Nat):List (List UInt8):=(List.range k).map fun j=>Sha.sum (zfp D j)
def zgt (D:List UInt8) (k:Nat):Nod:=⟨2,[],D.length,zlt D k,[]⟩
def zc1 (D:List UInt8) (k:Nat):List (List UInt8):=(List.range k).map (zfp D)
def zhi (D:List UInt8):List (List UInt8):=zc1 D (npc D)++[zgk (zgt D (npc D))]
def zil (D:List UInt8):List UInt8:=Sha.sum (zgk (zgt D (npc D)))
theorem z2p {D:List UInt8}{k:Nat}:zlt D (k+1)=zlt D k++[Sha.sum (zfp D k)]:=by simp [zlt,List.range_succ]
theorem zuz {D:List UInt8}{k:Nat}:zc1 D (k+1)=zc1 D k++[zfp D k]:=by simp [zc1,List.range_succ]
theorem zj9 {D:List UInt8}{k:Nat}:(zlt D k).length=k:=by simp [zlt]
theorem zz9 {D:List UInt8}{k:Nat}:∀ p∈zlt D k,p.length=32:=by
 intro p hp
 obtain⟨j,_,rfl⟩:=List.mem_map.1 hp
 exact zae
theorem z2i {D:List UInt8}{j:Nat}(h:j < npc D):zau (zr8 (znv D j))=true:=by
 have h1:=zzs.1 h
 have h2:=zrx (D:=D) (j:=j)
 unfold zau zr8
 simp only [if_true,decide_eq_true_eq,List.length_nil,and_true]
 omega
theorem z6j {D:List UInt8}(h:D.length<=1024):zau (zgt D (npc D))=true:=by
 unfold zau zgt
 rw [if_neg (show ¬((2:Int)=1) by decide),if_pos rfl]
 simp only [zj9,List.length_nil,and_true,true_and,decide_eq_true_eq,zkf,npc]
 omega
theorem zyj {D:List UInt8}{j:Nat}:(zfp D j).length<=100:=by
 have h2:=zrx (D:=D) (j:=j)
 have u:=@zd5 1
 have nl:=zd7 (n:=(znv D j).length) (by omega)
 unfold zfp zgk zr8
 simp only [if_true,List.length_append,zo4]
 omega
theorem z1y {D:List UInt8}{k:Nat}(hk:k<=65536):(zgk (zgt D k)).length<=3000000:=by
 have u:=@zd5 2
 have u2:=@zd5 (D.length:Int)
 have:=znm (l:=zlt D k) zz9
 rw [zj9] at this
 unfold zgk zgt
 rw [if_neg (show ¬((2:Int)=1) by decide),if_pos rfl]
 simp only [List.length_append]
 omega
theorem zhz {H:Heap}{B B':Nat}{T T':TypeId}{sz sz':Nat}{x x':Option Addr×Nat×Nat}{vs vs':List Value}(h:Mine H B T sz x vs) (h':Mine H B' T' sz' x' vs') (hne:T≠T'):∀ b∈jk x,b∉jk x':=by
 intro b hb hb'
 rcases h with⟨rfl,_⟩ | ⟨b1,c1,hx1,_,hg1,_⟩
 ·simp [jk] at hb
 rcases h' with⟨rfl,_⟩ | ⟨b2,c2,hx2,_,hg2,_⟩
 ·simp [jk] at hb'
 simp [jk,hx1] at hb
 simp [jk,hx2] at hb'
 subst hb hb'
 rw [hg1] at hg2
 simp only [Option.some.injEq,Obj.cells.injEq] at hg2
 exact hne hg2.2.1
theorem ED:Elem P zf 32 32:=Bl.E27
theorem zuw {w:World}{H:Heap}{B:Nat}{x:Option Addr×Nat×Nat}{ds:List (List UInt8)}{k:List UInt8}(hw:w.heap=H) (hm:Mine H B zf 32 x (ds.flatMap Bl.zat)) (hBs:B<=H.size) (hk:k.length=32) (hlen:ds.length<=1073741824){K:(Option Addr×Nat×Nat)->World->Prop}
  (hK:∀ x' w',Mine w'.heap B zf 32 x' ((ds++[k]).flatMap Bl.zat)->Ext (jk x) H w'.heap->(∀ c∈jk x',c∈jk x\/H.size<=c)->K x' w') :
  zaw P (Instr.buildSlice zo 1 #[(0,arr k)]) .slc w fun (t27:(Option Addr×Nat×Nat)) w_13=>
  zaw P (Builtin.append_ #[zo,zo] zo #[(Value.slice x.1 x.2.1 x.2.2),(Value.slice t27.1 t27.2.1 t27.2.2)]) .slc w_13 K:=by
 have hlx:x.2.1=ds.length:=by
  have:=hm.len
  rw [zq Bl.zat Bl.zab] at this
  omega
 have hc1:(arr k).cells=(Bl.zat k).toArray:=by rw [Bl.za7 hk];rfl
 refine zah (s:=.slc) (some ⟨w.heap.size,0,none⟩,1,1) _ (zen ED Bl.z6n (v:=arr k) (by rw [Bl.xq,hk]) (by omega) (by omega)) ?_
 subst hw
 have hxp:Ext [] w.heap (w.heap.push (.cells (arr k).cells zf)):=.push _
 refine zcj (bts:=32) (n:=1) (us:=Bl.zat k) (H:=w.heap.push (.cells (arr k).cells zf)) ED (by omega) Bl.z6n (zbg Bl.z6n) rfl (hm.ext hxp (by simp)) (by simp;omega)
  (Src.slc rfl (.inr ⟨w.heap.size,0,_,_,_,rfl,zk,by rw [hc1];simp,by rw [hc1,Nat.zero_add];simp⟩) (by rw [Bl.zab])) Bl.zi4 (by omega) ?_
 intro x' w4 hm4 hl4 hx4 hs4
 refine hK x' w4 (by rw [List.flatMap_append,List.flatMap_singleton];exact hm4) ((hxp.mono (by simp)).trans hx4) (fun c hc=>?_)
 rcases hs4 c hc with h | h
 ·exact .inl h
 ·right;have:=hxp.1;omega
theorem bN2 (n:Int) (w:World):(Instr.build zh #[(0,.int .i64 2),(2,.int .i64 n)]).run P w=.ok (.agg #[.int .i64 2,.string .empty,.int .i64 n,.slice none 0 0,.slice none 0 0]) w:=by kernel_rfl
theorem bN1 (s:ByteArray) (w:World):(Instr.build zh #[(0,.int .i64 1),(1,.string s)]).run P w=.ok (.agg #[.int .i64 1,.string s,.int .i64 0,.slice none 0 0,.slice none 0 0]) w:=by kernel_rfl
theorem NodW.bare {H:Heap}{n:Nod}(hp:n.parts=[]) (hi:n.items=[]):NodW H n (none,0,0) (none,0,0):=
 ⟨by rw [hp];exact .inl rfl,by rw [hp];rfl,by rw [hi];exact .inl rfl,by rw [hi];rfl,by rw [hp];simp,by rw [hi];simp⟩
set_option maxHeartbeats 16000000 in
theorem qga {w:World}{H:Heap}{B:Nat}{x:Option Addr×Nat×Nat}{Ls:List (List UInt8)}{D:List UInt8}(hw:w.heap=H) (hB:zcm H B x Ls) (hB0:0 < B) (hBs:B<=H.size) (hS:Bl.Rounds H) (hlen:Ls.length<=536870912) (hD:D.length<=1024) :
  zy P zoy #[.slice x.1 x.2.1 x.2.2,.string (strOf D)] w fun e w'=>∃ x',e=.returned (.tuple #[zb2 x',arr (zil D)])/\zcm w'.heap B x' (Ls++zhi D)/\Ext (jk x) H w'.heap/\∀ c∈jk x',c∈jk x\/H.size<=c:=by
 have hnp:npc D<=16:=by unfold npc;omega
 have hxlt:=hB.lt
 have h0x:0∉jk x:=fun h=>by have:=hB.ge 0 h;omega
 have h0H:0 < H.size:=by omega
 refine zzv ?_
 unfold zvv
 refine jm hw fun w1 hw1=>?_
 have hx1:Ext [] H w1.heap:=by rw [hw1];exact .push _
 have hl1:w1.heap[H.size]?=some (.cells #[zb2 x] jq (0,0)):=by rw [hw1];exact zk
 refine jm rfl fun w2 hw2=>?_
 have hx2:Ext [] w1.heap w2.heap:=by rw [hw2];exact .push _
 have hd2:w2.heap[w1.heap.size]?=some (.cells (zc P zf) zf (0,0)):=by rw [hw2];exact zk
 refine qm (s:=.any) (.agg (zcx (zgt D 0) (none,0,0) (none,0,0)).toArray) (by rw [zbe];exact bN2 _ _) ?_
 refine qa8 (zgt D 0) _ _ rfl fun w4 hw4=>?_
 have hx4:Ext [] w2.heap w4.heap:=by rw [hw4];exact .push _
 have hn4:w4.heap[w2.heap.size]?=some (.cells (zcx (zgt D 0) (none,0,0) (none,0,0)).toArray zh (0,0)):=by rw [hw4];exact zk
 refine qha rfl fun y w5 hcy hyl hyc hyo hx5 hs5=>?_
 refine zl (qfc rfl hyl hyc (by omega)) ?_
 rintro e w6 ⟨gv,b,c,rfl,hbge,hcge,hblt,hclt,hx6,hseq⟩
 refine⟨gv,rfl,?_⟩
 have hx46:=hx5.trans hx6
 have hx26:=hx4.trans hx46
 have hx16:=hx2.trans hx26
 have hx06:=hx1.trans hx16
 have s1:H.size < w1.heap.size:=lt_of_get hl1
 have s2:w1.heap.size < w2.heap.size:=lt_of_get hd2
 have s4:w2.heap.size < w4.heap.size:=lt_of_get hn4
 have s6:=hx6.1
 have hl6:=hx16.get hl1 (by simp)
 have hd6:=hx26.get hd2 (by simp)
 have hn6:=hx46.get hn4 (by simp)
 have hcy6:=hcy.ext hx6 (by simp)
 have hB6:=hB.ext hx06 (by simp)
 refine zy1 (α:=Nat) (shs:=[.slc]) (tv:=zue y D) (fp:=[b,c]) hseq (H.size :: w2.heap.size :: jk x)
  (fun m hm=>?_) (fun m hm=>by simp at hm;omega)
  (fun pre W=>∃ x' xp',Ext (jk x) H W.heap/\w6.heap.size<=W.heap.size/\W.heap[H.size]?=some (.cells #[zb2 x'] jq (0,0))/\W.heap[w2.heap.size]?=some (.cells (zcx (zgt D pre.length) xp' (none,0,0)).toArray zh (0,0)) /\
   W.heap[w1.heap.size]?=some (.cells (zc P zf) zf (0,0))/\zcm W.heap B x' (Ls++zc1 D pre.length)/\(∀ c∈jk x',c∈jk x\/w6.heap.size<=c)/\Mine W.heap w6.heap.size zf 32 xp' ((zlt D pre.length).flatMap Bl.zat)/\Cells W.heap y.1 (byteCells D)/\pre.length<=npc D)
  (fun _=>False) (fun _ _=>False) ?_ (fun _ _ h _=>h.elim) (fun _ _ _ h _=>h.elim) ?_ ?_ ?_ (fun _ h=>h.elim) (fun _ _ h=>h.elim)
 ·simp only [List.mem_cons] at hm
  rcases hm with rfl | rfl | hm
  ·exact⟨by omega,by simp;omega⟩
  ·exact⟨by omega,by simp;omega⟩
  ·have:=(hxlt m hm).1
   exact⟨by omega,by simp;omega⟩
 ·rintro pre W W' ⟨x',xp',h1,h1s,h2,h3,h3d,h4,h5,h6,h7,h8⟩ hBe
  exact⟨x',xp',hBe.ext (by omega) h1,Nat.le_trans h1s hBe.size,hBe.cells h2,hBe.cells h3,hBe.cells h3d,h4.beside hBe,h5,hBe.mine h6,hBe.own h7,h8⟩
 ·exact⟨x,(none,0,0),hx06.mono (by simp),Nat.le_refl _,hl6,hn6,hd6,by simpa [zc1] using hB6,fun c hc=>.inl hc,.inl ⟨rfl,by simp [zlt]⟩,hcy6,Nat.zero_le _⟩
 ·rintro pre k W ⟨rfl,hk⟩ ⟨x',xp',h1,h1s,h2,h3,h3d,h4,h5,h6,h7,h8⟩ hsz beg kc kr kx hbeg
  refine hbeg W _ (.refl _ _) fun W2 hB2 hs2 hkc _ _=>?_
  have h1:=hB2.ext (show H.size<=w6.heap.size by omega) h1
  have h2:=hB2.cells h2
  have h3:=hB2.cells h3
  have h3d:=hB2.cells h3d
  have h4:=h4.beside hB2
  have h6:=hB2.mine h6
  have h7:=hB2.own h7
  have hH2:=h1.1
  generalize hk2:pre.length=k at *
  have x'lt:=h4.lt
  have lenk:(Ls++zc1 D k).length<=1073741824:=by simp [zc1];omega
  refine jm rfl fun w9 hw9=>?_
  have hx9:Ext [] W2.heap w9.heap:=by rw [hw9];exact .push _
  have hd9:w9.heap[W2.heap.size]?=some (.cells (zc P zf) zf (0,0)):=by rw [hw9];exact zk
  refine je (s:=.slc) (t:=x') rfl (hx9.get h2 (by simp)) rfl ?_
  refine qm (s:=.str) _ (zyc uS8 u8 z4r rfl (z1w (h7.ext hx9 (by simp)) hk) (by rw [zrx];unfold zue;simp only;omega)) ?_
  refine qm (s:=.any) (.agg (zcx (zr8 (znv D k)) (none,0,0) (none,0,0)).toArray) (bN1 _ _) ?_
  refine zl (z8b (n:=zr8 (znv D k)) rfl (h4.ext hx9 (by simp)) hB0 (by have:=hx9.1;omega) (.bare rfl rfl) (z2i hk) ((hS.ext h1 h0x).ext hx9 (by simp)) lenk (by have:=zyj (D:=D) (j:=k);unfold zfp at this;omega)) ?_
  rintro e w10 ⟨x2,rfl,hB10,hx10,hs10⟩
  refine⟨(x2,arr (Sha.sum (zfp D k))),rfl,?_⟩
  have hHx':∀ {m:Nat},H.size<=m->m < w6.heap.size->m∉jk x':=fun h h' hm=>by
   rcases h5 _ hm with h2 | h2
   ·have:=(hxlt _ h2).1;omega
   ·omega
  have hd2x':W2.heap.size∉jk x':=fun h=>by have:=(x'lt _ h).1;omega
  have hl10:=hx10.get (hx9.get h2 (by simp)) (hHx' (Nat.le_refl _) (by omega))
  refine zbd rfl hl10 (by simp) fun w11 hw11=>?_
  have hx11:Ext [H.size] w10.heap w11.heap:=by rw [hw11];exact Ext.set _ (by simp)
  have hl11:w11.heap[H.size]?=some (.cells #[zb2 x2] jq (0,0)):=by rw [hw11];exact qc hl10
  have hd11:=hx11.get (hx10.get hd9 hd2x') (by simp;omega)
  refine z4l zae rfl hd11 zcD fun w12 hw12=>?_
  have hx12:Ext [W2.heap.size] w11.heap w12.heap:=by rw [hw12];exact Ext.set _ (by simp)
  have hd12:w12.heap[W2.heap.size]?=some (.cells (byteCells (Sha.sum (zfp D k))).toArray zf (0,0)):=by rw [hw12];exact qc hd11
  have s9:=hx9.1
  have s10:=hx10.1
  have s11:=hx11.1
  have s12:=hx12.1
  have s09:W2.heap.size < w9.heap.size:=lt_of_get hd9
  have keep12:∀ {m:Nat}{o:Obj},m≠H.size->m≠W2.heap.size->m∉jk x'->W2.heap[m]?=some o->w12.heap[m]?=some o:=fun h1 h2 h3 h=>hx12.get (hx11.get (hx10.get (hx9.get h (by simp)) h3) (by simp [h1])) (by simp [h2])
  have hn12:=keep12 (by omega) (by omega) (hHx' (by omega) (by omega)) h3
  refine je (s:=.slc) (t:=xp') rfl hn12 rfl ?_
  refine qp rfl hd12 (by simp [zae]) ?_
  have hxp':=zbs h6
  have hB9:zcm w9.heap B x' (Ls++zc1 D k):=h4.ext hx9 (by simp)
  have ne1:∀ m∈jk xp',m∉jk x':=by
   obtain⟨ys,g1,_⟩:=h4
   exact zhz h6 g1 (by decide)
  have hm10:Mine w10.heap w6.heap.size zf 32 xp' ((zlt D k).flatMap Bl.zat):=(h6.ext hx9 (by simp)).ext hx10 ne1
  have hm12:Mine w12.heap w6.heap.size zf 32 xp' ((zlt D k).flatMap Bl.zat):=(hm10.ext hx11 (fun m hm h=>by have:=qx h6 m hm;simp at h;omega)).ext hx12 (fun m hm h=>by have:=(hxp' m hm).1;simp at h;omega)
  refine zuw rfl hm12 (by omega) zae (by rw [zj9];omega) fun xp2 w14 hm14 hx14 hs14=>?_
  have hn14:=hx14.get hn12 (fun h=>by have:=qx h6 _ h;omega)
  refine zbd rfl hn14 (by simp [zcx]) fun w15 hw15=>?_
  have hx15:Ext [w2.heap.size] w14.heap w15.heap:=by rw [hw15];exact Ext.set _ (by simp)
  have s14:=hx14.1
  have s15:=hx15.1
  have hxAll:Ext (H.size :: w2.heap.size :: W2.heap.size :: (jk x'++jk xp')) W2.heap w15.heap:=by
   refine (hx9.mono (by simp)).trans ((hx10.mono fun m hm=>?_).trans ((hx11.mono fun m hm=>?_).trans ((hx12.mono fun m hm=>?_).trans ((hx14.mono fun m hm=>?_).trans (hx15.mono fun m hm=>?_)))))
   ·simp [hm]
   ·simp at hm;simp [hm]
   ·simp at hm;simp [hm]
   ·simp [hm]
   ·simp at hm;simp [hm]
  have hxA:Ext (H.size :: w2.heap.size :: (jk x'++jk xp')) W2.heap w15.heap:=⟨hxAll.1,fun m hm hn=>hxAll.2 m hm fun h=>hn (by simp at h |-;rcases h with h | h | h | h <;> first | (exact .inl h) | (exact .inr (.inl h)) | omega | (exact .inr (.inr h)))⟩
  have hK:Keep (H.size :: w2.heap.size :: jk x) w6.heap.size W2.heap w15.heap:=by
   refine .of hxA (fun m hm=>?_) (fun m hm=>?_)
   ·simp only [List.mem_cons,List.mem_append] at hm
    rcases hm with rfl | rfl | hm | hm
    ·left;simp
    ·left;simp
    ·rcases h5 m hm with h | h
     ·left;simp [h]
     ·right;exact⟨h,(x'lt m hm).2⟩
    ·right;exact⟨qx h6 m hm,(hxp' m hm).2⟩
   ·simp only [List.mem_cons] at hm
    rcases hm with rfl | rfl | hm
    ·omega
    ·omega
    ·have:=(hxlt m hm).1;omega
  have hB15:zcm w15.heap B x2 ((Ls++zc1 D k)++[zfp D k]):=by
   obtain⟨ys,g1,g2,g3⟩:=hB10
   have stay:∀ {T:TypeId}{x:Option Addr×Nat×Nat}{vs:List Value},Mine w10.heap B T 1 x vs->T≠jq->T≠zf->T≠zh->Mine w15.heap B T 1 x vs:=by
    intro T x vs hm n1 n2 n3
    have a1:=hm.ext hx11 (fun m hm1 h=>by
     simp at h;subst h
     rcases hm with⟨rfl,_⟩ | ⟨b1,c1,hx1,_,hg1,_⟩
     ·simp [jk] at hm1
     ·simp [jk,hx1] at hm1;subst hm1
      rw [hl10] at hg1
      simp only [Option.some.injEq,Obj.cells.injEq] at hg1
      exact n1 hg1.2.1.symm)
    have a2:=a1.ext hx12 (fun m hm1 h=>by
     simp at h;subst h
     rcases a1 with⟨rfl,_⟩ | ⟨b1,c1,hx1,_,hg1,_⟩
     ·simp [jk] at hm1
     ·simp [jk,hx1] at hm1;subst hm1
      rw [hd11] at hg1
      simp only [Option.some.injEq,Obj.cells.injEq] at hg1
      exact n2 hg1.2.1.symm)
    have a3:=a2.ext hx14 (zhz a2 hm12 n2)
    exact a3.ext hx15 (fun m hm1 h=>by
     simp at h;subst h
     rcases a3 with⟨rfl,_⟩ | ⟨b1,c1,hx1,_,hg1,_⟩
     ·simp [jk] at hm1
     ·simp [jk,hx1] at hm1;subst hm1
      rw [hn14] at hg1
      simp only [Option.some.injEq,Obj.cells.injEq] at hg1
      exact n3 hg1.2.1.symm)
   exact⟨ys,stay g1 (by decide) (by decide) (by decide),g2,fun z hz=>⟨stay (g3 z hz).1 (by decide) (by decide) (by decide),(g3 z hz).2⟩⟩
  refine hkc w15 hK ⟨x2,xp2,?_,by omega,?_,?_,?_,?_,fun m hm=>?_,?_,?_,by simp;omega⟩
  ·exact hK.ext h1 (by omega) (fun m hm h=>by
    simp only [List.mem_cons] at h
    rcases h with rfl | rfl | h
    ·omega
    ·omega
    ·exact h)
  ·exact hx15.get (hx14.get (hx12.get hl11 (by simp;omega)) (fun h=>by have:=qx h6 _ h;omega)) (by simp;omega)
  ·rw [hw15,List.length_append,List.length_singleton,hk2]
   exact qc hn14
  ·exact hx15.get (hx14.get (keep12 (by omega) (by omega) (hHx' (by omega) (by omega)) h3d) (fun h=>by have:=qx h6 _ h;omega)) (by simp;omega)
  ·rw [List.length_append,List.length_singleton,hk2,zuz,<-List.append_assoc]
   exact hB15
  ·rcases hs10 m hm with h | h
   ·exact h5 m h
   ·right;omega
  ·rw [List.length_append,List.length_singleton,hk2,z2p]
   exact hm14.ext hx15 (fun m hm h=>by
    simp at h;subst h
    have:=qx hm14 _ hm;omega)
  ·refine h7.ext hxA fun a ha _ h=>?_
   have hab:a.block=w4.heap.size:=by simpa [jk,ha] using hyo
   simp only [List.mem_cons,List.mem_append,hab] at h
   rcases h with h | h | h | h
   ·omega
   ·omega
   ·exact hHx' (by omega) (by omega) h
   ·have:=qx h6 _ h;omega
 ·rintro xs W rfl ⟨x',xp',h1,h1s,h2,h3,h3d,h4,h5,h6,h7,h8⟩ hDf
  simp only [List.length_range] at h3 h4 h6
  refine je (s:=.slc) (t:=x') rfl h2 rfl ?_
  refine qp rfl h3 rfl ?_
  have hlp:xp'.2.1=npc D:=by
   have:=h6.len
   rw [zq Bl.zat Bl.zab,zj9] at this
   omega
  have hNW:NodW W.heap (zgt D (npc D)) xp' (none,0,0):=⟨h6.cells,by rw [hlp];exact zj9.symm,.inl rfl,rfl,zz9,by simp [zgt]⟩
  have lenk:(Ls++zc1 D (npc D)).length<=1073741824:=by simp [zc1];omega
  have hH2:=h1.1
  refine zl (z8b (n:=zgt D (npc D)) rfl h4 hB0 (by omega) hNW (z6j hD) (hS.ext h1 h0x) lenk (by have:=z1y (D:=D) (k:=npc D) (by omega);omega)) ?_
  rintro e w17 ⟨x2,rfl,hB17,hx17,hs17⟩
  refine⟨(x2,arr (zil D)),rfl,?_⟩
  have x'lt:=h4.lt
  have hHx':∀ {m:Nat},H.size<=m->m < w6.heap.size->m∉jk x':=fun h h' hm=>by
   rcases h5 _ hm with h2 | h2
   ·have:=(hxlt _ h2).1;omega
   ·omega
  have hd17:=hx17.get h3d (hHx' (by omega) (by omega))
  refine z4l zae rfl hd17 zcD fun w18 hw18=>?_
  have hx18:Ext [w1.heap.size] w17.heap w18.heap:=by rw [hw18];exact Ext.set _ (by simp)
  have hd18:w18.heap[w1.heap.size]?=some (.cells (byteCells (zil D)).toArray zf (0,0)):=by rw [hw18];exact qc hd17
  have hDx:w6.heap.size∉jk x':=fun h=>by
   obtain⟨_,c',T',fr',hc'⟩:=x'lt _ h
   rw [hDf] at hc';cases hc'
  have hD18:w18.heap[w6.heap.size]?=some (.deferred (some [])):=hx18.get (hx17.get hDf hDx) (by simp;omega)
  refine⟨hD18,fun w19 hw19=>?_⟩
  have hBs19:Beside w6.heap.size w18 w19:=by rw [hw19];exact .put (Nat.le_refl _) hD18 (by intro _ _ _ h;cases h)
  refine qp rfl (hBs19.cells hd18) (by simp [zil,zae]) ?_
  have hB18:zcm w18.heap B x2 ((Ls++zc1 D (npc D))++[zgk (zgt D (npc D))]):=by
   obtain⟨ys,g1,g2,g3⟩:=hB17
   have stay:∀ {T:TypeId}{x:Option Addr×Nat×Nat}{vs:List Value},Mine w17.heap B T 1 x vs->T≠zf->Mine w18.heap B T 1 x vs:=by
    intro T x vs hm n2
    exact hm.ext hx18 (fun m hm1 h=>by
     simp at h;subst h
     rcases hm with⟨rfl,_⟩ | ⟨b1,c1,hx1,_,hg1,_⟩
     ·simp [jk] at hm1
     ·simp [jk,hx1] at hm1;subst hm1
      rw [hd17] at hg1
      simp only [Option.some.injEq,Obj.cells.injEq] at hg1
      exact n2 hg1.2.1.symm)
   exact⟨ys,stay g1 (by decide),g2,fun z hz=>⟨stay (g3 z hz).1 (by decide),(g3 z hz).2⟩⟩
  refine⟨x2,rfl,?_,?_,fun m hm=>?_⟩
  ·have:=hB18.beside hBs19
   rw [List.append_assoc] at this
   exact this
  ·have hx0:Ext (jk x) H w17.heap:=h1.own hx17 (fun m hm hlt=>by
    rcases h5 m hm with h | h
    ·exact h
    ·omega)
   have hx0':Ext (jk x) H w18.heap:=hx0.own hx18 (fun m hm hlt=>by simp at hm;omega)
   exact hBs19.ext (by omega) hx0'
  ·rcases hs17 m hm with h | h
   ·rcases h5 m h with h | h
    ·exact .inl h
    ·right;omega
   ·right;omega
theorem zcm.keep {H H':Heap}{B:Nat}{x:Option Addr×Nat×Nat}{Ls:List (List UInt8)}{M:List Nat}(h:zcm H B x Ls) (hx:Ext M H H') (hM:∀ m∈M,∀ c T fr,H[m]?=some (.cells c T fr)->T≠zi/\T≠qw):zcm H' B x Ls:=by
 obtain⟨ys,g1,g2,g3⟩:=h
 have stay:∀ {T:TypeId}{x:Option Addr×Nat×Nat}{vs:List Value},Mine H B T 1 x vs->(T=zi\/T=qw)->Mine H' B T 1 x vs:=by
  intro T x vs hm hT
  exact hm.ext hx (fun m hm1 h=>by
   rcases hm with⟨rfl,_⟩ | ⟨b1,c1,hx1,_,hg1,_⟩
   ·simp [jk] at hm1
   ·simp [jk,hx1] at hm1;subst hm1
    have:=hM _ h _ _ _ hg1
    rcases hT with rfl | rfl
    ·exact this.1 rfl
    ·exact this.2 rfl)
 exact⟨ys,stay g1 (.inl rfl),g2,fun z hz=>⟨stay (g3 z hz).1 (.inr rfl),(g3 z hz).2⟩⟩
theorem zua {w:World}{H:Heap}{B:Nat}{x:Option Addr×Nat×Nat}{ds:List (List UInt8)}{k:List UInt8}{Q:World->Prop}(hw:w.heap=H) (hm:Mine H B zf 32 x (ds.flatMap Bl.zat)) (hBs:B<=H.size) (hk:k.length=32) (hlen:ds.length<=1073741824) (hQ:∀ w',Ext [] H w'.heap->Q w'){K:(Option Addr×Nat×Nat)->World->Prop}
  (hK:∀ x' w',Mine w'.heap B zf 32 x' ((ds++[k]).flatMap Bl.zat)->Ext (jk x) H w'.heap->(∀ c∈jk x',c∈jk x\/H.size<=c)->K x' w') :
  zaw P (Instr.buildSlice zo 1 #[(0,arr k)]) .slc w fun (t27:(Option Addr×Nat×Nat)) w_13=>Q w_13 /\
  zaw P (Builtin.append_ #[zo,zo] zo #[(Value.slice x.1 x.2.1 x.2.2),(Value.slice t27.1 t27.2.1 t27.2.2)]) .slc w_13 K:=by
 have hlx:x.2.1=ds.length:=by
  have:=hm.len
  rw [zq Bl.zat Bl.zab] at this
  omega
 have hc1:(arr k).cells=(Bl.zat k).toArray:=by rw [Bl.za7 hk];rfl
 refine zah (s:=.slc) (some ⟨w.heap.size,0,none⟩,1,1) _ (zen ED Bl.z6n (v:=arr k) (by rw [Bl.xq,hk]) (by omega) (by omega)) ?_
 subst hw
 have hxp:Ext [] w.heap (w.heap.push (.cells (arr k).cells zf)):=.push _
 refine⟨hQ _ hxp,?_⟩
 refine zcj (bts:=32) (n:=1) (us:=Bl.zat k) (H:=w.heap.push (.cells (arr k).cells zf)) ED (by omega) Bl.z6n (zbg Bl.z6n) rfl (hm.ext hxp (by simp)) (by simp;omega)
  (Src.slc rfl (.inr ⟨w.heap.size,0,_,_,_,rfl,zk,by rw [hc1];simp,by rw [hc1,Nat.zero_add];simp⟩) (by rw [Bl.zab])) Bl.zi4 (by omega) ?_
 intro x' w4 hm4 hl4 hx4 hs4
 refine hK x' w4 (by rw [List.flatMap_append,List.flatMap_singleton];exact hm4) ((hxp.mono (by simp)).trans hx4) (fun c hc=>?_)
 rcases hs4 c hc with h | h
 ·exact .inl h
 ·right;have:=hxp.1;omega
open Go.Sort
structure Fil where
 path:List UInt8
 dir:Bool
 data:List UInt8
deriving DecidableEq,Inhabited
def zol (f:Fil):List Value:=[.string (strOf f.path),.bool f.dir,.string (strOf f.data)]
theorem z5f (f:Fil):(zol f).length=3:=rfl
theorem qbl {f:Fil}:zcl (zol f):=by
 intro v hv
 simp only [zol,List.mem_cons,List.not_mem_nil,or_false] at hv
 rcases hv with rfl | rfl | rfl <;> rfl
def nm (f:Fil):Path:=(zdz f.path).1
theorem znu (f:Fil):okP (nm f):=qcb f.path
def clean (f:Fil):Fil:=⟨za3 (nm f),f.dir,f.data⟩
theorem z4w {f:Fil}:nm (clean f)=nm f:=by unfold nm clean;rw [zrv (znu f)];rfl
def z7w:List Fil->Fil->List Fil
 | [],f=>[f]
 | g :: L,f=>if zg9 (nm g) (nm f) < 0 then g :: z7w L f else f :: g :: L
def zq8 (L:List Fil):List Fil:=L.foldl z7w []
def zpj (L:List Fil):Prop:=L.Pairwise fun a b=>zg9 (nm a) (nm b) < 0
theorem zu3:∀ (L:List Fil) (f:Fil),(z7w L f).Perm (f :: L)
 | [],f=>.refl _
 | g :: L,f=>by
  unfold z7w
  split
  ·exact ((zu3 L f).cons g).trans (.swap f g L)
  ·exact .refl _
theorem z0m:∀ {L:List Fil}{f:Fil},zpj L->(∀ g∈L,nm g≠nm f)->zpj (z7w L f)
 | [],f,_,_=>by simp [z7w,zpj]
 | g :: L,f,h,hn=>by
  obtain⟨h1,h2⟩:=List.pairwise_cons.1 h
  unfold z7w
  split
  ·rename_i hlt
   refine List.pairwise_cons.2 ⟨fun x hx=>?_,z0m h2 fun y hy=>hn y (by simp [hy])⟩
   rcases List.mem_cons.1 ((zu3 L f).mem_iff.1 hx) with rfl | hx
   ·exact hlt
   ·exact h1 x hx
  ·rename_i hge
   have hgt:zg9 (nm f) (nm g) < 0:=by
    have h3:=zkw (p:=nm f) (q:=nm g)
    have h4:zg9 (nm g) (nm f)≠0:=fun e=>hn g (by simp) (zop.1 e)
    omega
   refine List.pairwise_cons.2 ⟨fun x hx=>?_,h⟩
   rcases List.mem_cons.1 hx with rfl | hx
   ·exact hgt
   ·exact znn hgt (h1 x hx)
theorem z0j:∀ (L A:List Fil),zpj A->((A++L).map nm).Nodup->(L.foldl z7w A).Perm (A++L)/\zpj (L.foldl z7w A)
 | [],A,hA,_=>by simp [hA]
 | f :: L,A,hA,hn=>by
  have hfA:∀ g∈A,nm g≠nm f:=by
   intro g hg e
   rw [List.map_append,List.nodup_append] at hn
   exact hn.2.2 _ (List.mem_map.2 ⟨g,hg,rfl⟩) _ (List.mem_map.2 ⟨f,by simp,rfl⟩) e
  have hp:=zu3 A f
  have h1:(z7w A f++L).Perm (A++f :: L):=(hp.append_right L).trans (List.perm_middle (a:=f) (l₁:=A) (l₂:=L)).symm
  obtain⟨g1,g2⟩:=z0j L (z7w A f) (z0m hA hfA) ((h1.map nm).nodup_iff.2 hn)
  exact⟨g1.trans h1,g2⟩
theorem zkb {L:List Fil}(hn:(L.map nm).Nodup):(zq8 L).Perm L/\zpj (zq8 L):=by
 have:=z0j L [] List.Pairwise.nil (by simpa using hn)
 simpa [zq8] using this
theorem z06:∀ {A B:List Fil},zpj A->zpj B->A.Perm B->A=B
 | [],B,_,_,hp=>by rw [hp.nil_eq]
 | a :: A,[],_,_,hp=>by have:=hp.length_eq;simp at this
 | a :: A,b :: B,hA,hB,hp=>by
  obtain⟨a1,a2⟩:=List.pairwise_cons.1 hA
  obtain⟨b1,b2⟩:=List.pairwise_cons.1 hB
  have hab:a=b:=by
   rcases List.mem_cons.1 (hp.mem_iff.1 (List.mem_cons_self (a:=a) (l:=A))) with h | h
   ·exact h
   ·rcases List.mem_cons.1 (hp.mem_iff.2 (List.mem_cons_self (a:=b) (l:=B))) with h' | h'
    ·exact h'.symm
    ·have h3:=b1 a h
     have h4:=a1 b h'
     have h5:=zkw (p:=nm a) (q:=nm b)
     omega
  subst hab
  rw [z06 a2 b2 ((List.perm_cons a).1 hp)]
def qh4 (p:Path) (f:Fil):Bool:=decide (nm f≠[]/\(nm f).dropLast=p)
def kids (S:List Fil) (p:Path):List Fil:=S.filter (qh4 p)
def zh8 (p:Path):List UInt8:=p.getLast?.getD []
def zf9 (T:List Itm):Nod:=⟨3,[],0,[],T⟩
def zld (rec:Path->List (List UInt8)×List UInt8) (acc:List (List UInt8)×List Itm) (f:Fil):List (List UInt8)×List Itm:=
 if f.dir then (acc.1++(rec (nm f)).1,acc.2++[⟨zh8 (nm f),3,(rec (nm f)).2⟩]) else (acc.1++zhi f.data,acc.2++[⟨zh8 (nm f),2,zil f.data⟩])
def zaz (rec:Path->List (List UInt8)×List UInt8) (K:List Fil):List (List UInt8)×List Itm:=K.foldl (zld rec) ([],[])
def zfs (S:List Fil):Nat->Path->List (List UInt8)×List UInt8
 | 0,_=>([],[])
 | n+1,p=>((zaz (zfs S n) (kids S p)).1++[zgk (zf9 (zaz (zfs S n) (kids S p)).2)],Sha.sum (zgk (zf9 (zaz (zfs S n) (kids S p)).2)))
theorem zz5 {rec:Path->List (List UInt8)×List UInt8}{K:List Fil}{f:Fil}:zaz rec (K++[f])=zld rec (zaz rec K) f:=by simp [zaz]
theorem z6o {S:List Fil}{p:Path}:kids (S.map clean) p=(kids S p).map clean:=by
 unfold kids
 rw [List.filter_map]
 congr 1
 apply List.filter_congr
 intro f _
 simp [qh4,z4w]
theorem zyw {rec:Path->List (List UInt8)×List UInt8}{K:List Fil}:zaz rec (K.map clean)=zaz rec K:=by
 unfold zaz
 rw [List.foldl_map]
 congr 1
 funext acc f
 simp only [zld,z4w]
 rfl
theorem z6r {S:List Fil}:∀ (n:Nat) (p:Path),zfs (S.map clean) n p=zfs S n p
 | 0,_=>rfl
 | n+1,p=>by
  have:zfs (S.map clean) n=zfs S n:=funext (z6r n)
  simp only [zfs,z6o,zyw,this]
def zkp (rec:Path->List (List UInt8)×List UInt8) (f:Fil):Itm:=if f.dir then ⟨zh8 (nm f),3,(rec (nm f)).2⟩ else ⟨zh8 (nm f),2,zil f.data⟩
def zmc (rec:Path->List (List UInt8)×List UInt8) (f:Fil):List (List UInt8):=if f.dir then (rec (nm f)).1 else zhi f.data
theorem zx2 {rec:Path->List (List UInt8)×List UInt8}:∀ (K:List Fil) (acc:List (List UInt8)×List Itm),K.foldl (zld rec) acc=(acc.1++(K.map (zmc rec)).flatten,acc.2++K.map (zkp rec))
 | [],acc=>by simp
 | f :: K,acc=>by
  rw [List.foldl_cons,zx2 K]
  unfold zld zkp zmc
  split <;> simp_all
theorem zhj {rec:Path->List (List UInt8)×List UInt8}{K:List Fil}:(zaz rec K).2=K.map (zkp rec):=by
 unfold zaz;rw [zx2];simp
theorem zm1 {rec:Path->List (List UInt8)×List UInt8}{K:List Fil}:(zaz rec K).1=(K.map (zmc rec)).flatten:=by
 unfold zaz;rw [zx2];simp
theorem zri {f:Fil}(h:nm f≠[]):nm f=(nm f).dropLast++[zh8 (nm f)]:=by
 unfold zh8
 rw [List.getLast?_eq_some_getLast h]
 exact (List.dropLast_concat_getLast h).symm
theorem z8u {p:Path}{a b:List UInt8}:zg9 (p++[a]) (p++[b])=Lib.compareBytes a b:=by
 rw [ztz (i:=p.length) (by simp) (by simp) (by simp)]
 simp only [List.drop_left]
 unfold zg9
 have hr:=zg7 (a:=a) (b:=b)
 split
 ·rfl
 ·rename_i h
  have h:Lib.compareBytes a b=0:=by simpa using h
  rw [h];rfl
theorem zh7 {S:List Fil}{p:Path}{f:Fil}(h:f∈kids S p):f∈S/\nm f≠[]/\(nm f).dropLast=p:=by
 obtain⟨h1,h2⟩:=List.mem_filter.1 h
 exact⟨h1,by simpa [qh4] using h2⟩
theorem qag {S:List Fil}(h:zpj S){p:Path}:(kids S p).Pairwise fun a b=>Lib.compareBytes (zh8 (nm a)) (zh8 (nm b)) < 0:=by
 have h1:(kids S p).Pairwise fun a b=>zg9 (nm a) (nm b) < 0:=h.sublist List.filter_sublist
 refine h1.imp_of_mem fun {a b} ha hb hab=>?_
 obtain⟨_,a1,a2⟩:=zh7 ha
 obtain⟨_,b1,b2⟩:=zh7 hb
 rw [zri a1,zri b1,a2,b2,z8u] at hab
 exact hab
theorem z2o {f:Fil}(h:nm f≠[]):zc0 (zh8 (nm f))=true:=by
 have:=(znu f).1
 refine this _ ?_
 unfold zh8
 rw [List.getLast?_eq_some_getLast h]
 exact List.getLast_mem h
theorem zwz {rec:Path->List (List UInt8)×List UInt8}:∀ {K:List Fil}{last:List UInt8},(K.Pairwise fun a b=>Lib.compareBytes (zh8 (nm a)) (zh8 (nm b)) < 0)->(∀ f∈K,nm f≠[])->(∀ f,K.head?=some f->Lib.compareBytes last (zh8 (nm f)) < 0)->ze6 last (K.map (zkp rec))=true
 | [],_,_,_,_=>rfl
 | f :: K,last,h,hn,hl=>by
  obtain⟨h1,h2⟩:=List.pairwise_cons.1 h
  have hi:(zkp rec f).name=zh8 (nm f)/\((zkp rec f).kind=2\/(zkp rec f).kind=3):=by
   unfold zkp
   split
   ·exact⟨rfl,.inr rfl⟩
   ·exact⟨rfl,.inl rfl⟩
  rw [List.map_cons,ze6,hi.1]
  have ih:=zwz (rec:=rec) (K:=K) (last:=zh8 (nm f)) h2 (fun g hg=>hn g (by simp [hg])) (fun g hg=>h1 g (List.mem_of_mem_head? hg))
  simp only [Bool.and_eq_true,decide_eq_true_eq,Bool.or_eq_true]
  exact⟨⟨⟨hl f rfl,z2o (hn f (by simp))⟩,hi.2⟩,ih⟩
theorem z7y {S:List Fil}(h:zpj S){p:Path}{rec:Path->List (List UInt8)×List UInt8}(hm:(kids S p).length<=64):zau (zf9 ((kids S p).map (zkp rec)))=true:=by
 unfold zau zf9
 rw [if_neg (show ¬((3:Int)=1) by decide),if_neg (show ¬((3:Int)=2) by decide),if_pos rfl]
 simp only [List.length_nil,and_self,decide_true,Bool.true_and,zhy,Bool.and_eq_true,decide_eq_true_eq,List.length_map]
 refine⟨zwz (qag h) (fun f hf=>(zh7 hf).2.1) fun f hf=>?_,hm⟩
 have:=zd4.1 (z2o (zh7 (List.mem_of_mem_head? hf)).2.1)
 cases hl:zh8 (nm f) with
 | nil=>exact absurd hl this.1.1
 | cons a b=>simp [Lib.compareBytes]
theorem zmg {S:List Fil}{n:Nat}{p:Path}:(zfs S (n+1) p).2.length=32:=zae
def wt (S:List Fil) (p:Path):Nat:=(S.filter fun f=>zeh (nm f) p).length
theorem zvt {p:Path}:zeh p p=true:=within_iff.2 ⟨Nat.le_refl _,by simp⟩
theorem zj2 {S:List Fil}{p:Fil->Bool}:((S.map fun f=>if p f then 1 else 0).sum)=(S.filter p).length:=by
 induction S with
 | nil=>rfl
 | cons f S ih=>
  rw [List.map_cons,List.sum_cons,ih,List.filter_cons]
  split <;> simp_all <;> omega
theorem qbt {α β:Type}(A:List α) (B:List β) (g:α->β->Nat):(A.map fun a=>(B.map fun b=>g a b).sum).sum=(B.map fun b=>(A.map fun a=>g a b).sum).sum:=by
 induction A with
 | nil=>induction B with
  | nil=>rfl
  | cons b B ih=>simpa using ih
 | cons a A ih=>
  rw [List.map_cons,List.sum_cons,ih]
  clear ih
  induction B with
  | nil=>simp
  | cons b B ih2=>
   simp only [List.map_cons,List.sum_cons] at *
   omega
theorem qdo {α:Type}{g g':α->Nat}:∀ {S:List α},(∀ f∈S,g f<=g' f)->(S.map g).sum<=(S.map g').sum
 | [],_=>by simp
 | f :: S,h=>by
  have h1:=h f (by simp)
  have h2:=qdo (S:=S) fun x hx=>h x (by simp [hx])
  simp only [List.map_cons,List.sum_cons]
  omega
theorem qev {S:List Fil}(h:zpj S){p:Path}:((kids S p).map fun e=>wt S (nm e)).sum<=(S.filter fun f=>zeh (nm f) p&&decide (p.length < (nm f).length)).length:=by
 have e1:((kids S p).map fun e=>wt S (nm e))=(kids S p).map fun e=>(S.map fun f=>if zeh (nm f) (nm e) then 1 else 0).sum:=by
  apply List.map_congr_left
  intro e _
  rw [zj2];rfl
 rw [e1,qbt,<-zj2]
 have key:∀ f∈S,((kids S p).map fun e=>if zeh (nm f) (nm e) then 1 else 0).sum<=(if zeh (nm f) p&&decide (p.length < (nm f).length) then 1 else 0):=by
  intro f _
  rw [zj2]
  have huniq:∀ {e},e∈kids S p->zeh (nm f) (nm e)=true->nm e=(nm f).take (p.length+1)/\p.length+1<=(nm f).length/\(nm f).take p.length=p:=by
   intro e he hw
   obtain⟨_,e1,e2⟩:=zh7 he
   obtain⟨w1,w2⟩:=within_iff.1 hw
   have hl:(nm e).length=p.length+1:=by
    have:=congrArg List.length (zri e1)
    rw [e2] at this;simpa using this
   refine⟨by rw [<-hl,w2],by omega,?_⟩
   have:=congrArg (List.take p.length) w2
   rw [List.take_take,Nat.min_eq_left (by omega)] at this
   rw [this,zri e1,e2]
   simp
  have hle:((kids S p).filter fun e=>zeh (nm f) (nm e)).length<=1:=by
   have hr:((kids S p).filter fun e=>zeh (nm f) (nm e)).Pairwise fun a b=>zg9 (nm a) (nm b) < 0:=(h.sublist List.filter_sublist).sublist List.filter_sublist
   match hm:(kids S p).filter fun e=>zeh (nm f) (nm e) with
   | []=>simp
   | [_]=>simp
   | a :: b :: r=>
    exfalso
    rw [hm] at hr
    have hab:=(List.pairwise_cons.1 hr).1 b (by simp)
    have ha:a∈(kids S p).filter fun e=>zeh (nm f) (nm e):=by rw [hm];simp
    have hb:b∈(kids S p).filter fun e=>zeh (nm f) (nm e):=by rw [hm];simp
    obtain⟨a1,a2⟩:=List.mem_filter.1 ha
    obtain⟨b1,b2⟩:=List.mem_filter.1 hb
    rw [(huniq a1 a2).1,(huniq b1 b2).1,zop.2 rfl] at hab
    omega
  split
  ·exact hle
  ·rename_i hno
   rw [Nat.le_zero,List.length_eq_zero_iff,List.filter_eq_nil_iff]
   intro e he hw
   obtain⟨u1,u2,u3⟩:=huniq he hw
   apply hno
   simp only [Bool.and_eq_true,decide_eq_true_eq]
   exact⟨within_iff.2 ⟨by omega,u3⟩,by omega⟩
 exact qdo key
theorem zx8 {D:List UInt8}(h:D.length<=1024):(zhi D).length<=17:=by
 simp [zhi,zc1,npc];omega
theorem z4x {S:List Fil}(h:zpj S) (hd:∀ f∈S,f.data.length<=1024):∀ (n:Nat) (p:Path),(zfs S n p).1.length<=1+18 * (S.filter fun f=>zeh (nm f) p&&decide (p.length < (nm f).length)).length
 | 0,p=>by simp [zfs]
 | n+1,p=>by
  have h1:=qev h (p:=p)
  have ih:=z4x h hd n
  have key:∀ K:List Fil,(∀ e∈K,e∈S)->((K.map (zmc (zfs S n))).flatten).length<=18 * (K.map fun e=>wt S (nm e)).sum:=by
   intro K
   induction K with
   | nil=>intro _;simp
   | cons e K ihK=>
    intro hK
    have h2:=ihK fun x hx=>hK x (by simp [hx])
    have heS:=hK e (by simp)
    have h3:(zmc (zfs S n) e).length<=18 * wt S (nm e):=by
     have hpos:1<=wt S (nm e):=List.length_pos_iff.2 (List.ne_nil_of_mem (List.mem_filter.2 ⟨heS,zvt⟩))
     unfold zmc
     split
     ·have h4:=ih (nm e)
      have h5:(S.filter fun f=>zeh (nm f) (nm e)&&decide ((nm e).length < (nm f).length)).length+1<=wt S (nm e):=by
       unfold wt
       have:(S.filter fun f=>zeh (nm f) (nm e)&&decide ((nm e).length < (nm f).length))=(S.filter fun f=>zeh (nm f) (nm e)).filter fun f=>decide ((nm e).length < (nm f).length):=by
        rw [List.filter_filter]
        congr 1
        funext f
        rw [Bool.and_comm]
       rw [this]
       refine List.length_filter_lt_length_iff_exists.2 ⟨e,List.mem_filter.2 ⟨heS,zvt⟩,by simp⟩
      omega
     ·have:=zx8 (hd e heS)
      omega
    simp only [List.map_cons,List.flatten_cons,List.length_append,List.sum_cons]
    omega
  have h6:=key (kids S p) fun e he=>(zh7 he).1
  rw [zfs,zm1]
  simp only [List.length_append,List.length_singleton]
  omega
theorem uST:P.underlying xg=some (.slice zu):=by kernel_rfl
theorem bT2 (s:ByteArray) (w:World):(Instr.build zu #[(0,.string s),(1,.int .i64 2)]).run P w=.ok (.agg ([Value.string s,Value.int .i64 2]++byteCells (List.replicate 32 0)).toArray) w:=by kernel_rfl
theorem ET:Elem P zu 34 56:=zmm (z:=.agg ([Value.string .empty,Value.int .i64 0]++byteCells (List.replicate 32 0)).toArray) (by kernel_rfl) rfl
theorem zre {w:World}{H:Heap}{B:Nat}{x:Option Addr×Nat×Nat}{T:List Itm}{i:Itm}(hw:w.heap=H) (hm:Mine H B zu 34 x (T.flatMap zb0)) (hBs:B<=H.size) (hlen:T.length<=1073741824){K:(Option Addr×Nat×Nat)->World->Prop}
  (hK:∀ x' w',Mine w'.heap B zu 34 x' ((T++[i]).flatMap zb0)->Ext (jk x) H w'.heap->(∀ c∈jk x',c∈jk x\/H.size<=c)->K x' w') :
  zaw P (Instr.buildSlice xg 1 #[(0,.agg (zb0 i).toArray)]) .slc w fun (t27:(Option Addr×Nat×Nat)) w_13=>
  zaw P (Builtin.append_ #[xg,xg] xg #[(Value.slice x.1 x.2.1 x.2.2),(Value.slice t27.1 t27.2.1 t27.2.2)]) .slc w_13 K:=by
 have hlx:x.2.1=T.length:=by
  have:=hm.len
  rw [zq zb0 zac] at this
  omega
 refine zah (s:=.slc) (some ⟨w.heap.size,0,none⟩,1,1) _ (zen ET uST (v:=.agg (zb0 i).toArray) (by simp [Value.cells,zac]) (by omega) (by omega)) ?_
 subst hw
 have hxp:Ext [] w.heap (w.heap.push (.cells (Value.agg (zb0 i).toArray).cells zu)):=.push _
 refine zcj (bts:=56) (n:=1) (us:=zb0 i) (H:=w.heap.push (.cells (Value.agg (zb0 i).toArray).cells zu)) ET (by omega) uST (zbg uST) rfl (hm.ext hxp (by simp)) (by simp;omega)
  (Src.slc rfl (.inr ⟨w.heap.size,0,_,_,_,rfl,zk,by simp [zft],by simp [zft,List.take_of_length_le]⟩) (by rw [zac])) ztm (by omega) ?_
 intro x' w4 hm4 hl4 hx4 hs4
 refine hK x' w4 (by rw [List.flatMap_append,List.flatMap_singleton];exact hm4) ((hxp.mono (by simp)).trans hx4) (fun c hc=>?_)
 rcases hs4 c hc with h | h
 ·exact .inl h
 ·right;have:=hxp.1;omega
theorem qbo {n s:List UInt8}{k k':Int}:(zb0 ⟨n,k,s⟩).toArray.setIfInBounds 1 (.int .i64 k')=(zb0 ⟨n,k',s⟩).toArray:=by
 simp [zb0]
theorem z8n {n s s':List UInt8}{k:Int}(hs':s'.length=32):setCells (zb0 ⟨n,k,s⟩).toArray 2 (byteCells s')=(zb0 ⟨n,k,s'⟩).toArray:=by
 apply Array.ext_getElem?
 intro i
 rw [zdc (by simp [zac,hs'])]
 simp only [jl,hs']
 by_cases h:2<=i/\i < 2+32
 ·rw [if_pos h]
  obtain⟨j,rfl⟩:∃ j,i=j+2:=⟨i-2,by omega⟩
  simp only [List.getElem?_toArray,zb0,Bl.za7 hs',List.getElem?_cons_succ,Nat.add_sub_cancel]
 ·rw [if_neg h]
  simp only [List.getElem?_toArray]
  by_cases h2:i < 2
  ·match i,h2 with
   | 0,_=>rfl
   | 1,_=>rfl
  ·rw [List.getElem?_eq_none (by rw [zac];omega),List.getElem?_eq_none (by rw [zac];omega)]
theorem z7t {rec:Path->List (List UInt8)×List UInt8}{K:List Fil}:(zaz rec K).2.length=K.length:=by rw [zhj];simp
theorem qgk {S:List Fil}{p:Path}{n:Nat}(hn:p.length+(n+1)=9){K:List Fil}(hK:∀ f∈K,nm f≠[]/\(nm f).dropLast=p):∀ i∈(zaz (zfs S n) K).2,i.sum.length=32:=by
 rw [zhj]
 intro i hi
 obtain⟨f,hf,rfl⟩:=List.mem_map.1 hi
 obtain⟨h1,h2⟩:=hK f hf
 unfold zkp
 split
 ·have h8:=(znu f).2
  have hl:(nm f).length=p.length+1:=by
   have:=congrArg List.length (zri h1)
   rw [h2] at this;simpa using this
  obtain⟨m,rfl⟩:∃ m,n=m+1:=⟨n-1,by omega⟩
  exact zmg
 ·exact zae
theorem z9c {rec:Path->List (List UInt8)×List UInt8}{K:List Fil}(hK:∀ f∈K,nm f≠[]) (hl:K.length<=65536):SmallN (zf9 (zaz rec K).2):=by
 refine⟨by simp [zf9],by simp [zf9],by simp only [zf9];rw [z7t];exact hl,?_⟩
 simp only [zf9]
 rw [zhj]
 intro i hi
 obtain⟨f,hf,rfl⟩:=List.mem_map.1 hi
 have:=(zd4.1 (z2o (hK f hf))).1.2.1
 unfold zkp
 split <;> (simp only;omega)
theorem qbr {T:List Itm}(h:SmallN (zf9 T)) (h32:∀ i∈T,i.sum.length=32):(zgk (zf9 T)).length<=10000000000:=by
 have u:=@zd5 3
 have u2:=@zd5 (T.length:Int)
 have h1:=zpa (l:=T) h.names h32
 have h2:T.length<=65536:=h.items
 unfold zgk zf9
 rw [if_neg (show ¬((3:Int)=1) by decide),if_neg (show ¬((3:Int)=2) by decide)]
 simp only [List.length_append]
 omega
theorem last_at {f:Fil}(h:nm f≠[]):(nm f)[(nm f).length-1]'(by have:=List.length_pos_iff.2 h;omega)=zh8 (nm f):=by
 unfold zh8
 rw [List.getLast?_eq_some_getLast h,List.getLast_eq_getElem]
 rfl
theorem bN3 (w:World):(Instr.build zh #[(0,.int .i64 3)]).run P w=.ok (.agg #[.int .i64 3,.string .empty,.int .i64 0,.slice none 0 0,.slice none 0 0]) w:=by kernel_rfl
theorem zcm.row {H:Heap}{B:Nat}{x:Option Addr×Nat×Nat}{Ls:List (List UInt8)}(h:zcm H B x Ls){B':Nat}{T:TypeId}{sz:Nat}{y:Option Addr×Nat×Nat}{vs:List Value}(hm:Mine H B' T sz y vs) (hT:T≠zi):∀ b∈jk y,b∉jk x:=by
 obtain⟨ys,g1,_⟩:=h
 exact zhz hm g1 hT
structure ME where
 hdr:Option Addr×Nat×Nat
 f:Fil
def zh1 (m:ME):List Value:=[zb2 m.hdr,.string (strOf m.f.path),.bool m.f.dir,.string (strOf m.f.data)]
theorem zhd (m:ME):(zh1 m).length=4:=rfl
theorem zx9 {m:ME}:zcl (zh1 m):=by
 intro v hv
 simp only [zh1,List.mem_cons,List.not_mem_nil,or_false] at hv
 rcases hv with rfl | rfl | rfl | rfl <;> rfl
def znw (H:Heap) (m:ME):Prop:=Mine H 0 jw 1 m.hdr (strRow (nm m.f))
theorem qk3:(zc P qj).size=4:=by kernel_rfl
theorem qj9:P.cellsOf qj=4:=by kernel_rfl
theorem qgy {w:World}{H:Heap}(m:ME) (hw:w.heap=H){K:Nat->World->Prop}(hK:∀ w',w'.heap=H.push (.cells (zh1 m).toArray qj (0,0))->K H.size w') :
  zbm (zc P qj) qj w fun b w1=>zb8 P (storeVar qj (⟨b,0,none⟩:Addr) (.agg (zh1 m).toArray)) w1 fun w2=>K b w2:=
 zv6 (v:=.agg (zh1 m).toArray) qj9 qk3 (by simp [Value.cells,zh1]) (by simpa [Value.cells] using zx9) hw hK
theorem Mine.keep {H H':Heap}{B:Nat}{T:TypeId}{sz:Nat}{x:Option Addr×Nat×Nat}{vs:List Value}{M:List Nat}(h:Mine H B T sz x vs) (hx:Ext M H H') (hM:∀ m∈M,∀ c fr,H[m]?=some (.cells c T fr)->False):Go.Fw.Mine H' B T sz x vs:=
 Go.Fw.Mine.ext h hx fun b hb hm=>by
  rcases h with⟨rfl,_⟩ | ⟨b1,c1,hx1,_,hg1,_⟩
  ·simp [jk] at hb
  ·simp [jk,hx1] at hb;subst hb
   exact hM _ hm _ _ hg1
def keyS (L:List UInt8):Value:=.string (strOf L)
theorem qew:KeyOk P jw (List UInt8) (fun _=>True) keyS:=KeyOk.str z4r
theorem uME:P.underlying zaa=some (.map jw za5):=by kernel_rfl
theorem zME (w:World):(zeroValue za5).run P w=.ok (.slice none 0 0) w:=by kernel_rfl
abbrev KM:=ML (List UInt8) ((Option Addr×Nat×Nat)×List ME)
def evK (v:(Option Addr×Nat×Nat)×List ME):Value:=zb2 v.1
def z7u (H:Heap) (mk:Nat) (S:List Fil):Prop:=∃ (M:KM) (clk:Nat),H[mk]?=some (.map (ents keyS (vl evK M)) clk)/\MOk (fun _=>True) M clk /\
 ∀ p,okP p->match zbk M (za3 p) with
  | none=>kids S p=[]
  | some v=>v.2.map (·.f)=kids S p/\Mine H 0 qj 4 v.1 (v.2.flatMap zh1)/\∀ m∈v.2,znw H m
theorem z7u.keep {H H':Heap}{mk:Nat}{S:List Fil}{M:List Nat}(h:z7u H mk S) (hx:Ext M H H') (hM:∀ m∈M,m < H.size->∃ c T fr,H[m]?=some (.cells c T fr)/\T≠qj/\T≠jw):z7u H' mk S:=by
 obtain⟨K,clk,h1,h2,h3⟩:=h
 refine⟨K,clk,hx.get h1 fun hm=>?_,h2,fun p hp=>?_⟩
 ·obtain⟨c,T,fr,hc,_⟩:=hM _ hm (lt_of_get h1)
  rw [h1] at hc;cases hc
 ·have:=h3 p hp
  cases hg:zbk K (za3 p) with
  | none=>rw [hg] at this;exact this
  | some v=>
   rw [hg] at this
   obtain⟨g1,g2,g3⟩:=this
   refine⟨g1,Mine.keep g2 hx fun m hm c fr hc=>?_,fun m hm=>Mine.keep (g3 m hm) hx fun m hm c fr hc=>?_⟩
   ·obtain⟨c',T,fr',hc',n1,n2⟩:=hM m hm (lt_of_get hc)
    rw [hc] at hc'
    simp only [Option.some.injEq,Obj.cells.injEq] at hc'
    exact n1 hc'.2.1.symm
   ·obtain⟨c',T,fr',hc',n1,n2⟩:=hM m hm (lt_of_get hc)
    rw [hc] at hc'
    simp only [Option.some.injEq,Obj.cells.injEq] at hc'
    exact n2 hc'.2.1.symm
theorem zm0 {κ ν:Type} [DecidableEq κ] {kt et mt:TypeId}{ok:κ->Prop}{enc:κ->Value}{ev:ν->Value}{w:World}{H:Heap}{m c:Nat}{l:ML κ ν}(K:KeyOk P kt κ ok enc) (hu:P.underlying mt=some (.map kt et)){z:Value}(hz:∀ w,(zeroValue et).run P w=.ok z w) (hw:w.heap=H) (hm:H[m]?=some (.map (ents enc (vl ev l)) c)) (hl:MOk ok l c){k:κ}(hk:ok k) :
  (Instr.lookup mt (.map (some m)) (enc k) false).run P w=.ok (((zbk l k).map ev).getD z) w:=by
 have hf:=K.find w k (ents enc (vl ev l)).toList (vl ev l) hk hl.vl.fine (by simp [ents])
 have hg:=zvn (l:=vl ev l) (k:=k)
 generalize (((vl ev l).findIdx? (fun x=>x.1==k)).bind fun i=>((vl ev l)[i]?).map fun x=>(i,x.2.1))=r at hf hg
 simp only [Instr.lookup,Sem.run_bind,ql hu,Result.andThen_ok,z7o hw hm (by intros;simp),Sem.run_pure,K.chk w k _ hk,hf]
 rw [<-zrk,<-hg]
 cases r with
 | none=>simp [hz]
 | some x=>simp
def zs5 (bk bd bb:Nat):Value:=.func (.func zhf) #[] #[.pointer (some ⟨bk,0,none⟩),.pointer (some ⟨bd,0,none⟩),.pointer (some ⟨bb,0,none⟩)]
structure DirSt (H:Heap) (bk bd bb mk B:Nat) (S:List Fil) (x:Option Addr×Nat×Nat) (Ls:List (List UInt8)):Prop where
 k:H[bk]?=some (.cells #[.map (some mk)] zaa (0,0))
 d:H[bd]?=some (.cells #[zs5 bk bd bb] zcv (0,0))
 b:H[bb]?=some (.cells #[zb2 x] jq (0,0))
 kids:z7u H mk S
 blobs:zcm H B x Ls
 rounds:Bl.Rounds H
 r0:0≠bb
theorem DirSt.keep {H H':Heap}{bk bd bb mk B:Nat}{S:List Fil}{x x':Option Addr×Nat×Nat}{Ls Ls':List (List UInt8)}{M:List Nat}(h:DirSt H bk bd bb mk B S x Ls) (hx:Ext M H H') (hB0:0 < B) (hM:∀ m∈M,m < H.size->m≠0/\∃ c T fr,H[m]?=some (.cells c T fr)/\(T=jq\/T=zi\/T=zu\/T=zh\/T=zf))
  (hb:H'[bb]?=some (.cells #[zb2 x'] jq (0,0))) (hB:zcm H' B x' Ls'):DirSt H' bk bd bb mk B S x' Ls':=by
 have no:∀ {b:Nat}{c:Array Value}{T:TypeId}{fr:Nat×Nat},H[b]?=some (.cells c T fr)->T≠jq->T≠zi->T≠zu->T≠zh->T≠zf->b∉M:=by
  intro b c T fr hc n1 n2 n3 n4 n5 hm
  obtain⟨_,c',T',fr',hc',ht⟩:=hM b hm (lt_of_get hc)
  rw [hc] at hc'
  simp only [Option.some.injEq,Obj.cells.injEq] at hc'
  rcases ht with h | h | h | h | h <;> rw [<-hc'.2.1] at h
  ·exact n1 h
  ·exact n2 h
  ·exact n3 h
  ·exact n4 h
  ·exact n5 h
 refine⟨hx.get h.k (no h.k (by decide) (by decide) (by decide) (by decide) (by decide)),hx.get h.d (no h.d (by decide) (by decide) (by decide) (by decide) (by decide)),hb,h.kids.keep hx fun m hm hlt=>?_,hB,h.rounds.ext hx fun h0=>?_,h.r0⟩
 ·obtain⟨_,c,T,fr,hc,ht⟩:=hM m hm hlt
  refine⟨c,T,fr,hc,?_,?_⟩ <;> rcases ht with rfl | rfl | rfl | rfl | rfl <;> decide
 ·have hlt:0 < H.size:=by have:=lt_of_get h.k;omega
  exact (hM 0 h0 hlt).1 rfl
theorem z5h {rec:Path->List (List UInt8)×List UInt8}{K:List Fil}{i:Nat}:(zaz rec (K.take i)).1.length<=(zaz rec K).1.length:=by
 have h:=List.take_append_drop i K
 rw [zm1,zm1]
 conv=>rhs;rw [<-h]
 rw [List.map_append,List.flatten_append,List.length_append]
 omega
set_option maxHeartbeats 64000000 in
theorem qjj (S:List Fil) (hd:∀ f∈S,f.data.length<=1024) (hSR:zpj S) (h64:∀ p,(kids S p).length<=64):∀ (n:Nat){w:World}{H:Heap}{bk bd bb mk B:Nat}{x:Option Addr×Nat×Nat}{Ls:List (List UInt8)}{p:Path},w.heap=H->DirSt H bk bd bb mk B S x Ls->0 < B->B<=H.size ->
  okP p->p.length+n=9->Ls.length+(zfs S n p).1.length<=500000000 ->
  zy P zhf #[.string (strOf (za3 p)),.pointer (some ⟨bk,0,none⟩),.pointer (some ⟨bd,0,none⟩),.pointer (some ⟨bb,0,none⟩)] w fun e w'=>∃ x',e=.returned (arr (zfs S n p).2)/\DirSt w'.heap bk bd bb mk B S x' (Ls++(zfs S n p).1)/\Ext (bb :: jk x) H w'.heap/\∀ c∈jk x',c∈jk x\/H.size<=c:=by
 intro n
 induction n with
 | zero=>
  intro w H bk bd bb mk B x Ls p _ _ _ _ hp hn _
  have:=hp.2
  omega
 | succ n ih=>
 intro w H bk bd bb mk B x Ls p hw hS hB0 hBs hp hn hlen
 obtain⟨K,clk,g1,g2,g3⟩:=hS.kids
 have g3:=g3 p hp
 have hxlt:=hS.blobs.lt
 have hbl:=lt_of_get hS.b
 refine zuo ?_
 unfold zod
 refine jm hw fun w1 hw1=>?_
 have hx1:Ext [] H w1.heap:=by rw [hw1];exact .push _
 have hd1:w1.heap[H.size]?=some (.cells (zc P zf) zf (0,0)):=by rw [hw1];exact zk
 refine qm (s:=.any) (.agg (zcx (zf9 []) (none,0,0) (none,0,0)).toArray) (bN3 _) ?_
 refine qa8 (zf9 []) _ _ rfl fun w3 hw3=>?_
 have hx3:Ext [] w1.heap w3.heap:=by rw [hw3];exact .push _
 have hn3:w3.heap[w1.heap.size]?=some (.cells (zcx (zf9 []) (none,0,0) (none,0,0)).toArray zh (0,0)):=by rw [hw3];exact zk
 have hx03:=hx1.trans hx3
 have s1:H.size < w1.heap.size:=lt_of_get hd1
 have s3:w1.heap.size < w3.heap.size:=lt_of_get hn3
 have hd3:=hx3.get hd1 (by simp)
 simp only [qg]
 refine je (s:=.map) (t:=some mk) rfl (hx03.get hS.k (by simp)) rfl ?_
 obtain⟨r,hr1,hr2,hr3,hr4⟩:∃ r:(Option Addr×Nat×Nat)×List ME,((zbk K (za3 p)).map evK).getD (.slice none 0 0)=zb2 r.1/\r.2.map (·.f)=kids S p/\Mine H 0 qj 4 r.1 (r.2.flatMap zh1)/\∀ m∈r.2,znw H m:=by
  cases hg:zbk K (za3 p) with
  | none=>rw [hg] at g3;exact⟨((none,0,0),[]),rfl,g3.symm,.inl ⟨rfl,rfl⟩,by simp⟩
  | some v=>rw [hg] at g3;exact⟨v,rfl,g3⟩
 have hlk:=zm0 (w:=w3) (l:=K) qew uME zME rfl (hx03.get g1 (by simp)) g2 (k:=za3 p) trivial
 rw [hr1] at hlk
 refine qm (s:=.slc) r.1 hlk ?_
 have hrl:r.1.2.1=r.2.length:=by have:=hr3.len;rw [zq zh1 zhd] at this;omega
 have hkl:r.2.length=(kids S p).length:=by rw [<-hr2];simp
 have hk64:=h64 p
 have hkm:∀ f∈kids S p,nm f≠[]/\(nm f).dropLast=p:=fun f hf=>(zh7 hf).2
 have htot:Ls.length+(zaz (zfs S n) (kids S p)).1.length+1<=500000000:=by
  have:=hlen
  simp only [zfs,List.length_append,List.length_singleton] at this
  omega
 have hS3:DirSt w3.heap bk bd bb mk B S x Ls:=hS.keep hx03 hB0 (by simp) (hx03.get hS.b (by simp)) (hS.blobs.ext hx03 (by simp))
 refine jg (fun (s:Int) W=>∃ (i:Nat) (x' xi:Option Addr×Nat×Nat),s=(i:Int)/\i<=r.2.length/\Ext (bb :: jk x) H W.heap/\w3.heap.size<=W.heap.size/\W.heap[w1.heap.size]?=some (.cells (zcx (zf9 (zaz (zfs S n) ((kids S p).take i)).2) (none,0,0) xi).toArray zh (0,0)) /\
   W.heap[H.size]?=some (.cells (zc P zf) zf (0,0))/\DirSt W.heap bk bd bb mk B S x' (Ls++(zaz (zfs S n) ((kids S p).take i)).1)/\(∀ c∈jk x',c∈jk x\/w3.heap.size<=c)/\Mine W.heap w3.heap.size zu 34 xi ((zaz (zfs S n) ((kids S p).take i)).2.flatMap zb0)) (fun s _=>(r.2.length-s).toNat)
  ⟨0,x,(none,0,0),rfl,Nat.zero_le _,hx03.mono (by simp),Nat.le_refl _,by simpa [zaz] using hn3,hd3,by simpa [zaz] using hS3,fun c hc=>.inl hc,.inl ⟨rfl,by simp [zaz]⟩⟩ ?_
 rintro _ W ⟨i,x',xi,rfl,hi,h1,h1s,h3,h3d,h4,h5,h6⟩
 have hH2:=h1.1
 have x'lt:=h4.blobs.lt
 have hbbW:=lt_of_get h4.b
 have hHx':∀ {m:Nat},H.size<=m->m < w3.heap.size->m∉jk x':=fun h h' hm=>by
  rcases h5 _ hm with h2 | h2
  ·have:=(hxlt _ h2).1;omega
  ·omega
 have hold:∀ {T:TypeId}{sz:Nat}{y:Option Addr×Nat×Nat}{vs:List Value},Mine H 0 T sz y vs->T≠jq->T≠zi->Mine W.heap 0 T sz y vs:=by
  intro T sz y vs hm n1 n2
  refine Mine.keep hm h1 fun m hmm c fr hc=>?_
  rcases List.mem_cons.1 hmm with rfl | hmm
  ·rw [hS.b] at hc
   simp only [Option.some.injEq,Obj.cells.injEq] at hc
   exact n1 hc.2.1.symm
  ·obtain⟨ys,q1,_⟩:=hS.blobs
   rcases q1 with⟨h,_⟩ | ⟨b',c2,hx1',_,hg,_⟩
   ·rw [h] at hmm;simp [jk] at hmm
   ·simp [jk,hx1'] at hmm;subst hmm
    rw [hc] at hg
    simp only [Option.some.injEq,Obj.cells.injEq] at hg
    exact n2 hg.2.1
 refine zx (fun hlt=>?_) (fun hge=>?_)
 ·have hil:i < r.2.length:=by omega
  have hget:=List.getElem?_eq_getElem hil
  have hmem:r.2[i]∈r.2:=List.getElem_mem hil
  have hfK:(kids S p)[i]?=some (r.2[i]).f:=by rw [<-hr2,List.getElem?_map,hget];rfl
  generalize r.2[i]=me at hget hmem hfK
  have hfS:me.f∈kids S p:=by rw [<-hr2];exact List.mem_map.2 ⟨me,hmem,rfl⟩
  have hdf:=hd me.f (zh7 hfS).1
  obtain⟨hk1,hk2⟩:=hkm me.f hfS
  have hkl2:(nm me.f).length=p.length+1:=by
   have:=congrArg List.length (zri hk1)
   rw [hk2] at this;simpa using this
  have h8:=(znu me.f).2
  have hsmall:=(znu me.f).small
  obtain⟨m,rfl⟩:∃ m,n=m+1:=⟨n-1,by omega⟩
  have htk:(kids S p).take (i+1)=(kids S p).take i++[me.f]:=by rw [List.take_add_one,hfK];rfl
  have hstep:(zaz (zfs S (m+1)) ((kids S p).take (i+1)))=zld (zfs S (m+1)) (zaz (zfs S (m+1)) ((kids S p).take i)) me.f:=by rw [htk,zz5]
  have hpre:=z5h (rec:=zfs S (m+1)) (K:=kids S p) (i:=i)
  have hpre':=z5h (rec:=zfs S (m+1)) (K:=kids S p) (i:=i+1)
  refine joinP_of (fun _ W'=>∃ (x2 xi2:Option Addr×Nat×Nat),Ext (bb :: jk x) H W'.heap/\w3.heap.size<=W'.heap.size/\W'.heap[w1.heap.size]?=some (.cells (zcx (zf9 (zaz (zfs S (m+1)) ((kids S p).take (i+1))).2) (none,0,0) xi2).toArray zh (0,0)) /\
   W'.heap[H.size]?=some (.cells (zc P zf) zf (0,0))/\DirSt W'.heap bk bd bb mk B S x2 (Ls++(zaz (zfs S (m+1)) ((kids S p).take (i+1))).1)/\(∀ c∈jk x2,c∈jk x\/w3.heap.size<=c)/\Mine W'.heap w3.heap.size zu 34 xi2 ((zaz (zfs S (m+1)) ((kids S p).take (i+1))).2.flatMap zb0)) ?_ ?_
  rotate_left
  ·rintro _ W' ⟨x2,xi2,g⟩
   refine jd ((i+1:Nat):Int) (by omega) (by omega) (by omega) ?_
   exact⟨⟨i+1,x2,xi2,rfl,by omega,g⟩,by omega⟩
  refine zar ?_
  refine zci (i:=i) zhd (by omega) rfl (hold hr3 (by decide) (by decide)).cells hrl hget rfl ?_
  refine qgy me rfl fun w6 hw6=>?_
  have hx6:Ext [] W.heap w6.heap:=by rw [hw6];exact .push _
  have he6:w6.heap[W.heap.size]?=some (.cells (zh1 me).toArray qj (0,0)):=by rw [hw6];exact zk
  have hnm:=(hold (hr4 me hmem) (by decide) (by decide)).ext hx6 (by simp)
  have hnl:me.hdr.2.1=(nm me.f).length:=by have:=hnm.len;simp at this;omega
  refine je (s:=.slc) (t:=me.hdr) rfl he6 rfl ?_
  refine je (s:=.slc) (t:=me.hdr) rfl he6 rfl ?_
  refine zb3 ((me.hdr.2.1-1:Nat):Int) (by omega) (by omega) (by omega) ?_
  refine zyu (xs:=nm me.f) (i:=(nm me.f).length-1) rfl hnm.cells hnl (by omega) (by omega) ?_
  rw [last_at hk1]
  refine qm (s:=.any) (.agg (zb0 ⟨zh8 (nm me.f),2,List.replicate 32 0⟩).toArray) (by rw [zb0,Bl.za7 (by simp)];exact bT2 _ _) ?_
  refine qdt ⟨zh8 (nm me.f),2,List.replicate 32 0⟩ rfl fun w8 hw8=>?_
  have hx8:Ext [] w6.heap w8.heap:=by rw [hw8];exact .push _
  have hb8:w8.heap[w6.heap.size]?=some (.cells (zb0 ⟨zh8 (nm me.f),2,List.replicate 32 0⟩).toArray zu (0,0)):=by rw [hw8];exact zk
  have s6:W.heap.size < w6.heap.size:=lt_of_get he6
  have s8:w6.heap.size < w8.heap.size:=lt_of_get hb8
  have hx08:=hx6.trans hx8
  have he8:=hx8.get he6 (by simp)
  have hS8:DirSt w8.heap bk bd bb mk B S x' (Ls++(zaz (zfs S (m+1)) ((kids S p).take i)).1):=h4.keep hx08 hB0 (by simp) (hx08.get h4.b (by simp)) (h4.blobs.ext hx08 (by simp))
  have hnm8:=hnm.ext hx8 (by simp)
  refine joinP_of (fun _ W'=>∃ x2:Option Addr×Nat×Nat,W'.heap[w6.heap.size]?=some (.cells (zb0 (zkp (zfs S (m+1)) me.f)).toArray zu (0,0))/\DirSt W'.heap bk bd bb mk B S x2 (Ls++(zaz (zfs S (m+1)) ((kids S p).take (i+1))).1) /\
   Ext (w6.heap.size :: bb :: jk x') w8.heap W'.heap/\(∀ c∈jk x2,c∈jk x'\/w8.heap.size<=c)) ?_ ?_
  ·refine je (s:=.bool) (t:=me.f.dir) rfl he8 rfl ?_
   cases hfd:me.f.dir with
   | true=>
    refine zai rfl ?_
    refine jv rfl fun w9 hw9=>?_
    have hx9:Ext [] w8.heap w9.heap:=by rw [hw9];exact .refl _ _
    have hS9:DirSt w9.heap bk bd bb mk B S x' (Ls++(zaz (zfs S (m+1)) ((kids S p).take i)).1):=by rw [hw9];exact hS8
    refine je (s:=.any) (t:=zs5 bk bd bb) rfl hS9.d rfl ?_
    refine je (s:=.slc) (t:=me.hdr) rfl (hx9.get he8 (by simp)) rfl ?_
    refine zl (z4k rfl (hnm8.ext hx9 (by simp)).cells hnl (zic hnm) (by omega)) ?_
    rintro e w10 ⟨rfl,hx10⟩
    refine⟨strOf (za3 (nm me.f)),rfl,?_⟩
    have hx8_10:=hx9.trans hx10
    have hS10:DirSt w10.heap bk bd bb mk B S x' (Ls++(zaz (zfs S (m+1)) ((kids S p).take i)).1):=hS8.keep hx8_10 hB0 (by simp) (hx8_10.get hS8.b (by simp)) (hS8.blobs.ext hx8_10 (by simp))
    refine⟨je (s:=.any) (t:=zs5 bk bd bb) rfl hS10.d rfl rfl,?_⟩
    have s10:=hx8_10.1
    have hlen2:(Ls++(zaz (zfs S (m+1)) ((kids S p).take i)).1).length+(zfs S (m+1) (nm me.f)).1.length<=500000000:=by
     have h:=hpre'
     rw [hstep] at h
     simp only [zld,hfd,if_true,List.length_append] at h
     simp only [List.length_append]
     omega
    refine zie (args:=#[.string (strOf (za3 (nm me.f)))]) ?_
    refine (ih (w:=w10) (p:=nm me.f) rfl hS10 hB0 (by omega) (znu me.f) (by omega) hlen2).mono ?_
    rintro e w11 ⟨x2,rfl,hS11,hx11,hs11⟩
    refine⟨arr (zfs S (m+1) (nm me.f)).2,rfl,?_⟩
    have hbN:w6.heap.size∉bb :: jk x':=fun h=>by
     rcases List.mem_cons.1 h with h | h
     ·omega
     ·have:=(x'lt _ h).1;omega
    have hb11:=hx11.get (hx8_10.get hb8 (by simp)) hbN
    refine zbd rfl hb11 (by simp [zac]) fun w12 hw12=>?_
    have hx12:Ext [w6.heap.size] w11.heap w12.heap:=by rw [hw12];exact Ext.set _ (by simp)
    have hb12:w12.heap[w6.heap.size]?=some (.cells (zb0 ⟨zh8 (nm me.f),3,List.replicate 32 0⟩).toArray zu (0,0)):=by rw [hw12,<-qbo];exact qc hb11
    refine stD zmg rfl hb12 (by simp [zac]) fun w13 hw13=>?_
    rw [z8n zmg] at hw13
    have hx13:Ext [w6.heap.size] w12.heap w13.heap:=by rw [hw13];exact Ext.set _ (by simp)
    have hit:zkp (zfs S (m+1)) me.f=⟨zh8 (nm me.f),3,(zfs S (m+1) (nm me.f)).2⟩:=by unfold zkp;rw [hfd];rfl
    have hx1113:=hx12.trans hx13
    have hwne:w6.heap.size≠bb:=by omega
    refine⟨x2,by rw [hw13,hit];exact qc hb12,?_,?_,fun c hc=>?_⟩
    ·have hacc:Ls++(zaz (zfs S (m+1)) ((kids S p).take (i+1))).1=Ls++(zaz (zfs S (m+1)) ((kids S p).take i)).1++(zfs S (m+1) (nm me.f)).1:=by
      rw [hstep]
      simp only [zld,hfd,if_true,List.append_assoc]
     rw [hacc]
     have tag:∀ m'∈[w6.heap.size],m' < w11.heap.size->m'≠0/\∃ c T fr,w11.heap[m']?=some (.cells c T fr)/\(T=jq\/T=zi\/T=zu\/T=zh\/T=zf):=by
      intro m' hm _
      simp at hm;subst hm
      exact⟨by omega,_,_,_,hb11,.inr (.inr (.inl rfl))⟩
     refine hS11.keep hx1113 hB0 tag (hx1113.get hS11.b (by simp;omega)) (hS11.blobs.keep hx1113 fun m' hm c T fr hc=>?_)
     simp at hm;subst hm
     rw [hb11] at hc
     simp only [Option.some.injEq,Obj.cells.injEq] at hc
     rw [<-hc.2.1];exact⟨by decide,by decide⟩
    ·exact (hx8_10.mono (by simp)).trans ((hx11.mono fun c hc=>by simp at hc |-;right;exact hc).trans (hx1113.mono (by simp)))
    ·rcases hs11 c hc with h | h
     ·exact .inl h
     ·right;omega
   | false=>
    refine jr rfl ?_
    refine je (s:=.slc) (t:=x') rfl hS8.b rfl ?_
    refine je (s:=.str) (t:=strOf me.f.data) rfl he8 rfl ?_
    refine zl (qga rfl hS8.blobs hB0 (by omega) hS8.rounds (by simp only [List.length_append];omega) hdf) ?_
    rintro e w14 ⟨x2,rfl,hB14,hx14,hs14⟩
    refine⟨(x2,arr (zil me.f.data)),rfl,?_⟩
    have hbx':bb∉jk x':=by
     obtain⟨ys,q1,_⟩:=hS8.blobs
     intro h
     rcases q1 with⟨h',_⟩ | ⟨b',c2,hx1',_,hg,_⟩
     ·rw [h'] at h;simp [jk] at h
     ·simp [jk,hx1'] at h;subst h
      rw [hS8.b] at hg
      simp only [Option.some.injEq,Obj.cells.injEq] at hg
      exact absurd hg.2.1 (by decide)
    have hbb14:=hx14.get hS8.b hbx'
    refine zbd rfl hbb14 (by simp) fun w15 hw15=>?_
    have hx15:Ext [bb] w14.heap w15.heap:=by rw [hw15];exact Ext.set _ (by simp)
    have hbb15:w15.heap[bb]?=some (.cells #[zb2 x2] jq (0,0)):=by rw [hw15];exact qc hbb14
    have hwne:w6.heap.size≠bb:=by omega
    have hb15:=hx15.get (hx14.get hb8 (fun h=>by have:=(x'lt _ h).1;omega)) (by simp;omega)
    have hfs:(zil me.f.data).length=32:=zae
    refine stD hfs rfl hb15 (by simp [zac]) fun w16 hw16=>?_
    rw [z8n hfs] at hw16
    have hx16:Ext [w6.heap.size] w15.heap w16.heap:=by rw [hw16];exact Ext.set _ (by simp)
    have hit:zkp (zfs S (m+1)) me.f=⟨zh8 (nm me.f),2,zil me.f.data⟩:=by unfold zkp;rw [hfd];rfl
    have hxAll:Ext (w6.heap.size :: bb :: jk x') w8.heap w16.heap:=(hx14.mono fun c hc=>by simp [hc]).trans ((hx15.mono (by simp)).trans (hx16.mono (by simp)))
    refine⟨x2,by rw [hw16,hit];exact qc hb15,?_,hxAll,fun c hc=>?_⟩
    ·have hacc:Ls++(zaz (zfs S (m+1)) ((kids S p).take (i+1))).1=Ls++(zaz (zfs S (m+1)) ((kids S p).take i)).1++zhi me.f.data:=by
      rw [hstep]
      simp only [zld,hfd,Bool.false_eq_true,if_false,List.append_assoc]
     rw [hacc]
     refine hS8.keep hxAll hB0 (fun m' hm hlt=>?_) (hx16.get hbb15 (by simp;omega)) ?_
     ·rcases List.mem_cons.1 hm with rfl | hm
      ·exact⟨by omega,_,_,_,hb8,.inr (.inr (.inl rfl))⟩
      ·rcases List.mem_cons.1 hm with rfl | hm
       ·exact⟨fun h=>hS8.r0 h.symm,_,_,_,hS8.b,.inl rfl⟩
       ·refine⟨fun h=>by have:=hS8.blobs.ge _ hm;omega,?_⟩
        obtain⟨ys,q1,_⟩:=hS8.blobs
        rcases q1 with⟨h',_⟩ | ⟨b',c2,hx1',_,hg,_⟩
        ·rw [h'] at hm;simp [jk] at hm
        ·simp [jk,hx1'] at hm;subst hm
         exact⟨_,_,_,hg,.inr (.inl rfl)⟩
     ·refine (hB14.keep hx15 fun m' hm c T fr hc=>?_).keep hx16 fun m' hm c T fr hc=>?_
      ·simp at hm;subst hm
       rw [hbb14] at hc
       simp only [Option.some.injEq,Obj.cells.injEq] at hc
       rw [<-hc.2.1];exact⟨by decide,by decide⟩
      ·simp at hm;subst hm
       rw [hb15] at hc
       simp only [Option.some.injEq,Obj.cells.injEq] at hc
       rw [<-hc.2.1];exact⟨by decide,by decide⟩
    ·rcases hs14 c hc with h | h
     ·exact .inl h
     ·right;omega
  rintro _ W17 ⟨x2,hb17,hS17,hx17,hs17⟩
  have hni:∀ {k:Nat},H.size<=k->k < w3.heap.size->k∉w6.heap.size :: bb :: jk x':=fun hk hk' h=>by
   rcases List.mem_cons.1 h with h | h
   ·omega
   ·rcases List.mem_cons.1 h with h | h
    ·omega
    ·exact hHx' hk hk' h
  have hn17:=hx17.get (hx08.get h3 (by simp)) (hni (by omega) (by omega))
  refine je (s:=.slc) (t:=xi) rfl hn17 rfl ?_
  refine qp rfl hb17 (by simp [zac]) ?_
  have hm17:Mine W17.heap w3.heap.size zu 34 xi ((zaz (zfs S (m+1)) ((kids S p).take i)).2.flatMap zb0):=(h6.ext hx08 (by simp)).ext hx17 (fun b hb h=>by
   rcases List.mem_cons.1 h with h | h
   ·have:=(zbs h6 b hb).1;omega
   ·rcases List.mem_cons.1 h with h | h
    ·have:=qx h6 b hb;omega
    ·exact h4.blobs.row h6 (by decide) b hb h)
  have s17:=hx17.1
  refine zre (i:=zkp (zfs S (m+1)) me.f) rfl hm17 (by omega) (by rw [z7t];simp;omega) fun xi2 w19 hm19 hx19 hs19=>?_
  have hn19:=hx19.get hn17 (fun h=>by have:=qx h6 _ h;omega)
  refine zbd rfl hn19 (by simp [zcx]) fun w20 hw20=>?_
  have hx20:Ext [w1.heap.size] w19.heap w20.heap:=by rw [hw20];exact Ext.set _ (by simp)
  have s19:=hx19.1
  have s20:=hx20.1
  have hacc2:(zaz (zfs S (m+1)) ((kids S p).take (i+1))).2=(zaz (zfs S (m+1)) ((kids S p).take i)).2++[zkp (zfs S (m+1)) me.f]:=by
   rw [htk,zhj,zhj,List.map_append];rfl
  have hx1720:Ext (w1.heap.size :: jk xi) W17.heap w20.heap:=(hx19.mono fun c hc=>by simp [hc]).trans (hx20.mono (by simp))
  have tag:∀ m'∈w1.heap.size :: jk xi,m' < W17.heap.size->m'≠0/\∃ c T fr,W17.heap[m']?=some (.cells c T fr)/\(T=jq\/T=zi\/T=zu\/T=zh\/T=zf):=by
   intro m' hm _
   rcases List.mem_cons.1 hm with rfl | hm
   ·exact⟨by omega,_,_,_,hn17,.inr (.inr (.inr (.inl rfl)))⟩
   ·refine⟨fun h=>by have:=qx h6 _ hm;omega,?_⟩
    rcases hm17 with⟨h',_⟩ | ⟨b',c2,hx1',_,hg,_⟩
    ·rw [h'] at hm;simp [jk] at hm
    ·simp [jk,hx1'] at hm;subst hm
     exact⟨_,_,_,hg,.inr (.inr (.inl rfl))⟩
  have hbb20:=hx1720.get hS17.b (fun h=>by
   rcases List.mem_cons.1 h with h | h
   ·omega
   ·have:=qx h6 _ h;omega)
  refine⟨x2,xi2,?_,by omega,?_,?_,?_,fun c hc=>?_,?_⟩
  ·have a1:Ext (bb :: jk x) H w8.heap:=h1.trans (hx08.mono (by simp))
   have a2:Ext (bb :: jk x) H W17.heap:=a1.own hx17 (fun c hc hlt=>by
    rcases List.mem_cons.1 hc with h | h
    ·omega
    ·rcases List.mem_cons.1 h with h | h
     ·simp [h]
     ·rcases h5 c h with h | h
      ·simp [h]
      ·omega)
   exact a2.own hx1720 (fun c hc hlt=>by
    rcases List.mem_cons.1 hc with h | h
    ·omega
    ·have:=qx h6 c h;omega)
  ·rw [hw20,hacc2];exact qc hn19
  ·exact hx1720.get (hx17.get (hx08.get h3d (by simp)) (hni (Nat.le_refl _) (by omega))) (fun h=>by
    rcases List.mem_cons.1 h with h | h
    ·omega
    ·have:=qx h6 _ h;omega)
  ·refine hS17.keep hx1720 hB0 tag hbb20 (hS17.blobs.keep hx1720 fun m' hm c T fr hc=>?_)
   obtain⟨_,c',T',fr',hc',ht⟩:=tag m' hm (lt_of_get hc)
   rcases List.mem_cons.1 hm with rfl | hm
   ·rw [hn17] at hc
    simp only [Option.some.injEq,Obj.cells.injEq] at hc
    rw [<-hc.2.1];exact⟨by decide,by decide⟩
   ·rcases hm17 with⟨h',_⟩ | ⟨b',c2,hx1',_,hg,_⟩
    ·rw [h'] at hm;simp [jk] at hm
    ·simp [jk,hx1'] at hm;subst hm
     rw [hc] at hg
     simp only [Option.some.injEq,Obj.cells.injEq] at hg
     rw [hg.2.1];exact⟨by decide,by decide⟩
  ·rcases hs17 c hc with h | h
   ·exact h5 c h
   ·right;omega
  ·rw [hacc2]
   exact hm19.ext hx20 (fun b hb h=>by simp at h;subst h;have:=qx hm19 _ hb;omega)
 ·obtain rfl:i=r.2.length:=by omega
  have htk:(kids S p).take r.2.length=kids S p:=by rw [hkl,List.take_length]
  rw [htk] at h3 h4 h6
  have h32:=qgk (S:=S) hn hkm
  have hsm:=z9c (rec:=zfs S n) (fun f hf=>(hkm f hf).1) (show (kids S p).length<=65536 by omega)
  have hel:=qbr hsm h32
  have hright:zau (zf9 (zaz (zfs S n) (kids S p)).2)=true:=by rw [zhj];exact z7y hSR hk64
  refine jm rfl fun w23 hw23=>?_
  have hx23:Ext [] W.heap w23.heap:=by rw [hw23];exact .push _
  have hd23:w23.heap[W.heap.size]?=some (.cells (zc P zf) zf (0,0)):=by rw [hw23];exact zk
  have s23:W.heap.size < w23.heap.size:=lt_of_get hd23
  have hS23:DirSt w23.heap bk bd bb mk B S x' (Ls++(zaz (zfs S n) (kids S p)).1):=h4.keep hx23 hB0 (by simp) (hx23.get h4.b (by simp)) (h4.blobs.ext hx23 (by simp))
  refine je (s:=.slc) (t:=x') rfl hS23.b rfl ?_
  refine qp rfl (hx23.get h3 (by simp)) rfl ?_
  have hli:xi.2.1=(zaz (zfs S n) (kids S p)).2.length:=by
   have:=h6.len
   rw [zq zb0 zac] at this
   omega
  have hNW:NodW w23.heap (zf9 (zaz (zfs S n) (kids S p)).2) (none,0,0) xi:=⟨.inl rfl,rfl,(h6.ext hx23 (by simp)).cells,hli,by simp [zf9],h32⟩
  refine zl (z8b rfl hS23.blobs hB0 (by omega) hNW hright hS23.rounds (by simp only [List.length_append];omega) (by omega)) ?_
  rintro e w24 ⟨x2,rfl,hB24,hx24,hs24⟩
  refine⟨(x2,arr (zfs S (n+1) p).2),rfl,?_⟩
  have hbx':bb∉jk x':=by
   obtain⟨ys,q1,_⟩:=h4.blobs
   intro h
   rcases q1 with⟨h',_⟩ | ⟨b',c2,hx1',_,hg,_⟩
   ·rw [h'] at h;simp [jk] at h
   ·simp [jk,hx1'] at h;subst h
    rw [h4.b] at hg
    simp only [Option.some.injEq,Obj.cells.injEq] at hg
    exact absurd hg.2.1 (by decide)
  have hbb24:=hx24.get hS23.b hbx'
  refine zbd rfl hbb24 (by simp) fun w25 hw25=>?_
  have hx25:Ext [bb] w24.heap w25.heap:=by rw [hw25];exact Ext.set _ (by simp)
  have hbb25:w25.heap[bb]?=some (.cells #[zb2 x2] jq (0,0)):=by rw [hw25];exact qc hbb24
  have hd25:=hx25.get (hx24.get hd23 (fun h=>by have:=(x'lt _ h).1;omega)) (by simp;omega)
  refine z4l zmg rfl hd25 zcD fun w26 hw26=>?_
  have hx26:Ext [W.heap.size] w25.heap w26.heap:=by rw [hw26];exact Ext.set _ (by simp)
  have hd26:w26.heap[W.heap.size]?=some (.cells (byteCells (zfs S (n+1) p).2).toArray zf (0,0)):=by rw [hw26];exact qc hd25
  refine qp rfl hd26 (by simp [zmg]) ?_
  have hr26:=hx26.get (hx25.get (hx24.get (hx23.get h3d (by simp)) (hHx' (Nat.le_refl _) (by omega))) (by simp;omega)) (by simp;omega)
  refine z4l (k:=(zfs S (n+1) p).2) zmg rfl hr26 zcD fun w27 hw27=>?_
  have hx27:Ext [H.size] w26.heap w27.heap:=by rw [hw27];exact Ext.set _ (by simp)
  have hr27:w27.heap[H.size]?=some (.cells (byteCells (zfs S (n+1) p).2).toArray zf (0,0)):=by rw [hw27];exact qc hr26
  refine qp rfl hr27 (by simp [zmg]) ?_
  have hx2327:Ext (W.heap.size :: H.size :: bb :: jk x') w23.heap w27.heap:=(hx24.mono fun c hc=>by simp [hc]).trans ((hx25.mono (by simp)).trans ((hx26.mono (by simp)).trans (hx27.mono (by simp))))
  have hbb27:=hx27.get (hx26.get hbb25 (by simp;omega)) (by simp;omega)
  refine⟨x2,rfl,?_,?_,fun c hc=>?_⟩
  ·refine hS23.keep hx2327 hB0 (fun m' hm hlt=>?_) hbb27 ?_
   ·simp only [List.mem_cons] at hm
    rcases hm with rfl | rfl | rfl | hm
    ·exact⟨by omega,_,_,_,hd23,.inr (.inr (.inr (.inr rfl)))⟩
    ·exact⟨by omega,_,_,_,hx23.get h3d (by simp),.inr (.inr (.inr (.inr rfl)))⟩
    ·exact⟨fun h=>h4.r0 h.symm,_,_,_,hS23.b,.inl rfl⟩
    ·refine⟨fun h=>by have:=h4.blobs.ge _ hm;omega,?_⟩
     obtain⟨ys,q1,_⟩:=hS23.blobs
     rcases q1 with⟨h',_⟩ | ⟨b',c2,hx1',_,hg,_⟩
     ·rw [h'] at hm;simp [jk] at hm
     ·simp [jk,hx1'] at hm;subst hm
      exact⟨_,_,_,hg,.inr (.inl rfl)⟩
   ·have hB27:=((hB24.keep hx25 fun m' hm c T fr hc=>by
     simp at hm;subst hm
     rw [hbb24] at hc
     simp only [Option.some.injEq,Obj.cells.injEq] at hc
     rw [<-hc.2.1];exact⟨by decide,by decide⟩).keep hx26 fun m' hm c T fr hc=>by
     simp at hm;subst hm
     rw [hd25] at hc
     simp only [Option.some.injEq,Obj.cells.injEq] at hc
     rw [<-hc.2.1];exact⟨by decide,by decide⟩).keep hx27 fun m' hm c T fr hc=>by
     simp at hm;subst hm
     rw [hr26] at hc
     simp only [Option.some.injEq,Obj.cells.injEq] at hc
     rw [<-hc.2.1];exact⟨by decide,by decide⟩
    rw [List.append_assoc] at hB27
    exact hB27
  ·have a1:Ext (bb :: jk x) H w23.heap:=h1.trans (hx23.mono (by simp))
   exact a1.own hx2327 (fun c hc hlt=>by
    simp only [List.mem_cons] at hc
    rcases hc with h | h | h | h
    ·omega
    ·omega
    ·simp [h]
    ·rcases h5 c h with h | h
     ·simp [h]
     ·omega)
  ·rcases hs24 c hc with h | h
   ·rcases h5 c h with h | h
    ·exact .inl h
    ·right;omega
   ·right;omega
theorem zcF:(zc P za1).size=3:=by kernel_rfl
theorem szF:P.cellsOf za1=3:=by kernel_rfl
theorem qki {w:World}{H:Heap}(f:Fil) (hw:w.heap=H){K:Nat->World->Prop}(hK:∀ w',w'.heap=H.push (.cells (zol f).toArray za1 (0,0))->K H.size w') :
  zbm (zc P za1) za1 w fun b w1=>zb8 P (storeVar za1 (⟨b,0,none⟩:Addr) (.agg (zol f).toArray)) w1 fun w2=>K b w2:=
 zv6 (v:=.agg (zol f).toArray) szF zcF (by simp [Value.cells,zol]) (by simpa [Value.cells] using qbl) hw hK
def qgq (f:Fil):Bool:=decide ((zdz f.path).2≠0)
def znf (L:List Fil):Int:=match L.find? qgq with | some f=>(zdz f.path).2 | none=>0
def qem (f:Fil):Bool:=f.dir&&!decide (f.data=[])
def qdm (f:Fil):Bool:=decide (1024 < f.data.length)
def zcp (L:List Fil):Int:=if znf L≠0 then znf L else if L.any qem then 1 else if L.any qdm then 134 else 0
theorem z1r {L:List Fil}{i:Nat}{f:Fil}(hi:L[i]?=some f) (hf:(zdz f.path).2≠0) (hb:∀ g∈L.take i,(zdz g.path).2=0):znf L=(zdz f.path).2:=by
 have hil:=(List.getElem?_eq_some_iff.1 hi).1
 have e:L=L.take i++f :: L.drop (i+1):=by
  conv=>lhs;rw [<-List.take_append_drop i L]
  rw [List.drop_eq_getElem_cons hil,(List.getElem?_eq_some_iff.1 hi).2]
 unfold znf
 rw [e,List.find?_append,List.find?_eq_none.2 (fun g hg=>by simp [qgq,hb g hg]),Option.none_or,List.find?_cons]
 have:qgq f=true:=by simp [qgq,hf]
 rw [this]
theorem zy9 {L:List Fil}(hb:∀ g∈L,(zdz g.path).2=0):znf L=0:=by
 unfold znf
 rw [List.find?_eq_none.2 (fun g hg=>by simp [qgq,hb g hg])]
theorem zpn {L:List Fil}{i:Nat}{f:Fil}(hi:L[i]?=some f){q:Fil->Prop}(h:∀ g∈L.take i,q g) (hf:q f):∀ g∈L.take (i+1),q g:=by
 intro g hg
 rw [List.take_add_one,hi] at hg
 rcases List.mem_append.1 hg with hg | hg
 ·exact h g hg
 ·simp at hg;rw [hg];exact hf
theorem qan {w:World}{H:Heap}{a:Option Addr}{n nc F:Nat}{L:List Fil}{g:Fil->Bool}(hw:w.heap=H) (hL:Cells H a (L.flatMap zol)) (hn:n=L.length) (hm:L.length<=1099511627776)
  (hg:∀ (f:Fil) (w:World),zy P F #[.agg (zol f).toArray] w fun e w'=>e=.returned (.bool (g f))/\Ext [] w.heap w'.heap) :
  zy P zax #[.slice a n nc,.func (.func F) #[] #[]] w fun e w'=>e=.returned (.bool (L.any g))/\Ext [] H w'.heap:=by
 subst hn
 refine zev ?_
 unfold zcs
 have h:zy P zbx #[.slice a L.length nc,.func (.func F) #[] #[]] w fun e w'=>∃ k:Int,e=.returned (.int .i64 k)/\(0<=k ↔ L.any g=true)/\Ext [] H w'.heap:=by
  refine zfe ?_
  unfold zc2
  refine jg (fun (s:Int) W=>∃ i:Nat,s=(i:Int)/\i<=L.length/\(∀ f∈L.take i,g f=false)/\Ext [] H W.heap) (fun s _=>(L.length-s).toNat) ⟨0,rfl,Nat.zero_le _,by simp,by rw [hw];exact .refl _ _⟩ ?_
  rintro _ W ⟨i,rfl,hi,hno,hxW⟩
  refine zx (fun hlt=>?_) (fun hge=>?_)
  ·have hil:i < L.length:=by omega
   have hget:=List.getElem?_eq_getElem hil
   have hmem:L[i]∈L:=List.getElem_mem hil
   generalize L[i]=f at hget hmem
   refine zci (i:=i) z5f (by omega) rfl (hL.ext hxW (by simp)) rfl hget rfl ?_
   refine zie (args:=#[.agg (zol f).toArray]) (cap:=#[]) ?_
   refine (hg f W).mono ?_
   rintro e w2 ⟨rfl,hx2⟩
   refine⟨g f,rfl,?_⟩
   cases hgf:g f with
   | true=>exact zai rfl ⟨_,rfl,⟨fun _=>List.any_eq_true.2 ⟨f,hmem,hgf⟩,fun _=>by omega⟩,hxW.trans hx2⟩
   | false=>
    refine jr rfl ?_
    refine jd ((i+1:Nat):Int) (by omega) (by omega) (by omega) ?_
    exact⟨⟨i+1,rfl,by omega,zpn (q:=fun f=>g f=false) hget hno hgf,hxW.trans hx2⟩,by omega⟩
  ·obtain rfl:i=L.length:=by omega
   rw [List.take_length] at hno
   refine⟨_,rfl,⟨fun h=>by omega,fun h=>?_⟩,hxW⟩
   obtain⟨f,hf,hgf⟩:=List.any_eq_true.1 h
   rw [hno f hf] at hgf;cases hgf
 refine zl h ?_
 rintro e w1 ⟨k,rfl,hk,hx⟩
 refine⟨k,rfl,?_⟩
 refine⟨?_,hx⟩
 congr 2
 rw [Bool.eq_iff_iff,<-hk]
 simp
theorem qkb (f:Fil) (w:World):zy P zjt #[.agg (zol f).toArray] w fun e w'=>e=.returned (.bool (qem f))/\Ext [] w.heap w'.heap:=by
 refine zuj ?_
 unfold zn5
 refine jm rfl fun w1 hw1=>?_
 have hx1:Ext [] w.heap w1.heap:=by rw [hw1];exact .push _
 have hb1:w1.heap[w.heap.size]?=some (.cells (zol f).toArray za1 (0,0)):=by rw [hw1];exact zk
 refine je (s:=.bool) (t:=f.dir) rfl hb1 rfl ?_
 cases hd:f.dir with
 | false=>exact jr rfl ⟨by simp [qem,hd],hx1⟩
 | true=>
  refine zai rfl ?_
  refine je (s:=.str) (t:=strOf f.data) rfl hb1 rfl ?_
  refine⟨?_,hx1⟩
  congr 2
  rw [qem,hd,Bool.true_and]
  congr 1
  rw [Bool.eq_iff_iff,zjg,decide_eq_true_eq]
theorem qkc (f:Fil) (w:World):zy P zjw #[.agg (zol f).toArray] w fun e w'=>e=.returned (.bool (qdm f))/\Ext [] w.heap w'.heap:=by
 refine zui ?_
 unfold znx
 refine jm rfl fun w1 hw1=>?_
 have hx1:Ext [] w.heap w1.heap:=by rw [hw1];exact .push _
 have hb1:w1.heap[w.heap.size]?=some (.cells (zol f).toArray za1 (0,0)):=by rw [hw1];exact zk
 refine je (s:=.str) (t:=strOf f.data) rfl hb1 rfl ?_
 refine⟨?_,hx1⟩
 congr 2
 unfold qdm
 rw [Bool.eq_iff_iff]
 simp
 omega
theorem uSE:P.underlying za5=some (.slice qj):=by kernel_rfl
theorem EEn:Elem P qj 4 64:=zmm (z:=.agg (zh1 ⟨(none,0,0),⟨[],false,[]⟩⟩).toArray) (by kernel_rfl) rfl
theorem bE (x:Option Addr×Nat×Nat) (p d:ByteArray) (b:Bool) (w:World):(Instr.build qj #[(0,.slice x.1 x.2.1 x.2.2),(1,.agg #[.string p,.bool b,.string d])]).run P w=.ok (.agg #[.slice x.1 x.2.1 x.2.2,.string p,.bool b,.string d]) w:=by kernel_rfl
theorem qav {w:World}{H:Heap}{B:Nat}{x:Option Addr×Nat×Nat}{T:List ME}{i:ME}(hw:w.heap=H) (hm:Mine H B qj 4 x (T.flatMap zh1)) (hBs:B<=H.size) (hlen:T.length<=1073741824){K:(Option Addr×Nat×Nat)->World->Prop}
  (hK:∀ x' w',Mine w'.heap B qj 4 x' ((T++[i]).flatMap zh1)->Ext (jk x) H w'.heap->(∀ c∈jk x',c∈jk x\/H.size<=c)->x'.2.1=T.length+1->K x' w') :
  zaw P (Instr.buildSlice za5 1 #[(0,.agg (zh1 i).toArray)]) .slc w fun (t27:(Option Addr×Nat×Nat)) w_13=>
  zaw P (Builtin.append_ #[za5,za5] za5 #[(Value.slice x.1 x.2.1 x.2.2),(Value.slice t27.1 t27.2.1 t27.2.2)]) .slc w_13 K:=by
 have hlx:x.2.1=T.length:=by
  have:=hm.len
  rw [zq zh1 zhd] at this
  omega
 refine zah (s:=.slc) (some ⟨w.heap.size,0,none⟩,1,1) _ (zen EEn uSE (v:=.agg (zh1 i).toArray) (by simp [Value.cells,zh1]) (by omega) (by omega)) ?_
 subst hw
 have hxp:Ext [] w.heap (w.heap.push (.cells (Value.agg (zh1 i).toArray).cells qj)):=.push _
 refine zcj (bts:=64) (n:=1) (us:=zh1 i) (H:=w.heap.push (.cells (Value.agg (zh1 i).toArray).cells qj)) EEn (by omega) uSE (zbg uSE) rfl (hm.ext hxp (by simp)) (by simp;omega)
  (Src.slc rfl (.inr ⟨w.heap.size,0,_,_,_,rfl,zk,by simp [zft],by simp [zft,List.take_of_length_le]⟩) (by rw [zhd])) zx9 (by omega) ?_
 intro x' w4 hm4 hl4 hx4 hs4
 have hm4':Mine w4.heap B qj 4 x' ((T++[i]).flatMap zh1):=by rw [List.flatMap_append,List.flatMap_singleton];exact hm4
 refine hK x' w4 hm4' ((hxp.mono (by simp)).trans hx4) (fun c hc=>?_) ?_
 ·rcases hs4 c hc with h | h
  ·exact .inl h
  ·right;have:=hxp.1;omega
 ·have:=hm4'.len
  rw [zq zh1 zhd] at this
  simp at this;omega
set_option maxHeartbeats 4000000 in
theorem qcq {w:World}{H:Heap}{a:Option Addr}{n nc:Nat}{L:List Fil}(hw:w.heap=H) (hL:Cells H a (L.flatMap zol)) (hn:n=L.length) (hm:L.length<=65536) :
  zy P zme #[.slice a n nc] w fun e w'=>∃ x,e=.returned (.tuple #[zb2 x,.int .i64 (zcp L)])/\Ext [] H w'.heap/\(zcp L=0->∃ ms:List ME,ms.map (·.f)=L/\Mine w'.heap H.size qj 4 x (ms.flatMap zh1)/\∀ m∈ms,znw w'.heap m):=by
 subst hn
 refine zyd ?_
 unfold zr3
 refine jg (fun (s:(Option Addr×Nat×Nat)×Int) W=>∃ (i:Nat) (ms:List ME),s.2=(i:Int)/\i<=L.length/\(∀ f∈L.take i,(zdz f.path).2=0)/\Ext [] H W.heap/\ms.map (·.f)=L.take i/\Mine W.heap H.size qj 4 s.1 (ms.flatMap zh1)/\∀ m∈ms,znw W.heap m) (fun s _=>(L.length-s.2).toNat)
  ⟨0,[],rfl,Nat.zero_le _,by simp,by rw [hw];exact .refl _ _,by simp,.inl ⟨rfl,rfl⟩,by simp⟩ ?_
 rintro ⟨x,_⟩ W ⟨i,ms,rfl,hi,hok,hxW,hms,hmW,hnW⟩
 have hml:ms.length=i:=by have:=congrArg List.length hms;simp at this;omega
 refine zx (fun hlt=>?_) (fun hge=>?_)
 ·have hil:i < L.length:=by simp only at hlt;omega
  have hget:=List.getElem?_eq_getElem hil
  generalize L[i]=f at hget
  refine zci (i:=i) z5f (by omega) rfl (hL.ext hxW (by simp)) rfl hget rfl ?_
  refine qki f rfl fun w3 hw3=>?_
  have hx3:Ext [] W.heap w3.heap:=by rw [hw3];exact .push _
  have hb3:w3.heap[W.heap.size]?=some (.cells (zol f).toArray za1 (0,0)):=by rw [hw3];exact zk
  refine je (s:=.str) (t:=strOf f.path) rfl hb3 rfl ?_
  refine zl (qey f.path rfl) ?_
  rintro e w4 ⟨y,rfl,hm4,hx4⟩
  refine⟨(y,(zdz f.path).2),rfl,?_⟩
  have hx04:=hx3.trans hx4
  refine zan (fun hne=>?_) (fun hz=>?_)
  ·have hfb:=z1r hget hne hok
   have hpc:zcp L=(zdz f.path).2:=by unfold zcp;rw [hfb,if_pos hne]
   exact⟨(none,0,0),by rw [hpc];rfl,hxW.trans hx04,fun h=>absurd (by rw [<-hpc,h]) hne⟩
  ·have hz:(zdz f.path).2=0:=hz
   refine qp rfl (hx4.get hb3 (by simp)) rfl ?_
   refine qm (s:=.any) (.agg (zh1 ⟨y,f⟩).toArray) (bE _ _ _ _ _) ?_
   have s04:=hx04.1
   have s0W:=hxW.1
   refine qav (i:=⟨y,f⟩) rfl (hmW.ext hx04 (by simp)) (by omega) (by omega) fun x' w6 hm6 hx6 hs6 _=>?_
   have hx06:Ext [] H w6.heap:=zi6 (hxW.trans hx04) (hmW.ext hx04 (by simp)) (Nat.le_refl _) hx6
   refine jd ((i+1:Nat):Int) (by simp) (by omega) (by omega) ?_
   refine⟨⟨i+1,ms++[⟨y,f⟩],rfl,by omega,zpn (q:=fun f=>(zdz f.path).2=0) hget hok hz,hx06,?_,hm6,fun m hm=>?_⟩,by simp only;omega⟩
   ·rw [List.map_append,hms,List.take_add_one,hget];rfl
   ·have hxx:=hmW.ext hx04 (by simp)
    rcases List.mem_append.1 hm with hm | hm
    ·exact ((hnW m hm).ext hx04 (by simp)).ext hx6 (zhz ((hnW m hm).ext hx04 (by simp)) hxx (by decide))
    ·simp only [List.mem_singleton] at hm
     subst hm
     exact (hm4.ext hx6 (zhz hm4 hxx (by decide))).mono (Nat.zero_le _)
 ·obtain rfl:i=L.length:=by simp only at hge;omega
  rw [List.take_length] at hok hms
  have hfb:=zy9 hok
  refine zl (qan (g:=qem) rfl (hL.ext hxW (by simp)) rfl (by omega) qkb) ?_
  rintro e w7 ⟨rfl,hx7⟩
  refine⟨L.any qem,rfl,?_⟩
  cases h1:L.any qem with
  | true=>
   have hpc:zcp L=1:=by unfold zcp;rw [hfb,h1];rfl
   exact zai rfl ⟨(none,0,0),by rw [hpc];rfl,hxW.trans hx7,fun h=>by rw [hpc] at h;cases h⟩
  | false=>
   refine jr rfl ?_
   refine zl (qan (g:=qdm) rfl (hL.ext (hxW.trans hx7) (by simp)) rfl (by omega) qkc) ?_
   rintro e w8 ⟨rfl,hx8⟩
   refine⟨L.any qdm,rfl,?_⟩
   cases h2:L.any qdm with
   | true=>
    have hpc:zcp L=134:=by unfold zcp;rw [hfb,h1,h2];rfl
    exact zai rfl ⟨(none,0,0),by rw [hpc];rfl,(hxW.trans hx7).trans hx8,fun h=>by rw [hpc] at h;cases h⟩
   | false=>
    have hpc:zcp L=0:=by unfold zcp;rw [hfb,h1,h2];rfl
    have hx78:=hx7.trans hx8
    exact jr rfl ⟨x,by rw [hpc];rfl,hxW.trans hx78,fun _=>⟨ms,hms,hmW.ext hx78 (by simp),fun m hm=>(hnW m hm).ext hx78 (by simp)⟩⟩
end Go.Proofs.YtbmegmbnlajbbaaGreatDoor
namespace Go.Fw
open Go Go.Proofs Go.Shelf Go.RowKit Go.Lib Go.Sort
variable {P:Program}{ρ:Ren}{α:Type} [Inhabited α]
theorem qen (L:SlLaysF0.n6 P ρ){k:Nat}(aE:∀ w,(isAgg (ρ.t 24)).run P w=.ok true w) (zE:∀ w,(Go.sizeOf (ρ.t 24)).run P w=.ok k w) (enc:α->List Value) (hk:∀ x,(enc x).length=k) (h0:0 < k)
  (h1:∀ x,∀ v∈enc x,v.oneCell'=true) (cf:α->α->Int) (hO:SWO (ltOf cf)){g:Nat}(eg:∀ args w,(callFunc g args).run P w=.ok (.enter g args) w) (e6:∀ args w,(callFunc (ρ.f 6) args).run P w=.ok (.enter (ρ.f 6) args) w)
  {w:World}{H:Heap}(hw:w.heap=H){B:Nat}{T:TypeId}{x:Option Addr×Nat×Nat}{xs:List α}
  (hcmp:∀ (W:World) y z,Ext (jk x) H W.heap->zy P g #[.agg (enc y).toArray,.agg (enc z).toArray] W fun e W'=>e=.returned (.int .i64 (cf y z))/\Ext [] W.heap W'.heap) (hM:Mine H B T k x (xs.flatMap enc)) (hlen:xs.length < 4611686018427387904) :
  zy P (ρ.f 6) #[.slice x.1 x.2.1 x.2.2,.func (.func g) #[] #[]] w fun e w'=>e=.returned (.tuple #[])/\∃ ys:List α,ys.Perm xs/\ys.Pairwise (fun a b=>¬cf b a < 0)/\Mine w'.heap B T k x (ys.flatMap enc)/\Ext (jk x) H w'.heap:=by
 subst hw
 have hl:=hM.len
 rw [zq enc hk] at hl
 have hxl:x.2.1=xs.length:=(Nat.eq_of_mul_eq_mul_right h0 hl).symm
 refine⟨e6 _ _,?_⟩
 rcases hM with⟨rfl,hnil⟩ | ⟨b,c,hx1,hB,hb,hc,hl2,hle,he⟩
 ·clear hxl hl
  have hx0:xs=[]:=by
   have:=congrArg List.length hnil
   rw [zq enc hk,List.length_nil] at this
   rcases Nat.mul_eq_zero.1 this with h | h
   ·exact List.eq_nil_of_length_eq_zero h
   ·omega
  refine (AnyF.slices_SortFunc_none L none 0 _ w).mono ?_
  rintro e w' ⟨he,hw'⟩
  subst hw'
  exact⟨⟨he,[],by rw [hx0],.nil,.inl ⟨rfl,rfl⟩,.refl _ _⟩,.refl _⟩
 ·obtain⟨xa,xl,xc⟩:=x
  simp only at hx1 hxl hc hl2 hle
  subst hx1 hxl
  have hlt:b < w.heap.size:=lt_of_get hb
  have hcl:xs.length * k<=c.size:=by rw [hc];exact Nat.mul_le_mul_right k hle
  have hget:∀ t,t < xs.length * k->c[t]?=(xs.flatMap enc)[t]?:=by
   intro t ht
   rw [<-he,Array.getElem?_toList,Array.getElem?_extract]
   rw [if_pos (by rw [zq enc hk];omega)]
   simp
  have hH:HoldsK enc k w b 0 xs.toArray:=by
   intro j hj
   simp only [size_flatK,List.size_toArray] at hj
   have h2:=zqh enc hk h0 xs.toArray j (by simpa using hj)
   refine⟨?_,?_⟩
   ·rw [Nat.zero_add,zu8 rfl hb,hget j hj]
    simpa using h2
   ·exact zta rfl hb
  have hgen:∀ (m:Nat) (os:Array Obj) (dk:Array α),(sortWorldK enc k w b 0 m dk os).heap=(w.heap.setIfInBounds b (.cells (putCells id 0 (flatK enc k dk) c) T (0,0)))++os:=by
   intro m os dk
   unfold sortWorldK grow putRowK putRow mapBlock
   simp only [Sort.ahead]
   congr 1
   apply Array.ext_getElem?
   intro i
   rw [Array.getElem?_modify]
   by_cases hib:b=i
   ·subst hib
    simp only [if_pos,Array.getElem?_setIfInBounds_self_of_lt hlt,hb,Option.map_some]
    rfl
   ·rw [if_neg hib,Array.getElem?_setIfInBounds_ne hib]
  have hextg:∀ (m:Nat) (os:Array Obj) (dk:Array α),Ext (jk (some ⟨b,0,none⟩,xs.length,xc)) w.heap (sortWorldK enc k w b 0 m dk os).heap:=by
   intro m os dk
   rw [hgen]
   refine⟨by simp,fun i hi hn=>?_⟩
   rw [Array.getElem?_append_left (by simpa using hi)]
   exact Array.getElem?_setIfInBounds_ne (by rintro rfl;exact hn (by simp [jk]))
  have hcon:=AnyQ.slices_SortFunc L k aE zE enc hk h1 cf hO g #[] b 0 xc xs.toArray w eg (fun m os dk _ x y=>?_) hH hlt (by simpa using hlen)
  ·simp only [List.size_toArray] at hcon
   refine hcon.mono ?_
   rintro e w' ⟨rfl,d',n,os,hp,hs,rfl⟩
   obtain⟨hps,_,hpp⟩:=hp
   have hps':d'.size=xs.length:=by simpa using hps
   have hperm:d'.toList.Perm xs:=by
    have h3:(d'.extract 0 xs.length).toList=d'.toList:=by
     simp only [Array.toList_extract,List.extract_eq_take_drop,List.drop_zero,Nat.sub_zero]
     exact List.take_of_length_le (by simp [hps'])
    have h4:((xs.toArray).extract 0 xs.length).toList=xs:=by simp
    rw [h3,h4] at hpp
    exact hpp
   have hsort:d'.toList.Pairwise (fun a b=>¬cf b a < 0):=by
    rw [List.pairwise_iff_getElem]
    intro i j hi hj hij
    have:=hs i j (Nat.zero_le _) hij (by simpa [hps'] using hj)
    simp only [ltOf,decide_eq_false_iff_not] at this
    rw [getElem!_pos d' j (by simpa using hj),getElem!_pos d' i (by simpa using hi)] at this
    simpa using this
   have hheap:(sortWorldK enc k w b 0 n d' os).heap=(w.heap.setIfInBounds b (.cells (putCells id 0 (flatK enc k d') c) T (0,0)))++os:=by
    unfold sortWorldK grow putRowK putRow mapBlock
    simp only [Sort.ahead]
    congr 1
    apply Array.ext_getElem?
    intro i
    rw [Array.getElem?_modify]
    by_cases hib:b=i
    ·subst hib
     simp only [if_pos,Array.getElem?_setIfInBounds_self_of_lt hlt,hb,Option.map_some]
     rfl
    ·rw [if_neg hib,Array.getElem?_setIfInBounds_ne hib]
   have hsz:(putCells id 0 (flatK enc k d') c).size=c.size:=by simp [putCells]
   have hext:Ext (jk (some ⟨b,0,none⟩,xs.length,xc)) w.heap (sortWorldK enc k w b 0 n d' os).heap:=by
    rw [hheap]
    refine⟨by simp,fun i hi hn=>?_⟩
    rw [Array.getElem?_append_left (by simpa using hi)]
    exact Array.getElem?_setIfInBounds_ne (by rintro rfl;exact hn (by simp [jk]))
   refine⟨⟨rfl,d'.toList,hperm,hsort,.inr ⟨b,_,rfl,hB,?_,hsz.trans hc,?_,hle,?_⟩,hext⟩,?_⟩
   ·rw [hheap,Array.getElem?_append_left (by simpa using hlt),Array.getElem?_setIfInBounds_self_of_lt hlt]
   ·rw [zq enc hk];simp [hps']
   ·apply List.ext_getElem?
    intro t
    rw [Array.getElem?_toList,Array.getElem?_extract,zq enc hk]
    simp only [Array.length_toList,hps']
    by_cases ht:t < xs.length * k
    ·rw [if_pos (by omega)]
     have h5:=zqh enc hk h0 d' t (by rw [hps'];exact ht)
     rw [h5]
     have h6:t < c.size:=by omega
     simp only [putCells,Nat.zero_add,Array.getElem?_mapIdx,Array.getElem?_eq_getElem h6,Option.map_some]
     rw [if_pos ⟨Nat.zero_le _,by simp [hps',ht]⟩]
     rfl
    ·rw [if_neg (by omega),List.getElem?_eq_none (by rw [zq enc hk];simp [hps'];omega)]
   ·unfold sortWorldK grow putRowK putRow mapBlock
    exact⟨rfl,rfl,rfl,by simp [Sort.ahead]⟩
  ·have h:=(hcmp (sortWorldK enc k w b 0 m dk os) x y (hextg m os dk)).2
   exact h.mono fun e W' ⟨⟨he,hx⟩,hc⟩=>⟨he,grown_of hx hc⟩
end Go.Fw
namespace Go.Proofs.YtbmegmbnlajbbaaGreatDoor
open Go Go.Fw Go.Proofs Go.Sort
theorem qdf {W:World}{y z:ME}(hy:znw W.heap y) (hz:znw W.heap z):zy P zfq #[.agg (zh1 y).toArray,.agg (zh1 z).toArray] W fun e W'=>e=.returned (.int .i64 (zg9 (nm y.f) (nm z.f)))/\Ext [] W.heap W'.heap:=by
 refine ztt ?_
 unfold zn1
 refine jm rfl fun w1 hw1=>?_
 have hx1:Ext [] W.heap w1.heap:=by rw [hw1];exact .push _
 have hb1:w1.heap[W.heap.size]?=some (.cells (zh1 y).toArray qj (0,0)):=by rw [hw1];exact zk
 refine jm rfl fun w2 hw2=>?_
 have hx2:Ext [] w1.heap w2.heap:=by rw [hw2];exact .push _
 have hb2:w2.heap[w1.heap.size]?=some (.cells (zh1 z).toArray qj (0,0)):=by rw [hw2];exact zk
 have hx:=hx1.trans hx2
 have hyl:y.hdr.2.1=(nm y.f).length:=by have:=Mine.len hy;simp at this;omega
 have hzl:z.hdr.2.1=(nm z.f).length:=by have:=Mine.len hz;simp at this;omega
 have h8:=(znu y.f).2
 refine je (s:=.slc) (t:=y.hdr) rfl (hx2.get hb1 (by simp)) rfl ?_
 refine je (s:=.slc) (t:=z.hdr) rfl hb2 rfl ?_
 refine zl (zu1 rfl (Mine.ext hy hx (by simp)).cells hyl (Mine.ext hz hx (by simp)).cells hzl (by omega)) ?_
 rintro e w3 ⟨rfl,hw3⟩
 refine⟨zg9 (nm y.f) (nm z.f),rfl,?_⟩
 exact⟨rfl,by rw [hw3];exact hx⟩
theorem qe8 {w:World}{H:Heap}{B:Nat}{x:Option Addr×Nat×Nat}{ms:List ME}(hw:w.heap=H) (hM:Mine H B qj 4 x (ms.flatMap zh1)) (hn:∀ m∈ms,znw H m) (hne:ms≠[]) (hlen:ms.length < 4611686018427387904) :
  zy P zcn #[.slice x.1 x.2.1 x.2.2,.func (.func zfq) #[] #[]] w fun e w'=>e=.returned (.tuple #[])/\∃ ys:List ME,ys.Perm ms/\ys.Pairwise (fun a b=>¬zg9 (nm b.f) (nm a.f) < 0)/\Mine w'.heap B qj 4 x (ys.flatMap zh1)/\Ext (jk x) H w'.heap:=by
 obtain⟨m0,hm0⟩:=List.exists_mem_of_ne_nil _ hne
 let α:={ m:ME // m∈ms }
 haveI:Inhabited α:=⟨⟨m0,hm0⟩⟩
 have hflat:ms.flatMap zh1=ms.attach.flatMap fun (m:α)=>zh1 m.1:=by
  conv=>lhs;rw [<-List.attach_map_subtype_val ms]
  rw [List.flatMap_map]
 rw [hflat] at hM
 have h:=qen (α:=α) Tryz.sortE (k:=4) (fun w=>by kernel_rfl) (fun w=>by kernel_rfl) (fun m=>zh1 m.1) (fun m=>zhd m.1) (by omega) (fun m=>zx9) (fun a b=>zg9 (nm a.1.f) (nm b.1.f)) (qc7 (α:=α) (fun m=>nm m.1.f)) (g:=zfq) (fun args w=>by kernel_rfl) (fun args w=>by kernel_rfl)
  (w:=w) (H:=H) (x:=x) (xs:=ms.attach) hw (fun W y z hx=>by
   have hk:∀ m:α,znw W.heap m.1:=fun m=>Mine.ext (hn m.1 m.2) hx (zhz (hn m.1 m.2) hM (by decide))
   exact qdf (hk y) (hk z)) hM (by rw [List.length_attach];exact hlen)
 refine h.mono ?_
 rintro e w' ⟨rfl,ys,hp,hs,hm,hx⟩
 refine⟨rfl,ys.map Subtype.val,?_,?_,?_,hx⟩
 ·have:=hp.map Subtype.val
  rw [List.attach_map_subtype_val] at this
  exact this
 ·rw [List.pairwise_map];exact hs
 ·rw [List.flatMap_map];exact hm
def z2h (L:List Fil):Prop:=∃ i,∃ h:i < L.length,nm L[i]=[]\/∃ g∈L.take i,nm g=nm L[i]
def qa9 (L:List Fil):Prop:=∃ f∈L,(nm f).dropLast≠[]/\∀ g∈L,nm g≠(nm f).dropLast
def zyy (L:List Fil):Prop:=∃ f∈L,∃ g∈L,nm g=(nm f).dropLast/\g.dir=false
def qba (L:List Fil):Prop:=∃ f∈L,64 < (kids L (nm f).dropLast).length
open Classical in
noncomputable def zco (L:List Fil):Int:=if z2h L then 5 else if qa9 L then 4 else if zyy L then 70 else if qba L then 8 else 0
theorem z8t {L:List Fil}(h:z2h L):zco L=5:=by unfold zco;rw [if_pos h]
theorem z8k {L:List Fil}(h5:¬z2h L) (h:qa9 L):zco L=4:=by unfold zco;rw [if_neg h5,if_pos h]
theorem z3w {L:List Fil}(h5:¬z2h L) (h4:¬qa9 L) (h:zyy L):zco L=70:=by unfold zco;rw [if_neg h5,if_neg h4,if_pos h]
theorem z9d {L:List Fil}(h5:¬z2h L) (h4:¬qa9 L) (h70:¬zyy L) (h:qba L):zco L=8:=by unfold zco;rw [if_neg h5,if_neg h4,if_neg h70,if_pos h]
theorem z18 {L:List Fil}(h5:¬z2h L) (h4:¬qa9 L) (h70:¬zyy L) (h:¬qba L):zco L=0:=by unfold zco;rw [if_neg h5,if_neg h4,if_neg h70,if_neg h]
theorem ztg {L:List Fil}(h:¬z2h L):(L.map nm).Nodup/\∀ f∈L,nm f≠[]:=by
 constructor
 ·rw [List.nodup_iff_pairwise_ne,List.pairwise_map,List.pairwise_iff_getElem]
  intro i j hi hj hij e
  exact h ⟨j,hj,.inr ⟨L[i],List.mem_take_iff_getElem.2 ⟨i,by omega,rfl⟩,e⟩⟩
 ·intro f hf e
  obtain⟨i,hi,rfl⟩:=List.getElem_of_mem hf
  exact h ⟨i,hi,.inl e⟩
theorem zvd {A B:List Fil}(h:A.Perm B) (p:Path):(kids A p).Perm (kids B p):=h.filter _
theorem qbz {L:List Fil}(h5:¬z2h L) (h8:¬qba L) (p:Path):(kids (zq8 L) p).length<=64:=by
 rw [(zvd (zkb (ztg h5).1).1 p).length_eq]
 by_cases hk:kids L p=[]
 ·rw [hk];simp
 ·obtain⟨f,hf⟩:=List.exists_mem_of_ne_nil _ hk
  obtain⟨h1,h2,h3⟩:=zh7 hf
  rw [<-h3]
  exact Nat.le_of_not_lt fun h=>h8 ⟨f,h1,h⟩
end Go.Proofs.YtbmegmbnlajbbaaGreatDoor
