/- Part 6 of the texts below the card, joined. -/
import Derived.Test.YtbmegmbnlajbbaaGreatDoorTCpe
import Derived.Laws.IdiomStrings
import Derived.Laws.AppendOwn
import Derived.Test.YtbmegmbnlajbbaaGreatDoorTCpd
namespace Go.Proofs.YtbmegmbnlajbbaaGreatDoor.Bl
open Go Go.Fw Go.Proofs
abbrev BE:=List UInt8×BV×Nat
theorem zu5 {a b:SM}{k:List UInt8}:zbx (a++b) k=match zbx a k with | some v=>some v | none=>zbx b k:=by
 induction a with
 | nil=>rfl
 | cons x a ih=>
  rw [List.cons_append]
  by_cases e:x.1=k
  ·rw [zb4 e,zb4 e]
  ·rw [zb3 e,zb3 e,ih]
theorem znn {pre t:SM}{y:BE}{k':List UInt8}(h:∀ x∈pre,x.1≠y.1):zaa (pre++y :: t) k'=if k'=y.1 then some y.2.1.2 else zaa (pre++t) k':=by
 unfold zaa
 rw [zu5,zu5]
 by_cases e:k'=y.1
 ·subst e
  rw [if_pos rfl,zhw h,zb4 rfl]
  rfl
 ·rw [if_neg e,zb3 (Ne.symm e)]
theorem zqe {pre t:SM}{y:BE}:zjj (pre++y :: t) ↔ zjj (pre++t)/\(∀ x∈pre,Lib.compareBytes x.1 y.1 < 0)/\∀ x∈t,Lib.compareBytes y.1 x.1 < 0:=by
 unfold zjj
 rw [List.pairwise_append,List.pairwise_append,List.pairwise_cons]
 constructor
 ·rintro ⟨h1,⟨h2,h3⟩,h4⟩
  exact⟨⟨h1,h3,fun a ha b hb=>h4 a ha b (by simp [hb])⟩,fun a ha=>h4 a ha y (by simp),h2⟩
 ·rintro ⟨⟨h1,h3,h4⟩,h5,h2⟩
  refine⟨h1,⟨h2,h3⟩,fun a ha b hb=>?_⟩
  rcases List.mem_cons.1 hb with rfl | hb
  ·exact h5 a ha
  ·exact h4 a ha b hb
theorem ztc {a b:List UInt8}(h:Lib.compareBytes a b < 0):a≠b:=by rintro rfl;rw [zgf.2 rfl] at h;omega
theorem zek {pre t:SM}{y x:BE}:x∈pre++y :: t ↔ x=y\/x∈pre++t:=by
 simp only [List.mem_append,List.mem_cons]
 constructor
 ·rintro (h | h | h)
  ·exact .inr (.inl h)
  ·exact .inl h
  ·exact .inr (.inr h)
 ·rintro (h | h | h)
  ·exact .inr (.inl h)
  ·exact .inl h
  ·exact .inr (.inr h)
theorem Apart.sub {r r':SM}(h:Apart r) (hs:∀ x∈r',x∈r):Apart r':=fun x hx y hy=>h x (hs x hx) y (hs y hy)
theorem Apart.mid {pre t:SM}{y:BE}(h:Apart (pre++t)) (hy:∀ x∈pre++t,∀ b∈jf y.2.1.1,b∉jf x.2.1.1):Apart (pre++y :: t):=by
 intro a ha b hb hne c hc hc2
 rcases zek.1 ha with e1 | ha' <;> rcases zek.1 hb with e2 | hb'
 ·exact hne (by rw [e1,e2])
 ·exact hy b hb' c (by rw [<-e1];exact hc) hc2
 ·exact hy a ha' c (by rw [<-e2];exact hc2) hc
 ·exact h a ha' b hb' hne c hc hc2
theorem ROk.sub {pre t:SM}{y:BE}(h:ROk (pre++y :: t)):ROk (pre++t):=⟨fun x hx=>h.len x (zek.2 (.inr hx)),(zqe.1 h.rise).1⟩
theorem ROk.mid {pre t:SM}{y:BE}(h:ROk (pre++t)) (hl:y.1.length=32) (h1:∀ x∈pre,Lib.compareBytes x.1 y.1 < 0) (h2:∀ x∈t,Lib.compareBytes y.1 x.1 < 0):ROk (pre++y :: t):=
 ⟨fun x hx=>by rcases zek.1 hx with rfl | hx;exact hl;exact h.len x hx,zqe.2 ⟨h.rise,h1,h2⟩⟩
theorem zzj {pre t:SM}{y:BE}:total (pre++y :: t)=y.2.1.2.length+total (pre++t):=by
 unfold total
 simp only [List.map_append,List.map_cons,List.sum_append,List.sum_cons]
 omega
theorem qfj {pre t:SM}{y y':BE}(h:zgo y=zgo y'):(pre++y :: t).flatMap zgo=(pre++y' :: t).flatMap zgo:=by
 simp only [List.flatMap_append,List.flatMap_cons,h]
theorem Cells.dropB {H:Heap}{a:Option Addr}{rl:SM}(h:Cells H a (rl.flatMap zgo)) (k cap:Nat) (hcap:rl.length<=cap):Cells H (if cap=k then a else a.map (·.add (k * 33))) ((rl.drop k).flatMap zgo):=by
 by_cases hk:k < rl.length
 ·rw [if_neg (by omega)]
  have hl:(rl.flatMap zgo).length=rl.length * 33:=zu zgo ze9 _
  have:=h.part (k * 33) ((rl.length-k) * 33) (by rw [hl,<-Nat.add_mul];exact Nat.mul_le_mul_right 33 (by omega))
  have he:((rl.flatMap zgo).drop (k * 33)).take ((rl.length-k) * 33)=(rl.drop k).flatMap zgo:=by
   have h1:rl.flatMap zgo=(rl.take k).flatMap zgo++(rl.drop k).flatMap zgo:=by rw [<-List.flatMap_append,List.take_append_drop]
   have h2:((rl.take k).flatMap zgo).length=k * 33:=by rw [zu zgo ze9,List.length_take,Nat.min_eq_left (by omega)]
   have h3:((rl.drop k).flatMap zgo).length=(rl.length-k) * 33:=by rw [zu zgo ze9,List.length_drop]
   rw [h1,List.drop_left' h2,List.take_of_length_le (by omega)]
  rwa [he] at this
 ·left;rw [List.drop_eq_nil_of_le (by omega)];rfl
theorem Cells.takeB {H:Heap}{a:Option Addr}{rl:SM}(h:Cells H a (rl.flatMap zgo)) (k:Nat):Cells H a ((rl.take k).flatMap zgo):=by
 have:=h.take (((rl.take k).flatMap zgo).length)
 have h1:rl.flatMap zgo=(rl.take k).flatMap zgo++(rl.drop k).flatMap zgo:=by rw [<-List.flatMap_append,List.take_append_drop]
 rwa [h1,List.take_left] at this
theorem qbu {rl:SM}:zcs (rl.flatMap zgo):=by
 intro v hv
 obtain⟨x,_,hx⟩:=List.mem_flatMap.1 hv
 exact qb5 v hx
theorem qgj {w:World}{H:Heap}{B:Nat}{x:Option Addr×Nat×Nat}{a:Option Addr}{l c:Nat}{r1 r2:SM}(hw:w.heap=H) (hx:Mine H B zbr 33 x (r1.flatMap zgo)) (hB:B<=H.size) (hL:Cells H a (r2.flatMap zgo)) (hl:l=r2.length) (hlen:r1.length+r2.length < 1099511627776){K:(Option Addr×Nat×Nat)->World->Prop}
  (hK:∀ x' w',Mine w'.heap B zbr 33 x' ((r1++r2).flatMap zgo)->x'.2.1=r1.length+r2.length->Ext (jf x) H w'.heap->(∀ b,b∈jf x'->b∈jf x\/H.size<=b)->K x' w') :
  zas P (Builtin.append_ #[jk,jk] jk #[.slice x.1 x.2.1 x.2.2,.slice a l c]) .slc w K:=by
 have hxl:=zfq hx
 refine zch EB (by omega) uB (zbf uB) hw hx hB (Src.slc hw hL (by rw [zu zgo ze9,hl])) qbu (by omega) ?_
 intro x' w' hm hl' hx' hs
 refine hK x' w' ?_ (by omega) hx' hs
 rw [List.flatMap_append];exact hm
set_option maxHeartbeats 2000000 in
theorem qb9 {w:World}{H:Heap}{fp:List Nat}{p:Nat}{q:Int}{rl:SM}{k:List UInt8}{at_:Int}{t:UInt8}(hw:w.heap=H) (hS:zc4 H fp p q rl) (hk:k.length=32) (hn:rl.length < 1099511627776) :
  qc P zhm #[.pointer (some ⟨p,0,none⟩),arr k,.int .i64 at_,.int .u8 (t.toNat:Int)] w fun e w'=>e=.returned (.int .i64 (zcp (zaa rl k) at_ t))/\∃ rl',zc4 w'.heap fp p q rl'/\Ext fp H w'.heap /\
   ∀ k',zaa rl' k'=if zcp (zaa rl k) at_ t=0/\k'=k then (zaa rl k).map fun L=>spoilt L at_ t else zaa rl k':=by
 refine zqi ?_
 unfold zkp
 refine jv hw fun w1 hw1=>?_
 have hx1:Ext [] H w1.heap:=by rw [hw1];exact .push _
 refine qx rfl (by rw [hw1];exact zn) (by simp [arr,Value.cells,byteCells,hk]) ?_
 refine zk (zzq rfl (hS.ext hx1 (by simp)) hk hn) ?_
 rintro e w2 ⟨pre,rest,rfl,hsp,hx2⟩
 refine⟨((pre.length:Int),hit rest k),rfl,?_⟩
 have hx02:=hx1.trans hx2
 have keep:∀ (C:Int),C≠0->zcp (zaa rl k) at_ t=C->(Ending.returned (.int .i64 C)=Ending.returned (.int .i64 (zcp (zaa rl k) at_ t))/\∃ rl',zc4 w2.heap fp p q rl'/\Ext fp H w2.heap /\
   ∀ k',zaa rl' k'=if zcp (zaa rl k) at_ t=0/\k'=k then (zaa rl k).map fun L=>spoilt L at_ t else zaa rl k'):=by
  intro C hC hs
  refine⟨by rw [hs],rl,hS.ext hx02 (by simp),hx02.mono (by simp),fun k'=>?_⟩
  rw [if_neg (by rw [hs];exact fun h=>hC h.1)]
 cases hh:hit rest k with
 | false=>
  refine zah rfl ?_
  exact keep 50 (by omega) (by rw [zm8 hsp hS.rise hh];rfl)
 | true=>
  refine jm rfl ?_
  obtain⟨y,tl,rfl,hyk,hvy,hget,hmem⟩:=zpr hsp hS.rise hh
  obtain⟨x,h1,h2,h3,h4,h5,h6,h7⟩:=hS
  have hxl:=zfq h2
  have hyl:=zos h5 hget
  have h12:=hx02.get h1 (by simp)
  have h22:=h2.ext hx02 (by simp)
  have one:∀ h:at_ < 0\/(y.2.1.2.length:Int)<=at_\/t=0,zcp (zaa rl k) at_ t=1:=by intro h;rw [hvy];simp only [zcp,if_pos h]
  refine zal ?_
  refine zq (fun h=>keep 1 (by omega) (one (.inl h))) (fun ha0=>?_)
  simp only [zy,jo,Nat.zero_add]
  refine je (s:=.slc) (t:=x) rfl h12 rfl ?_
  refine zjs rfl h22.cells hxl hget rfl ?_
  refine zq (fun h=>keep 1 (by omega) (one (.inr (.inl (by omega))))) (fun hal=>?_)
  refine zax (fun h=>keep 1 (by omega) (one (.inr (.inr (UInt8.toNat_inj.1 (by simpa using h)))))) (fun ht=>?_)
  obtain⟨i,rfl⟩:∃ i:Nat,at_=(i:Int):=⟨at_.toNat,by omega⟩
  have hil:i < y.2.1.2.length:=by omega
  have hs0:zcp (zaa rl k) (i:Int) t=0:=by
   rw [hvy]
   simp only [zcp]
   rw [if_neg]
   rintro (h | h | h)
   ·omega
   ·omega
   ·subst h;exact ht rfl
  obtain⟨hO,hOf⟩:=h5 y hmem
  obtain⟨bb,cc,hxa,hbb,hic,hci,hput⟩:=(hO.ext hx02 (by simp)).put (i:=i) (by simpa using hil) (.int .u8 ((y.2.1.2.getD i 0 ^^^ t).toNat:Int))
  refine je (s:=.slc) (t:=x) rfl h12 rfl ?_
  refine zjs rfl h22.cells hxl hget rfl ?_
  rw [hxa]
  refine zkt i rfl (by omega) ?_
  rw [Nat.zero_add]
  refine je (t:=((y.2.1.2.getD i 0).toNat:Int)) rfl hbb (by rw [hci,zdi hil];rfl) ?_
  refine qjz _ _ ?_
  refine zkt i rfl (by omega) ?_
  rw [Nat.zero_add]
  refine za9 rfl hbb hic fun w3 hw3=>?_
  rw [<-hw3] at hput
  have hbf:bb∈fp:=hOf bb (by simp only [jf];rw [hxa];simp)
  have hx23:Ext [bb] w2.heap w3.heap:=by rw [hw3];exact Ext.set _ (by simp)
  have heq:=hsp.eq
  subst heq
  obtain⟨_,hlo,hhi⟩:=zqe.1 h7.rise
  have hlen:(spoilt y.2.1.2 (i:Int) t).length=y.2.1.2.length:=by simp [spoilt]
  have hspb:byteCells (spoilt y.2.1.2 (i:Int) t)=(byteCells y.2.1.2).set i (.int .u8 ((y.2.1.2.getD i 0 ^^^ t).toNat:Int)):=by
   simp only [spoilt,byteCells,Int.toNat_natCast,List.map_set]
  refine⟨by rw [hs0],pre++(y.1,(y.2.1.1,spoilt y.2.1.2 (i:Int) t),y.2.2) :: tl,⟨x,hx23.get h12 ?_,?_,h3,h4,?_,?_,?_⟩,(hx02.mono (by simp)).trans (hx23.mono (by simpa using hbf)),?_⟩
  ·simp only [List.mem_singleton];rintro rfl;rw [h12] at hbb;cases hbb
  ·have henc:(pre++(y.1,(y.2.1.1,spoilt y.2.1.2 (i:Int) t),y.2.2) :: tl).flatMap zgo=(pre++y :: tl).flatMap zgo:=qfj rfl
   rw [henc]
   refine h22.ext hx23 fun b hb=>?_
   simp only [List.mem_singleton];rintro rfl
   rcases h22 with⟨rfl,_⟩ | ⟨b2,c2,hx2',_,hb2,_⟩
   ·simp [jf] at hb
   ·simp only [jf,hx2',List.mem_singleton] at hb;subst hb;rw [hbb] at hb2;cases hb2
  ·intro z hz
   rcases zek.1 hz with rfl | hz
   ·refine⟨?_,hOf⟩
    show Mine _ _ _ _ _ (byteCells (spoilt y.2.1.2 (i:Int) t))
    rw [hspb];exact hput
   ·obtain⟨hz1,hz2⟩:=h5 z (zek.2 (.inr hz))
    refine⟨(hz1.ext hx02 (by simp)).ext hx23 fun b hb=>?_,hz2⟩
    simp only [List.mem_singleton];rintro rfl
    refine h6 y hmem z (zek.2 (.inr hz)) ?_ b (by simp only [jf];rw [hxa];simp) hb
    rcases List.mem_append.1 hz with hz | hz
    ·exact (ztc (hlo z hz)).symm
    ·exact ztc (hhi z hz)
  ·refine Apart.mid (h6.sub fun z hz=>zek.2 (.inr hz)) fun z hz b hb=>?_
   refine h6 y hmem z (zek.2 (.inr hz)) ?_ b hb
   rcases List.mem_append.1 hz with hz | hz
   ·exact (ztc (hlo z hz)).symm
   ·exact ztc (hhi z hz)
  ·exact h7.sub.mid (h7.len y hmem) hlo hhi
  ·intro k'
   rw [hs0,hvy,znn (y:=(y.1,(y.2.1.1,spoilt y.2.1.2 (i:Int) t),y.2.2)) fun z hz=>ztc (hlo z hz)]
   show (if k'=y.1 then some (spoilt y.2.1.2 (i:Int) t) else _)=_
   by_cases e:k'=k
   ·subst e;simp [hyk]
   ·rw [if_neg (by rw [hyk];exact e),if_neg (fun h=>e h.2),znn (y:=y) (fun z hz=>ztc (hlo z hz)),if_neg (by rw [hyk];exact e)]
theorem z92 {H:Heap}{B:Nat}{T:TypeId}{sz:Nat}{x:Option Addr×Nat×Nat}{vs:List Value}(h:Mine H B T sz x vs):x.2.1<=x.2.2:=by
 rcases h with⟨rfl,_⟩ | ⟨b,c,_,_,_,_,_,h,_⟩
 ·exact Nat.le_refl _
 ·exact h
theorem zbh {H:Heap}{B:Nat}{T:TypeId}{sz:Nat}{x:Option Addr×Nat×Nat}{vs:List Value}(h:Mine H B T sz x vs):∀ b∈jf x,b < H.size/\∃ c,H[b]?=some (.cells c T (0,0)):=by
 intro b hb
 rcases h with⟨rfl,_⟩ | ⟨b2,c,hx,_,hb2,_⟩
 ·simp [jf] at hb
 ·simp only [jf,hx,List.mem_singleton] at hb
  subst hb;exact⟨lt_of_get hb2,c,hb2⟩
theorem qd4 {H:Heap}{a:Option Addr}{l c:Nat}{rl:SM}{i:Nat}{n:Int}(hL:Cells H a (rl.flatMap zgo)) (hlen:l=rl.length) (hc:l<=c) (hi:i<=rl.length) (hn:n=(i:Int)) :
  ∃ a',(∀ w,(Instr.sliceAt jk (.slice a l c) none (some (.int .i64 n)) none).run P w=.ok (.slice a' i c) w)/\Cells H a' ((rl.take i).flatMap zgo):=by
 refine⟨_,fun w=>za1 (l:=0) (h:=i) uB szB .no (.yes hn) (Nat.zero_le _) (by omega),?_⟩
 exact Cells.takeB (rl:=rl) (Cells.dropB hL 0 c (by omega)) i
theorem z5p {H:Heap}{a:Option Addr}{l c:Nat}{rl:SM}{i:Nat}{n:Int}(hL:Cells H a (rl.flatMap zgo)) (hlen:l=rl.length) (hc:l<=c) (hi:i<=rl.length) (hn:n=(i:Int)) :
  ∃ a',(∀ w,(Instr.sliceAt jk (.slice a l c) (some (.int .i64 n)) none none).run P w=.ok (.slice a' (l-i) (c-i)) w)/\Cells H a' ((rl.drop i).flatMap zgo):=by
 refine⟨_,fun w=>za1 (l:=i) (h:=l) uB szB (.yes hn) .no (by omega) (by omega),?_⟩
 exact Cells.dropB hL i c (by omega)
theorem z1z.sub {H:Heap}{fp:List Nat}{r r':SM}(h:z1z H fp r) (hs:∀ x∈r',x∈r):z1z H fp r':=fun x hx=>h x (hs x hx)
theorem z1z.mono {H:Heap}{fp fp':List Nat}{r:SM}(h:z1z H fp r) (hs:∀ x∈fp,x∈fp'):z1z H fp' r:=fun x hx=>⟨(h x hx).1,fun b hb=>hs b ((h x hx).2 b hb)⟩
theorem z1z.off {H H':Heap}{fp:List Nat}{r:SM}{b:Nat}{c:Array Value}{T:TypeId}{o:Obj}(h:z1z H fp r) (hb:H[b]?=some (.cells c T (0,0))) (hT:T≠xg) (hx:Ext [b] H H'):z1z H' fp r:=by
 intro x hxr
 refine⟨(h x hxr).1.ext hx fun b' hb'=>?_,(h x hxr).2⟩
 simp only [List.mem_singleton];rintro rfl
 obtain⟨_,c',h'⟩:=zbh (h x hxr).1 _ hb'
 rw [hb] at h'
 injection h' with h'
 injection h' with _ h2
 exact hT h2
set_option maxHeartbeats 2000000 in
theorem qf8 {w:World}{H:Heap}{fp:List Nat}{p:Nat}{q:Int}{rl:SM}{k:List UInt8}(hw:w.heap=H) (hS:zc4 H fp p q rl) (hk:k.length=32) (hn:rl.length < 549755813888) :
  qc P zh1 #[.pointer (some ⟨p,0,none⟩),arr k] w fun e w'=>e=.returned (.int .i64 (if (zaa rl k).isSome then 0 else 50))/\∃ rl' fp',zc4 w'.heap fp' p q rl'/\Ext fp H w'.heap/\(∀ b∈fp',b∈fp\/(H.size<=b/\b < w'.heap.size)) /\
   ∀ k',zaa rl' k'=if k'=k then none else zaa rl k':=by
 refine zr1 ?_
 unfold zl2
 refine jv hw fun w1 hw1=>?_
 have hx1:Ext [] H w1.heap:=by rw [hw1];exact .push _
 refine qx rfl (by rw [hw1];exact zn) (by simp [arr,Value.cells,byteCells,hk]) ?_
 refine zk (zzq rfl (hS.ext hx1 (by simp)) hk (by omega)) ?_
 rintro e w2 ⟨pre,rest,rfl,hsp,hx2⟩
 refine⟨((pre.length:Int),hit rest k),rfl,?_⟩
 have hx02:=hx1.trans hx2
 have hhv:=z5r hsp hS.rise
 rw [<-hhv]
 cases hh:hit rest k with
 | false=>
  refine zah rfl ?_
  refine⟨rfl,rl,fp,hS.ext hx02 (by simp),hx02.mono (by simp),fun b hb=>.inl hb,fun k'=>?_⟩
  split
  ·rename_i e;rw [e];exact zm8 hsp hS.rise hh
  ·rfl
 | true=>
  refine jm rfl ?_
  obtain⟨y,tl,rfl,hyk,hvy,hget,hmem⟩:=zpr hsp hS.rise hh
  obtain⟨x,h1,h2,h3,h4,h5,h6,h7⟩:=hS
  have heq:=hsp.eq
  subst heq
  obtain⟨_,hlo,hhi⟩:=zqe.1 h7.rise
  have hxl:=zfq h2
  have hxc:=z92 h2
  have hln:(pre++y :: tl).length=pre.length+1+tl.length:=by simp;omega
  refine jl rfl fun w3 hw3=>?_
  have hx03:Ext [] H w3.heap:=by rw [hw3];exact hx02
  have h13:=hx03.get h1 (by simp)
  have h23:=h2.ext hx03 (by simp)
  simp only [zy,jo,Nat.zero_add]
  refine jd ((pre.length+1:Nat):Int) (by omega) (by omega) (by omega) ?_
  obtain⟨a1,hr1,hC1⟩:=qd4 (i:=pre.length) h23.cells hxl hxc (by omega) rfl
  obtain⟨a2,hr2,hC2⟩:=z5p (i:=pre.length+1) h23.cells hxl hxc (by omega) rfl
  rw [List.take_left] at hC1
  rw [show (pre++y :: tl).drop (pre.length+1)=tl from by rw [show pre++y :: tl=(pre++[y])++tl from by simp];exact List.drop_left' (by simp)] at hC2
  refine je (s:=.slc) (t:=x) rfl h13 rfl ?_
  refine qp (s:=.slc) (a1,pre.length,x.2.2) (hr1 _) ?_
  refine je (s:=.slc) (t:=x) rfl h13 rfl ?_
  refine qp (s:=.slc) (a2,x.2.1-(pre.length+1),x.2.2-(pre.length+1)) (hr2 _) ?_
  refine qj1 rfl fun w4 hx4 hm4=>?_
  have hx04:=hx03.trans hx4
  have h14:=hx04.get h1 (by simp)
  refine⟨qp (s:=.slc) (a2,x.2.1-(pre.length+1),x.2.2-(pre.length+1)) (hr2 _) rfl,?_⟩
  refine⟨je (s:=.slc) (t:=x) rfl h14 rfl rfl,?_⟩
  refine⟨qp (s:=.slc) (a1,pre.length,x.2.2) (hr1 _) rfl,?_⟩
  refine⟨je (s:=.slc) (t:=x) rfl h14 rfl rfl,?_⟩
  refine qgj (r1:=[]) (r2:=pre) rfl hm4 hx4.1 (hC1.ext hx4 (by simp)) rfl (by simp;omega) ?_
  intro x5 w5 hm5 hl5 hx5 hs5
  have hs34:=hx4.1
  have hs03:=hx03.1
  have hx05:Ext [] H w5.heap:=hx04.own hx5 (by intro b hb;simp [jf] at hb;omega)
  have hx35:Ext [] w3.heap w5.heap:=hx4.own hx5 (by intro b hb;simp [jf] at hb;omega)
  have h15:=hx05.get h1 (by simp)
  refine⟨qp (s:=.slc) (a2,x.2.1-(pre.length+1),x.2.2-(pre.length+1)) (hr2 _) rfl,?_⟩
  refine⟨je (s:=.slc) (t:=x) rfl h15 rfl rfl,?_⟩
  rw [List.nil_append] at hm5
  refine qgj (r1:=pre) (r2:=tl) rfl hm5 (Nat.le_trans hs34 hx5.1) (hC2.ext hx35 (by simp)) (by simp only;omega) (by omega) ?_
  intro x6 w6 hm6 hl6 hx6 hs6
  have hx06:Ext [] H w6.heap:=hx05.own hx6 (by intro b hb;have:=xu hm5 b hb;omega)
  have h16:=hx06.get h1 (by simp)
  refine za9 rfl h16 (by simp) fun w7 hw7=>?_
  have hx67:Ext [p] w6.heap w7.heap:=by rw [hw7];exact Ext.set _ (by simp)
  have hg6:=xu hm6
  have hm7:Mine w7.heap 0 zbr 33 x6 ((pre++tl).flatMap zgo):=by
   refine (hm6.ext hx67 fun b hb=>?_).mono (Nat.zero_le _)
   have:=hg6 b hb
   have:=lt_of_get h1
   simp only [List.mem_singleton];omega
  refine⟨rfl,pre++tl,fp++jf x6,⟨x6,by rw [hw7];exact qg h16,hm7,by simp [h3],fun b hb=>by simp [hb],?_,h6.sub fun z hz=>zek.2 (.inr hz),h7.sub⟩,(hx06.mono (by simp)).trans (hx67.mono (by simpa using h3)),?_,?_⟩
  ·have hV6:z1z w6.heap fp (pre++tl):=(h5.ext hx06 (by simp)).sub fun z hz=>zek.2 (.inr hz)
   exact (hV6.off (o:=.map #[] 0) h16 (by decide) hx67).mono fun b hb=>by simp [hb]
  ·intro b hb
   rcases List.mem_append.1 hb with hb | hb
   ·exact .inl hb
   ·exact .inr ⟨by have:=hg6 b hb;omega,(zbh hm7 b hb).1⟩
  ·intro k'
   by_cases e:k'=k
   ·rw [if_pos e,e,<-hyk]
    unfold zaa
    rw [zhw fun z hz=>?_];rfl
    rcases List.mem_append.1 hz with hz | hz
    ·exact ztc (hlo z hz)
    ·exact (ztc (hhi z hz)).symm
   ·rw [if_neg e,znn (y:=y) (fun z hz=>ztc (hlo z hz)),if_neg (by rw [hyk];exact e)]
theorem zzi {place:Nat->Option (Nat×Nat)}{cells:Array Value}{i off size:Nat}{v:Value}{rest:List (Nat×Value)}(hp:place i=some (off,size)) (hs:v.cells.size=size) (ho:off+size<=cells.size):Instr.fill place cells ((i,v) :: rest)=Instr.fill place (setCells cells off v.cells.toList) rest:=by
 simp only [Instr.fill,hp,hs,ne_eq,not_true_eq_false,decide_false,Bool.false_or]
 rw [if_neg (by simp;omega)]
 have h:=zlm off v.cells.toList 0 cells
 simp only [Nat.add_zero] at h
 rw [<-Array.foldl_toList,Array.toList_zipIdx,h]
theorem z7l {x:Option Addr×Nat×Nat}:(zbv x).cells=#[zbv x]:=rfl
theorem qew (u v:Value):P.built zbr [(0,u),(1,v)]=Instr.fill (fun i=>#[(0,32),(32,1)][i]?) ((List.replicate 32 (Value.int .u8 0))++[Value.slice none 0 0]).toArray [(0,u),(1,v)]:=by kernel_rfl
theorem qjo {A:List Value}(hA:A.length=32) (x:Option Addr×Nat×Nat) (w:World):(Instr.build zbr #[(0,.agg A.toArray),(1,zbv x)]).run P w=.ok (.agg (A++[zbv x]).toArray) w:=by
 refine run_build w _ _ _ ?_
 show P.built zbr [(0,.agg A.toArray),(1,zbv x)]=_
 have hc:(Value.agg A.toArray).cells=A.toArray:=rfl
 rw [qew,zzi (off:=0) (size:=32) rfl (by rw [hc];simpa using hA) (by simp),zzi (off:=32) (size:=1) rfl rfl (by simp)]
 simp only [Instr.fill]
 congr 1
 rw [hc,z7l]
 apply Array.ext_getElem?
 intro j
 show (setCells (setCells _ 0 A.toArray.toList) 32 [zbv x])[j]?=_
 rw [zcv (by simp),zcv (by simp;omega)]
 simp only [List.length_cons,List.length_nil,List.getElem?_toArray,hA]
 by_cases h1:j < 32
 ·rw [if_neg (by omega),if_pos (by omega),List.getElem?_append_left (by omega)]
  simp
 ·by_cases h2:j=32
  ·subst h2;simp [hA]
  ·rw [if_neg (by omega),if_neg (by omega)]
   rw [List.getElem?_eq_none (by simp;omega),List.getElem?_eq_none (by simp;omega)]
theorem qg2 {w:World}{H:Heap}(hw:w.heap=H) (y:BE) (h32:y.1.length=32){K:(Option Addr×Nat×Nat)->World->Prop}(hK:∀ a w1,Ext [] H w1.heap->Cells w1.heap a ([y].flatMap zgo)->K (a,1,1) w1) :
  za7 P (Instr.build zbr #[(0,.agg (byteCells y.1).toArray),(1,.slice y.2.1.1.1 y.2.1.1.2.1 y.2.1.1.2.2)]) .any w fun t=>zas P (Instr.buildSlice jk 1 #[(0,t)]) .slc w K:=by
 refine qp (s:=.any) _ (qjo (A:=byteCells y.1) (by rw [ji,h32]) y.2.1.1 w) ?_
 have hc:(Value.agg (byteCells y.1++[zbv y.2.1.1]).toArray).cells=(zgo y).toArray:=by
  show (byteCells y.1++[zbv y.2.1.1]).toArray=_
  rw [zgo,z8r h32]
 refine zam (s:=.slc) (some ⟨w.heap.size,0,none⟩,1,1) _ (zd7 EB uB (v:=.agg (byteCells y.1++[zbv y.2.1.1]).toArray) (by rw [hc];simp [ze9]) (by omega) (by omega)) ?_
 refine hK _ _ (by rw [<-hw];exact .push _) (.inr ⟨w.heap.size,0,_,_,_,rfl,zn,?_,?_⟩)
 ·rw [hc];simp
 ·rw [hc];simp
def bare (r:SM):List (List UInt8×List UInt8):=r.map fun x=>(x.1,x.2.1.2)
theorem z1u:∀ {r s:SM},bare r=bare s->∀ k,zaa r k=zaa s k
 | [],[],_,_=>rfl
 | [],y :: s,h,_=>by simp [bare] at h
 | x :: r,[],h,_=>by simp [bare] at h
 | x :: r,y :: s,h,k=>by
  simp only [bare,List.map_cons,List.cons.injEq,Prod.mk.injEq] at h
  obtain⟨⟨h1,h2⟩,h3⟩:=h
  have ih:=z1u (r:=r) (s:=s) h3 k
  unfold zaa at ih |-
  by_cases e:x.1=k
  ·rw [zb4 e,zb4 (by rw [<-h1];exact e)];simp [h2]
  ·rw [zb3 e,zb3 (by rw [<-h1];exact e)];exact ih
theorem z8q {r s:SM}(h:bare r=bare s):r.map (·.1)=s.map (·.1):=by
 have:=congrArg (List.map (·.1)) h
 simpa [bare,Function.comp_def] using this
theorem qf7 {r s:SM}(h:bare r=bare s) (hs:ROk s):ROk r:=by
 have hk:=z8q h
 refine⟨fun x hx=>?_,?_⟩
 ·have:x.1∈s.map (·.1):=by rw [<-hk];exact List.mem_map.2 ⟨x,hx,rfl⟩
  obtain⟨y,hy,e⟩:=List.mem_map.1 this
  rw [<-e];exact hs.len y hy
 ·have h1:(s.map (·.1)).Pairwise fun a b=>Lib.compareBytes a b < 0:=List.pairwise_map.2 hs.rise
  rw [<-hk] at h1
  exact List.pairwise_map.1 h1
theorem z4l {r s:SM}(h:bare r=bare s):r.length=s.length:=by simpa [bare] using congrArg List.length h
set_option maxHeartbeats 4000000 in
theorem qcn {w:World}{H:Heap}{fp:List Nat}{p:Nat}{q:Int}{rl:SM}(hw:w.heap=H) (hS:zc4 H fp p q rl) (hn:rl.length < 549755813888) (hlen:∀ x∈rl,x.2.1.2.length < 1099511627776) :
  qc P zhl #[.pointer (some ⟨p,0,none⟩)] w fun e w'=>∃ p' fp' rl',e=.returned (.pointer (some ⟨p',0,none⟩))/\zc4 w'.heap fp' p' q rl'/\Ext [] H w'.heap/\(∀ b∈fp',H.size<=b/\b < w'.heap.size)/\bare rl'=bare rl:=by
 obtain⟨x,h1,h2,h3,h4,h5,h6,h7⟩:=hS
 have hxl:=zfq h2
 refine zqa ?_
 unfold zkd
 simp only [zy,jo,Nat.zero_add]
 refine je (s:=.int .i64) (t:=q) hw h1 rfl ?_
 refine qp (s:=.any) _ (bR q _) ?_
 refine jv hw fun w1 hw1=>?_
 have hx1:Ext [] H w1.heap:=by rw [hw1];exact .push _
 have hs1:w1.heap.size=H.size+1:=by rw [hw1];simp
 refine jg (fun (s:Int) W=>∃ (i:Nat) (xc:Option Addr×Nat×Nat) (cl:SM),s=(i:Int)/\i<=rl.length/\Ext [] H W.heap/\H.size < W.heap.size/\W.heap[H.size]?=some (.cells #[.int .i64 q,zbv xc] zga (0,0))/\Mine W.heap (H.size+1) zbr 33 xc (cl.flatMap zgo) /\
  bare cl=bare (rl.take i)/\(∀ z∈cl,Mine W.heap (H.size+1) xg 1 z.2.1.1 (byteCells z.2.1.2))/\Apart cl) (fun s _=>(rl.length-s).toNat)
  ⟨0,(none,0,0),[],rfl,Nat.zero_le _,hx1,by omega,by rw [hw1];exact zn,.inl ⟨rfl,rfl⟩,rfl,(by intro z hz;cases hz),(by intro z hz;cases hz)⟩ ?_
 rintro _ W ⟨i,xc,cl,rfl,hi,hxW,hsW,hbW,hmW,hbare,hvals,hap⟩
 refine je (s:=.slc) (t:=x) rfl (hxW.get h1 (by simp)) rfl ?_
 refine zq (fun hlt=>?_) (fun hge=>?_)
 ·have hil:i < rl.length:=by omega
  have hget:=List.getElem?_eq_getElem hil
  have hmem:rl[i]∈rl:=List.getElem_mem hil
  have hk:=h7.len _ hmem
  have hyl:=zos h5 hget
  have hLl:=hlen _ hmem
  have hcl:cl.length=i:=by rw [z4l hbare];simp;omega
  have hcll:xc.2.1=i:=by have:=hmW.len;rw [zu zgo ze9] at this;omega
  obtain⟨hyM,_⟩:=h5 _ hmem
  generalize rl[i]=y at *
  refine jl rfl fun w3 hw3=>?_
  have hx3:Ext [] W.heap w3.heap:=by rw [hw3];exact .refl _ _
  have hx03:Ext [] H w3.heap:=hxW.trans hx3
  have hb3:=hx3.get hbW (by simp)
  have h13:=hx03.get h1 (by simp)
  have h23:=h2.ext hx03 (by simp)
  refine je (s:=.slc) (t:=xc) rfl hb3 rfl ?_
  refine je (s:=.slc) (t:=x) rfl h13 rfl ?_
  refine zcd ze9 (by omega) h23.cells hxl hget rfl fun rb o c T fr _ hrb hrs hrc _=>?_
  have hkey:c.extract o (o+32)=(byteCells y.1).toArray:=zzt hk hrs hrc
  refine zf9 rfl hrb (by omega) ?_
  rw [hkey]
  refine je (s:=.slc) (t:=x) rfl h13 rfl ?_
  refine zcd ze9 (by omega) h23.cells hxl hget rfl fun rb' o' c' T' fr' _ hrb' hrs' hrc' _=>?_
  simp only [jo]
  refine je (s:=.slc) (t:=y.2.1.1) rfl hrb' (zyr hrc') ?_
  refine qgf rfl fun w4 hx4 hm4=>?_
  have hx04:=hx03.trans hx4
  refine⟨je (s:=.slc) (t:=y.2.1.1) rfl (hx4.get hrb' (by simp)) (zyr hrc') rfl,?_⟩
  refine⟨je (s:=.slc) (t:=x) rfl (hx04.get h1 (by simp)) rfl rfl,?_⟩
  refine⟨zf9 rfl (hx4.get hrb (by simp)) (by omega) (by rw [hkey]),?_⟩
  refine⟨je (s:=.slc) (t:=x) rfl (hx04.get h1 (by simp)) rfl rfl,?_⟩
  refine⟨je (s:=.slc) (t:=xc) rfl (hx4.get hb3 (by simp)) rfl rfl,?_⟩
  refine qac rfl hm4 hx4.1 (hyM.ext hx04 (by simp)).cells hyl (by omega) ?_
  intro x5 w5 hm5 hl5 hx5
  have hx35:Ext [] w3.heap w5.heap:=hx4.own hx5 (by intro b hb;simp [jf] at hb;omega)
  have hx05:=hx03.trans hx35
  refine⟨zf9 rfl (hx35.get hrb (by simp)) (by omega) (by rw [hkey]),?_⟩
  refine⟨je (s:=.slc) (t:=x) rfl (hx05.get h1 (by simp)) rfl rfl,?_⟩
  refine⟨je (s:=.slc) (t:=xc) rfl (hx35.get hb3 (by simp)) rfl rfl,?_⟩
  refine qg2 rfl (y.1,(x5,y.2.1.2),0) hk fun a6 w6 hx6 hC6=>?_
  have hx36:=hx35.trans hx6
  refine⟨je (s:=.slc) (t:=xc) rfl (hx36.get hb3 (by simp)) rfl rfl,?_⟩
  have hm6:Mine w6.heap (H.size+1) zbr 33 xc (cl.flatMap zgo):=hmW.ext (hx3.trans hx36) (by simp)
  refine qgj (r1:=cl) (r2:=[(y.1,(x5,y.2.1.2),0)]) rfl hm6 (by have:=(hx3.trans hx36).1;omega) hC6 rfl (by simp;omega) ?_
  intro x7 w7 hm7 hl7 hx7 hs7
  have hb6:=hx36.get hb3 (by simp)
  have hnb:H.size∉jf xc:=fun h=>by have:=xu hm6 _ h;omega
  have hb7:=hx7.get hb6 hnb
  refine za9 rfl hb7 (by simp) fun w8 hw8=>?_
  have hx78:Ext [H.size] w7.heap w8.heap:=by rw [hw8];exact Ext.set _ (by simp)
  have hg7:=xu hm7
  have hx06:=hx03.trans hx36
  have hx08:Ext [] H w8.heap:=(hx06.own hx7 (by intro b hb hlt;have:=xu hm6 _ hb;omega)).own hx78 (by intro b hb hlt;simp at hb;omega)
  refine jd ((i+1:Nat):Int) (by omega) (by omega) (by omega) ?_
  have hs56:=hx6.1
  have hs35:=hx35.1
  have hs4:=hx4.1
  have hsw3:W.heap.size<=w3.heap.size:=hx3.1
  have hg5:=xu hm5
  have tail:∀ {z:BV},Mine w6.heap (H.size+1) xg 1 z.1 (byteCells z.2)->Mine w8.heap (H.size+1) xg 1 z.1 (byteCells z.2):=by
   intro z hz
   refine (hz.ext hx7 fun b hb hb2=>?_).ext hx78 fun b hb=>?_
   ·obtain⟨_,c1,e1⟩:=zbh hz b hb
    obtain⟨_,c2,e2⟩:=zbh hm6 b hb2
    rw [e1] at e2;cases e2
   ·have:=xu hz b hb
    simp only [List.mem_singleton];omega
  refine⟨⟨i+1,x7,cl++[(y.1,(x5,y.2.1.2),0)],rfl,by omega,hx08,by have:=hx7.1;have:=hx78.1;have:=hx36.1;omega,by rw [hw8];exact qg hb7,hm7.ext hx78 (fun b hb=>by have:=hg7 b hb;simp;omega),?_,?_,?_⟩,by omega⟩
  ·unfold bare at hbare |-
   rw [List.take_add_one,hget,List.map_append,List.map_append,hbare];rfl
  ·intro z hz
   rcases List.mem_append.1 hz with hz | hz
   ·exact tail ((hvals z hz).ext (hx3.trans hx36) (by simp))
   ·simp only [List.mem_singleton] at hz;subst hz
    exact tail (z:=(x5,y.2.1.2)) ((hm5.mono (by omega)).ext hx6 (by simp))
  ·refine Apart.mid (t:=[]) (by rw [List.append_nil];exact hap) fun z hz b hb hb2=>?_
   rw [List.append_nil] at hz
   have h8:=hg5 b hb
   have h9:=(zbh (hvals z hz) b hb2).1
   omega
 ·have hie:i=rl.length:=by omega
  subst hie
  rw [List.take_length] at hbare
  refine⟨H.size,H.size :: (jf xc++cl.flatMap fun z=>jf z.2.1.1),cl,rfl,⟨xc,hbW,hmW.mono (Nat.zero_le _),by simp,fun b hb=>by simp [hb],fun z hz=>⟨(hvals z hz).mono (Nat.zero_le _),fun b hb=>by simp only [List.mem_cons,List.mem_append,List.mem_flatMap];exact .inr (.inr ⟨z,hz,hb⟩)⟩,hap,qf7 hbare h7⟩,hxW,?_,hbare⟩
  intro b hb
  simp only [List.mem_cons,List.mem_append,List.mem_flatMap] at hb
  rcases hb with rfl | hb | ⟨z,hz,hb⟩
  ·exact⟨Nat.le_refl _,hsW⟩
  ·exact⟨by have:=xu hmW b hb;omega,(zbh hmW b hb).1⟩
  ·exact⟨by have:=xu (hvals z hz) b hb;omega,(zbh (hvals z hz) b hb).1⟩
end Go.Proofs.YtbmegmbnlajbbaaGreatDoor.Bl
namespace Go.Proofs.YtbmegmbnlajbbaaGreatDoor.Bl
open Go Go.Fw Go.Proofs
def Whole (r:SM):Prop:=∀ k L,zaa r k=some L->Sha.sum L=k/\L.length<=4096
theorem Whole.small {r:SM}(h:Whole r):Small r:=fun k L hv=>by have:=(h k L hv).2;omega
theorem z4t (x y:Operand) (a b:Bool) (w:World):(eqM .neq zlu x y (.bool a) (.bool b)).run P w=.ok (.bool (!(a==b))) w:=by
 have h:(Op.equal zlu (.bool a) (.bool b)).run P w=.ok (a==b) w:=run_equalIn_bool' w 9999 zlu a b (by kernel_rfl)
 simp [eqM,eqGuard,binOp,h]
theorem Rows.ext {M:List Nat}{H H':Heap}{a:Option Addr}{n:Nat}{Ls:List (List UInt8)}(h:Rows H a n Ls) (hx:Ext M H H') (hM:∀ b,b < H.size->b∉M):Rows H' a n Ls:=by
 refine⟨h.1,fun i hi=>?_⟩
 obtain⟨b,o,c,T,fr,x,h1,h2,h3,h4,h5,h6⟩:=h.2 i hi
 refine⟨b,o,c,T,fr,x,h1,hx.get h2 (hM b (lt_of_get h2)),h3,h4.ext hx fun y hy hv=>?_,h5,h6⟩
 obtain⟨z,hz,hlt⟩:=h4.lt hv
 rw [hy] at hz;cases hz
 exact hM _ hlt
end Go.Proofs.YtbmegmbnlajbbaaGreatDoor.Bl
namespace Go.Proofs.YtbmegmbnlajbbaaGreatDoor.Bl
open Go Go.Fw Go.Proofs
theorem z0t {F:BL}{d L k:List UInt8}:zoh (F++[(d,L)]) k=match zoh F k with | some v=>some v | none=>if k=d then some L else none:=by
 induction F with
 | nil=>
  simp only [zoh,List.nil_append,List.find?_cons,List.find?_nil,Option.map_none]
  by_cases e:d=k
  ·subst e;simp
  ·have:(d==k)=false:=by simp [e]
   simp [this,Ne.symm e]
 | cons x F ih=>
  simp only [zoh,List.cons_append,List.find?_cons] at ih |-
  by_cases e:x.1=k
  ·simp [e]
  ·have:(x.1==k)=false:=by simp [e]
   simp only [this]
   exact ih
theorem z04:∀ (Ls:List (List UInt8)) (F:BL),(∀ k L,zoh F k=some L->Sha.sum L=k)->∀ k L,zoh (Ls.foldl zrf F) k=some L->Sha.sum L=k
 | [],F,h=>h
 | M :: Ls,F,h=>by
  rw [List.foldl_cons]
  refine z04 Ls (zrf F M) fun k L hg=>?_
  unfold zrf at hg
  split at hg
  ·exact h k L hg
  ·rw [z0t] at hg
   cases hf:zoh F k with
   | some v=>rw [hf] at hg;simp only at hg;exact h k L (by rw [hf];exact hg)
   | none=>
    rw [hf] at hg
    simp only at hg
    split at hg
    ·rename_i e;cases hg;exact e.symm
    ·cases hg
theorem zuz:∀ (Ls:List (List UInt8)) (F:BL),(F.map (·.1)).Nodup->((Ls.foldl zrf F).map (·.1)).Nodup
 | [],F,h=>h
 | M :: Ls,F,h=>by
  rw [List.foldl_cons]
  refine zuz Ls (zrf F M) ?_
  unfold zrf
  split
  ·exact h
  ·rename_i hn
   rw [List.map_append,List.nodup_append]
   refine⟨h,by simp,fun a ha b hb=>?_⟩
   simp only [List.map_cons,List.map_nil,List.mem_singleton] at hb
   subst hb
   rintro rfl
   obtain⟨x,hx,e⟩:=List.mem_map.1 ha
   apply hn
   unfold zoh
   rw [Option.isSome_map]
   rw [List.find?_isSome]
   exact⟨x,hx,by simp [e]⟩
theorem qbx {V U:List UInt8->Option (List UInt8)}{F:BL}{L:List UInt8}(hF:∀ k L,zoh F k=some L->Sha.sum L=k) (hU:∀ k,U k=zv3 (V k) (zoh F k) k) (k:List UInt8) :
  (if k=Sha.sum L then zv3 (U (Sha.sum L)) (some L) (Sha.sum L) else U k)=zv3 (V k) (zoh (zrf F L) k) k:=by
 unfold zrf
 cases hf:zoh F (Sha.sum L) with
 | some M=>
  simp only [Option.isSome_some,if_true]
  by_cases e:k=Sha.sum L
  ·subst e
   rw [if_pos rfl,hU,hf]
   have hM:=hF _ _ hf
   cases hv:V (Sha.sum L) with
   | none=>simp [zv3,hM]
   | some old=>
    by_cases e2:Sha.sum old=Sha.sum L
    ·simp [zv3,e2]
    ·simp [zv3,e2,hM]
  ·rw [if_neg e,hU]
 | none=>
  simp only [Option.isSome_none,Bool.false_eq_true,if_false]
  rw [z0t]
  by_cases e:k=Sha.sum L
  ·subst e
   rw [if_pos rfl,hU,hf]
   simp [zv3]
  ·rw [if_neg e,hU]
   cases zoh F k with
   | some M=>rfl
   | none=>simp [e]
theorem z2u {r:SM}{p:List UInt8->Bool}{k:List UInt8}:zbx (r.filter fun x=>p x.1) k=if p k then zbx r k else none:=by
 induction r with
 | nil=>simp [zbx]
 | cons x r ih=>
  rw [List.filter_cons]
  by_cases e:x.1=k
  ·subst e
   cases hp:p x.1 with
   | true=>simp only [if_true];rw [zb4 rfl,zb4 rfl]
   | false=>simp only [Bool.false_eq_true,if_false];rw [ih,hp];simp
  ·rw [zb3 e]
   cases hp:p x.1 with
   | true=>simp only [if_true];rw [zb3 e,ih]
   | false=>simp only [Bool.false_eq_true,if_false];exact ih
theorem zus {r:SM}{p:List UInt8->Bool}{k:List UInt8}:zaa (r.filter fun x=>p x.1) k=if p k then zaa r k else none:=by
 unfold zaa;rw [z2u];split <;> rfl
def qge (F:BL):SM:=F.map fun x=>(x.1,((none,0,0),x.2),0)
theorem qa5 {F:BL}:view (qge F)=F:=by
 unfold view qge
 rw [List.map_map]
 conv=>rhs;rw [<-List.map_id F]
 rfl
theorem z9a {F:BL}{k:List UInt8}:zaa (qge F) k=zoh F k:=by rw [<-zqn,qa5]
theorem z01 {tl rl:SM}{F:BL}(hk:(tl.map (·.1)).Nodup) (hF:(F.map (·.1)).Nodup) (hv:∀ k,zaa tl k=zv3 (zaa rl k) (zoh F k) k):zki tl rl=extra rl F:=by
 have h1:zki tl rl=total (tl.filter fun x=>(zaa rl x.1).isNone):=rfl
 have h2:extra rl F=total ((qge F).filter fun x=>(zaa rl x.1).isNone):=by
  unfold extra total qge
  rw [List.filter_map,List.map_map]
  rfl
 rw [h1,h2]
 refine (zqj (hk.sublist (List.Sublist.map _ List.filter_sublist)) (List.Nodup.sublist (List.Sublist.map _ List.filter_sublist) (by simpa [qge,Function.comp_def] using hF)) fun k=>?_).1
 rw [zus (p:=fun k=>(zaa rl k).isNone),zus (p:=fun k=>(zaa rl k).isNone),z9a,hv]
 cases zaa rl k with
 | none=>cases zoh F k <;> rfl
 | some v=>rfl
theorem Mine.putk {H:Heap}{B sz:Nat}{T:TypeId}{x:Option Addr×Nat×Nat}{vs:List Value}(h:Mine H B T sz x vs){i:Nat}(hi:i < vs.length) (v:Value) :
  ∃ b c,x.1=some ⟨b,0,none⟩/\H[b]?=some (.cells c T (0,0))/\i < c.size/\Mine (H.setIfInBounds b (.cells (c.setIfInBounds i v) T (0,0))) B T sz x (vs.set i v):=by
 rcases h with⟨_,rfl⟩ | ⟨b,c,hx,hB,hb,hc,hl,hle,he⟩
 ·cases hi
 ·have hvc:vs.length<=c.size:=by rw [hl,hc];exact Nat.mul_le_mul_right sz hle
  have hget:∀ j,j < vs.length->c[j]?=vs[j]?:=by
   intro j hj
   have:((c.extract 0 vs.length).toList)[j]?=vs[j]?:=by rw [he]
   rw [Array.getElem?_toList,Array.getElem?_extract,if_pos (by omega)] at this
   simpa using this
  refine⟨b,c,hx,hb,by omega,.inr ⟨b,_,hx,hB,qg hb,by simpa using hc,by simpa using hl,hle,?_⟩⟩
  apply List.ext_getElem?
  intro j
  rw [Array.getElem?_toList,Array.getElem?_extract]
  simp only [List.length_set,Nat.sub_zero,Nat.zero_add,Array.size_setIfInBounds]
  by_cases hj:j < vs.length
  ·rw [if_pos (by omega),Array.getElem?_setIfInBounds,List.getElem?_set]
   by_cases e:i=j
   ·subst e;simp [hi,show i < c.size by omega]
   ·simp only [e,if_false];exact hget j hj
  ·rw [if_neg (by omega),List.getElem?_eq_none (by simp;omega)]
theorem set_mid {pre t:SM}{y:BE}{v:Option Addr×Nat×Nat}{L:List UInt8}{s:Nat}:((pre++y :: t).flatMap zgo).set (pre.length * 33+32) (zbv v)=(pre++(y.1,(v,L),s) :: t).flatMap zgo:=by
 have h1:(pre.flatMap zgo).length=pre.length * 33:=zu zgo ze9 _
 have h2:(byteCells (pad y.1)).length=32:=by rw [ji,zr0]
 simp only [List.flatMap_append,List.flatMap_cons]
 rw [List.set_append_right _ _ (by omega),h1,Nat.add_sub_cancel_left,List.set_append_left _ _ (by rw [ze9];omega)]
 congr 2
 unfold zgo
 rw [List.set_append_right _ _ (by omega),h2]
 rfl
theorem qcc {rl pre rest:SM}{k:List UInt8}(h:Split rl k pre rest) (hr:zjj rl) (hh:hit rest k=false):∀ x∈rest,Lib.compareBytes k x.1 < 0:=by
 intro x hx
 have h1:=h.hi x hx
 have h2:x.1≠k:=by
  intro e
  have hv:=z5b hr.nodup (y:=x) (by rw [h.eq];simp [hx])
  rw [e,zm8 h hr hh] at hv
  cases hv
 have h3:Lib.compareBytes x.1 k≠0:=fun e=>h2 (zgf.1 e)
 rw [zqq]
 rcases zkh (a:=x.1) (b:=k) with e | e | e <;> omega
def Pt (H:Heap) (pc:Nat) (q:Int) (rl:SM) (Ls:List (List UInt8)) (i:Nat) (W:World):Prop:=∃ tl fpc,Ext [] H W.heap/\zc4 W.heap fpc pc q tl/\(∀ b∈fpc,H.size<=b/\b < W.heap.size) /\
 (∀ k,zaa tl k=zv3 (zaa rl k) (zoh (fresh (Ls.take i)) k) k)/\tl.length<=rl.length+i/\total tl<=total rl+4096 * i/\∀ x∈tl,x.2.1.2.length < 1099511627776
theorem Pt.next {H:Heap}{pc:Nat}{q:Int}{rl tl:SM}{Ls:List (List UInt8)}{i:Nat}(hi:i < Ls.length){U:List UInt8->Option (List UInt8)}(hU:∀ k,U k=zv3 (zaa rl k) (zoh (fresh (Ls.take i)) k) k)
  (ht:∀ k,zaa tl k=if k=Sha.sum Ls[i] then zv3 (U (Sha.sum Ls[i])) (some Ls[i]) (Sha.sum Ls[i]) else U k):∀ k,zaa tl k=zv3 (zaa rl k) (zoh (fresh (Ls.take (i+1))) k) k:=by
 intro k
 rw [ht,zra hi]
 exact qbx (z04 _ [] (by intro k L h;simp [zoh] at h)) hU k
set_option maxHeartbeats 16000000 in
theorem z88 {w:World}{H:Heap}{fp:List Nat}{p:Nat}{q:Int}{rl:SM}{a:Option Addr}{n nc:Nat}{Ls:List (List UInt8)}(hw:w.heap=H) (hS:zc4 H fp p q rl) (hfp:∀ b∈fp,b < H.size)
  (hL:Rows H a n Ls) (hb:total rl+4096 * Ls.length < 1125899906842624) (hn:rl.length+Ls.length < 274877906944) (hq:0<=q) (hq2:q<=9223372036854775807) (hlen:∀ x∈rl,x.2.1.2.length < 1099511627776) (hlens:∀ L∈Ls,L.length < 140737488351233) :
  qc P zgy #[.pointer (some ⟨p,0,none⟩),.slice a n nc] w fun e w'=>∃ code rl' fp',e=.returned (.int .i64 code)/\zc4 w'.heap fp' p q rl'/\Ext fp H w'.heap/\(∀ b∈fp',b∈fp\/(H.size<=b/\b < w'.heap.size))/\zkn q rl Ls code rl' /\
   rl'.length<=rl.length+Ls.length/\total rl'<=total rl+4096 * Ls.length/\∀ x∈rl',x.2.1.2.length < 1099511627776:=by
 obtain⟨rfl,hL⟩:=hL
 refine zow ?_
 unfold zjm
 refine jg (fun (s:Int) W=>∃ i:Nat,s=(i:Int)/\i<=Ls.length/\W=w/\∀ j (h:j < Ls.length),j < i->Ls[j].length<=4096) (fun s _=>(Ls.length-s).toNat) ⟨0,rfl,Nat.zero_le _,rfl,by intro j h h2;omega⟩ ?_
 rintro _ _ ⟨i,rfl,hi,rfl,hsh⟩
 refine zq (fun hlt=>?_) (fun hge=>?_)
 ·have hil:i < Ls.length:=by omega
  obtain⟨bl,ol,cl,Tl,frl,xl,rfl,hbl,hcl,hxC,hxl,hxc⟩:=hL i hil
  refine zkt i rfl hil ?_
  refine je (s:=.slc) (t:=xl) hw hbl hcl ?_
  refine zq (fun hbig=>?_) (fun hsmall=>?_)
  ·have hlong:long Ls:=⟨Ls[i],List.getElem_mem hil,by omega⟩
   exact⟨2,rl,fp,rfl,by rw [hw];exact hS,by rw [hw];exact .refl _ _,fun b hb=>.inl hb,⟨fun _=>⟨rfl,rfl⟩,fun h=>absurd hlong h,fun h=>absurd hlong h⟩,by omega,by omega,hlen⟩
  ·refine jd ((i+1:Nat):Int) (by omega) (by omega) (by omega) ?_
   refine⟨⟨i+1,rfl,by omega,rfl,fun j hj hj1=>?_⟩,by omega⟩
   by_cases e:j=i
   ·subst e;omega
   ·exact hsh j hj (by omega)
 have hnlong:¬long Ls:=by
  rintro ⟨L,hLm,hLl⟩
  obtain⟨j,hj,rfl⟩:=List.mem_iff_getElem.1 hLm
  have:=hsh j hj (by omega)
  omega
 have hsm:∀ j (h:j < Ls.length),Ls[j].length<=4096:=fun j h=>hsh j h (by omega)
 clear hge hsh hi i
 refine zk (qcn hw hS (by omega) hlen) ?_
 rintro e w2 ⟨pc,fpc,tl0,rfl,hT0,hx2,hfpc,hbare⟩
 refine⟨some ⟨pc,0,none⟩,rfl,?_⟩
 have htot0:total tl0=total rl:=by
  have:=congrArg (fun l=>(l.map fun x:List UInt8×List UInt8=>x.2.length).sum) hbare
  simpa [bare,total,Function.comp_def] using this
 refine jg (fun (s:Int) W=>∃ i:Nat,s=(i:Int)/\i<=Ls.length/\Pt H pc q rl Ls i W) (fun s _=>(Ls.length-s).toNat) ⟨0,rfl,Nat.zero_le _,tl0,fpc,hx2,hT0,hfpc,fun k=>by rw [z1u hbare];rfl,by rw [z4l hbare];omega,by omega,?_⟩ ?_
 ·intro x hx
  have:(x.1,x.2.1.2)∈bare tl0:=List.mem_map.2 ⟨x,hx,rfl⟩
  rw [hbare] at this
  obtain⟨y,hy,e⟩:=List.mem_map.1 this
  simp only [Prod.mk.injEq] at e
  rw [<-e.2];exact hlen y hy
 clear hT0 hbare hfpc hx2 htot0 fpc tl0
 rintro _ W ⟨i,rfl,hi,tl,fpc,hxW,hT,hfpc,hview,htl,htt,hlt2⟩
 refine zq (fun hlt=>?_) (fun hge=>?_)
 ·have hil:i < Ls.length:=by omega
  obtain⟨bl,ol,cl,Tl,frl,xl,rfl,hbl,hcl,hxC,hxl,hxc⟩:=hL i hil
  have hLl:=hsm i hil
  have hnext:=fun (tl':SM)=>Pt.next (H:=H) (pc:=pc) (q:=q) (tl:=tl') hil hview
  refine joinP_of (fun _ W'=>Pt H pc q rl Ls (i+1) W') ?_ ?_
  rotate_left
  ·rintro _ W' h
   refine jd ((i+1:Nat):Int) (by omega) (by omega) (by omega) ?_
   exact⟨⟨i+1,rfl,by omega,h⟩,by omega⟩
  refine joinP_of (fun _ W'=>Pt H pc q rl Ls (i+1) W') ?_ (fun _ _ h=>h)
  generalize hLL:Ls[i]=L at *
  refine zkt i rfl hil ?_
  refine je (s:=.slc) (t:=xl) rfl (hxW.get hbl (by simp)) hcl ?_
  refine zk (znh rfl (hxC.ext hxW (by simp)) hxl (by omega)) ?_
  rintro e w4 ⟨rfl,hx4⟩
  refine⟨arr (Sha.sum L),rfl,?_⟩
  refine qi1 rfl zad fun w6 hb6 hx6 hs6=>?_
  have hx46:=hx4.trans hx6
  have hx06:=hxW.trans hx46
  refine qx rfl hb6 (by simp [byteCells,zad]) ?_
  have hT6:=hT.ext hx46 (by simp)
  refine zk (zzq rfl hT6 zad (by omega)) ?_
  rintro e w7 ⟨pre,rest,rfl,hsp,hx7⟩
  refine⟨((pre.length:Int),hit rest (Sha.sum L)),rfl,?_⟩
  have hx07:=hx06.trans hx7
  have hT7:=hT6.ext hx7 (by simp)
  have hb7:=hx7.get hb6 (by simp)
  have hW7:W.heap.size<=w7.heap.size:=(hx46.trans hx7).1
  have hHW:=hxW.1
  have hrise:=hT.rise
  have hfp7:∀ b∈fpc,H.size<=b/\b < w7.heap.size:=fun b hb=>⟨(hfpc b hb).1,by have:=(hfpc b hb).2;omega⟩
  generalize w4.heap.size=bk at *
  clear hx4 hx6 hx46 hx06 hT hT6 hb6 hfpc hxW hs6
  cases hh:hit rest (Sha.sum L) with
  | false=>
   refine zah rfl ?_
   have hvn:=zm8 hsp hrise hh
   have hgap:=qcc hsp hrise hh
   obtain⟨xt,t1,t2,t3,t4,t5,t6,t7⟩:=hT7
   have hpH:=(hfp7 _ t3).1
   have heq:=hsp.eq
   subst heq
   have hll:(pre++rest).length=pre.length+rest.length:=by simp
   have hxl7:=zfq t2
   have hxc7:=z92 t2
   refine qj1 rfl fun w8 hx8 hm8=>?_
   have hx78:=hx8
   simp only [zy,jo,Nat.zero_add]
   refine je (s:=.slc) (t:=xt) rfl (hx78.get t1 (by simp)) rfl ?_
   obtain⟨a1,hr1,hC1⟩:=qd4 (i:=pre.length) (t2.ext hx78 (by simp)).cells hxl7 hxc7 (by omega) rfl
   rw [List.take_left] at hC1
   refine qp (s:=.slc) (a1,pre.length,xt.2.2) (hr1 _) ?_
   refine qgj (r1:=[]) (r2:=pre) rfl hm8 hx8.1 hC1 rfl (by simp;omega) ?_
   intro x9 w9 hm9 hl9 hx9 hs9
   rw [List.nil_append] at hm9
   have hx79:Ext [] w7.heap w9.heap:=hx8.own hx9 (by intro b hb;simp [jf] at hb;omega)
   refine jl rfl fun w10 hw10=>?_
   have hx910:Ext [] w9.heap w10.heap:=by rw [hw10];exact .refl _ _
   have hx710:=hx79.trans hx910
   refine zkt i rfl hil ?_
   refine qx rfl (hx710.get hb7 (by simp)) (by simp [byteCells,zad]) ?_
   have hbl10:=(hx07.trans hx710).get hbl (by simp)
   refine je (s:=.slc) (t:=xl) rfl hbl10 hcl ?_
   refine qgf rfl fun w11 hx11 hm11=>?_
   have hx711:=hx710.trans hx11
   refine⟨je (s:=.slc) (t:=xl) rfl (hx11.get hbl10 (by simp)) hcl rfl,?_⟩
   refine⟨qx rfl (hx711.get hb7 (by simp)) (by simp [byteCells,zad]) rfl,?_⟩
   refine qac rfl hm11 hx11.1 (hxC.ext (hx07.trans hx711) (by simp)) hxl (by omega) ?_
   intro x12 w12 hm12 hl12 hx12
   have hx712:Ext [] w7.heap w12.heap:=hx711.own hx12 (by intro b hb hlt;have:=hx710.1;simp [jf] at hb;omega)
   have hx912:Ext [] w9.heap w12.heap:=(hx910.trans hx11).own hx12 (by intro b hb hlt;have:=hx910.1;simp [jf] at hb;omega)
   refine⟨qx rfl (hx712.get hb7 (by simp)) (by simp [byteCells,zad]) rfl,?_⟩
   refine qg2 rfl (Sha.sum L,(x12,L),0) zad fun a13 w13 hx13 hC13=>?_
   have hx913:=hx912.trans hx13
   have hx713:=hx712.trans hx13
   have hm13:=hm9.ext hx913 (by simp)
   have hs78:=hx8.1
   have hs79:=hx79.1
   refine qgj (r1:=pre) (r2:=[(Sha.sum L,(x12,L),0)]) rfl hm13 (by have:=hx713.1;omega) hC13 rfl (by simp;omega) ?_
   intro x14 w14 hm14 hl14 hx14 hs14
   have hx714:Ext [] w7.heap w14.heap:=hx713.own hx14 (by intro b hb hlt;have:=xu hm13 b hb;omega)
   refine je (s:=.slc) (t:=xt) rfl (hx714.get t1 (by simp)) rfl ?_
   obtain⟨a2,hr2,hC2⟩:=z5p (i:=pre.length) (t2.ext hx714 (by simp)).cells hxl7 hxc7 (by omega) rfl
   rw [List.drop_left] at hC2
   refine qp (s:=.slc) (a2,xt.2.1-pre.length,xt.2.2-pre.length) (hr2 _) ?_
   refine qgj (r1:=pre++[(Sha.sum L,(x12,L),0)]) (r2:=rest) rfl hm14 (by have:=hx714.1;omega) hC2 (by simp only;omega) (by simp;omega) ?_
   intro x15 w15 hm15 hl15 hx15 hs15
   have hx715:Ext [] w7.heap w15.heap:=hx714.own hx15 (by intro b hb hlt;have:=xu hm14 b hb;omega)
   have t15:=hx715.get t1 (by simp)
   refine za9 rfl t15 (by simp) fun w16 hw16=>?_
   have hx1516:Ext [pc] w15.heap w16.heap:=by rw [hw16];exact Ext.set _ (by simp)
   rw [List.append_assoc,List.singleton_append] at hm15
   have hg15:=xu hm15
   have hg12:=xu hm12
   have hpc7:=(hfp7 _ t3).2
   have hm16:=hm15.ext hx1516 (fun b hb=>by have:=hg15 b hb;simp only [List.mem_singleton];omega)
   have h12_15:Mine w15.heap 0 xg 1 x12 (byteCells L):=by
    have h1:=hm12.ext hx13 (by simp)
    have h2:=h1.ext hx14 (fun b hb hb2=>by
     obtain⟨_,c1,e1⟩:=zbh h1 b hb
     obtain⟨_,c2,e2⟩:=zbh hm13 b hb2
     rw [e1] at e2;cases e2)
    have h3:=h2.ext hx15 (fun b hb hb2=>by
     obtain⟨_,c1,e1⟩:=zbh h2 b hb
     obtain⟨_,c2,e2⟩:=zbh hm14 b hb2
     rw [e1] at e2;cases e2)
    exact h3.mono (Nat.zero_le _)
   have hs712:=hx712.1
   have hs710:=hx710.1
   have h12_16:Mine w16.heap 0 xg 1 x12 (byteCells L):=h12_15.ext hx1516 (fun b hb=>by have:=hg12 b hb;simp only [List.mem_singleton];omega)
   refine⟨pre++(Sha.sum L,(x12,L),0) :: rest,fpc++jf x15++jf x12,(hx07.trans hx715).own hx1516 (by intro b hb hlt;simp at hb;omega),⟨x15,by rw [hw16];exact qg t15,hm16.mono (Nat.zero_le _),by simp [t3],fun b hb=>by simp [hb],?_,?_,?_⟩,?_,?_,?_,?_,?_⟩
   ·intro z hz
    rcases zek.1 hz with rfl | hz
    ·exact⟨h12_16,fun b hb=>by simp only [List.mem_append];exact .inr hb⟩
    ·have hV:=(t5.ext hx715 (by simp)).off (o:=.map #[] 0) t15 (by decide) hx1516
     exact⟨(hV z hz).1,fun b hb=>by simp [(hV z hz).2 b hb]⟩
   ·refine t6.mid fun z hz b hb hb2=>?_
    have h1:=hg12 b hb
    have h2:=(hfp7 b ((t5 z hz).2 b hb2)).2
    have:=hx710.1
    omega
   ·exact t7.mid zad hsp.lo hgap
   ·intro b hb
    rw [List.append_assoc] at hb
    rcases List.mem_append.1 hb with hb | hb
    ·exact⟨(hfp7 b hb).1,by have:=(hfp7 b hb).2;have:=hx715.1;have:=hx1516.1;omega⟩
    ·rcases List.mem_append.1 hb with hb | hb
     ·exact⟨by have:=hg15 b hb;omega,(zbh hm16 b hb).1⟩
     ·exact⟨by have:=hg12 b hb;omega,(zbh h12_16 b hb).1⟩
   ·refine hnext _ fun k=>?_
    rw [znn (y:=(Sha.sum L,(x12,L),0)) (fun z hz=>ztc (hsp.lo z hz)),hvn]
    rfl
   ·simp only [List.length_append,List.length_cons] at htl |-;omega
   ·rw [zzj];simp only;omega
   ·intro z hz
    rcases zek.1 hz with rfl | hz
    ·simp only;omega
    ·exact hlt2 z hz
  | true=>
   refine jm rfl ?_
   obtain⟨y,t,rfl,hyk,hvy,hget,hmem⟩:=zpr hsp hrise hh
   obtain⟨xt,t1,t2,t3,t4,t5,t6,t7⟩:=hT7
   have hpH:=(hfp7 _ t3).1
   have hxl7:=zfq t2
   have hyl:=zos t5 hget
   have hyL:=hlt2 _ hmem
   refine jl rfl fun w17 hw17=>?_
   have hx17:Ext [] w7.heap w17.heap:=by rw [hw17];exact .refl _ _
   simp only [zy,jo,Nat.zero_add]
   refine je (s:=.slc) (t:=xt) rfl (hx17.get t1 (by simp)) rfl ?_
   refine zjs rfl (t2.ext hx17 (by simp)).cells hxl7 hget rfl ?_
   refine qx rfl (hx17.get hb7 (by simp)) (by simp [byteCells,zad]) ?_
   refine zk (znh rfl ((t5 y hmem).1.ext hx17 (by simp)).cells hyl (by omega)) ?_
   rintro e w18 ⟨rfl,hx18⟩
   refine⟨arr (Sha.sum y.2.1.2),rfl,?_⟩
   have hx718:=hx17.trans hx18
   refine⟨qx rfl (hx718.get hb7 (by simp)) (by simp [byteCells,zad]) rfl,?_⟩
   refine qp (s:=.bool) _ (ztr u27 u5 c5 g27 zad zad) ?_
   have heq:=hsp.eq
   subst heq
   obtain⟨_,hlo,hhi⟩:=zqe.1 hrise
   by_cases e:Sha.sum y.2.1.2=Sha.sum L
   ·refine jm (by simp [e]) ?_
    refine⟨pre++y :: t,fpc,hx07.trans hx718,⟨xt,hx718.get t1 (by simp),t2.ext hx718 (by simp),t3,t4,t5.ext hx718 (by simp),t6,t7⟩,fun b hb=>⟨(hfp7 b hb).1,by have:=(hfp7 b hb).2;have:=hx718.1;omega⟩,?_,by omega,by omega,hlt2⟩
    refine hnext _ fun k=>?_
    rw [hvy]
    by_cases e2:k=Sha.sum L
    ·rw [if_pos e2,e2,hvy];simp [zv3,e]
    ·rw [if_neg e2]
   ·refine zah (by simp [e]) ?_
    refine jl rfl fun w19 hw19=>?_
    have hx719:Ext [] w7.heap w19.heap:=by rw [hw19];exact hx718
    refine zkt i rfl hil ?_
    have t119:=hx719.get t1 (by simp)
    refine je (s:=.slc) (t:=xt) rfl t119 rfl ?_
    have hbl19:=(hx07.trans hx719).get hbl (by simp)
    refine je (s:=.slc) (t:=xl) rfl hbl19 hcl ?_
    refine qgf rfl fun w20 hx20 hm20=>?_
    refine⟨je (s:=.slc) (t:=xl) rfl (hx20.get hbl19 (by simp)) hcl rfl,?_⟩
    refine⟨je (s:=.slc) (t:=xt) rfl (hx20.get t119 (by simp)) rfl rfl,?_⟩
    have hx720:=hx719.trans hx20
    refine qac rfl hm20 hx20.1 (hxC.ext (hx07.trans hx720) (by simp)) hxl (by omega) ?_
    intro x21 w21 hm21 hl21 hx21
    have hx721:Ext [] w7.heap w21.heap:=hx720.own hx21 (by intro b hb hlt;have:=hx719.1;simp [jf] at hb;omega)
    have t121:=hx721.get t1 (by simp)
    refine⟨je (s:=.slc) (t:=xt) rfl t121 rfl rfl,?_⟩
    have t221:=t2.ext hx721 (by simp)
    have hlv:((pre++y :: t).flatMap zgo).length=(pre++y :: t).length * 33:=zu zgo ze9 _
    obtain⟨bb,cc,hxa,hbb,hic,hput⟩:=Mine.putk t221 (i:=pre.length * 33+32) (by rw [hlv];simp;omega) (zbv x21)
    rw [set_mid (s:=y.2.2) (L:=L)] at hput
    rw [hxa]
    refine z18 pre.length rfl (by rw [hxl7];simp) ?_
    simp only [jo,Nat.zero_add]
    refine za9 rfl hbb hic fun w22 hw22=>?_
    have hw22':w22.heap=w21.heap.setIfInBounds bb (.cells (cc.setIfInBounds (pre.length * 33+32) (zbv x21)) zbr (0,0)):=hw22
    rw [<-hw22'] at hput
    have hx2122:Ext [bb] w21.heap w22.heap:=by rw [hw22];exact Ext.set _ (by simp)
    have hbf:bb∈fpc:=t4 bb (by simp only [jf];rw [hxa];simp)
    have hg21:=xu hm21
    have hs719:=hx719.1
    have h21_22:Mine w22.heap 0 xg 1 x21 (byteCells L):=(hm21.mono (Nat.zero_le _)).ext hx2122 (fun b hb=>by have:=hg21 b hb;have:=(hfp7 _ hbf).2;simp only [List.mem_singleton];omega)
    refine⟨pre++(y.1,(x21,L),y.2.2) :: t,fpc++jf x21,(hx07.trans hx721).own hx2122 (by intro b hb hlt;simp at hb;have:=(hfp7 _ hbf).1;omega),⟨xt,hx2122.get t121 ?_,hput,by simp [t3],fun b hb=>by simp [t4 b hb],?_,?_,?_⟩,?_,?_,?_,?_,?_⟩
    ·simp only [List.mem_singleton];rintro rfl;rw [t121] at hbb;cases hbb
    ·intro z hz
     rcases zek.1 hz with rfl | hz
     ·exact⟨h21_22,fun b hb=>by simp only [List.mem_append];exact .inr hb⟩
     ·have hV:=(t5.ext hx721 (by simp)).off (o:=.map #[] 0) hbb (by decide) hx2122
      have hz':z∈pre++y :: t:=zek.2 (.inr hz)
      exact⟨(hV z hz').1,fun b hb=>by simp [(hV z hz').2 b hb]⟩
    ·refine Apart.mid (t6.sub fun z hz=>zek.2 (.inr hz)) fun z hz b hb hb2=>?_
     have h1:=hg21 b hb
     have h2:=(hfp7 b ((t5 z (zek.2 (.inr hz))).2 b hb2)).2
     omega
    ·exact t7.sub.mid (t7.len y hmem) hlo hhi
    ·intro b hb
     rcases List.mem_append.1 hb with hb | hb
     ·exact⟨(hfp7 b hb).1,by have:=(hfp7 b hb).2;have:=hx721.1;have:=hx2122.1;omega⟩
     ·exact⟨by have:=hg21 b hb;omega,(zbh h21_22 b hb).1⟩
    ·refine hnext _ fun k=>?_
     rw [znn (y:=(y.1,(x21,L),y.2.2)) (fun z hz=>ztc (hlo z hz)),hvy]
     show (if k=y.1 then some L else _)=_
     rw [hyk]
     by_cases e2:k=Sha.sum L
     ·rw [if_pos e2,if_pos e2];simp [zv3,e]
     ·rw [if_neg e2,if_neg e2,znn (y:=y) (fun z hz=>ztc (hlo z hz)),if_neg (by rw [hyk];exact e2)]
    ·simp only [List.length_append,List.length_cons] at htl |-;omega
    ·rw [zzj] at htt |-;simp only;omega
    ·intro z hz
     rcases zek.1 hz with rfl | hz
     ·simp only;omega
     ·exact hlt2 z (zek.2 (.inr hz))
 ·have hie:i=Ls.length:=by omega
  subst hie
  rw [List.take_length] at hview
  refine jl rfl fun w25 hw25=>?_
  have hxW5:Ext [] W.heap w25.heap:=by rw [hw25];exact .refl _ _
  have hx25:=hxW.trans hxW5
  have hS25:=hS.ext hx25 (by simp)
  have hT25:=hT.ext hxW5 (by simp)
  obtain⟨x,h1,h2,h3,h4,h5,h6,h7⟩:=hS
  simp only [zy,jo,Nat.zero_add]
  refine je (s:=.int .i64) (t:=q) rfl (hx25.get h1 (by simp)) rfl ?_
  refine zk (qbt rfl hT25 hS25 (by omega) (by omega) (by omega)) ?_
  rintro e w26 ⟨rfl,hx26⟩
  refine⟨_,rfl,?_⟩
  have hx026:=hx25.trans hx26
  refine⟨je (s:=.int .i64) (t:=q) rfl (hx026.get h1 (by simp)) rfl rfl,?_⟩
  refine zk (z5c rfl (hS25.ext hx26 (by simp)) (by omega) (by omega)) ?_
  rintro e w27 ⟨rfl,rfl⟩
  refine⟨(total rl:Int),rfl,?_⟩
  refine⟨je (s:=.int .i64) (t:=q) rfl (hx026.get h1 (by simp)) rfl rfl,?_⟩
  refine zb0 (q-total rl) rfl (by omega) (by omega) ?_
  have hext:zki tl rl=extra rl (fresh Ls):=z01 hT.keys (zuz Ls [] (by simp)) hview
  have hT26:=hT25.ext hx26 (by simp)
  have hpl:=lt_of_get h1
  refine zq (fun hfull=>?_) (fun hfit=>?_)
  ·refine⟨3,rl,fp,rfl,hS25.ext hx26 (by simp),hx026.mono (by simp),fun b hb=>.inl hb,⟨fun h=>absurd h hnlong,fun _ _=>⟨rfl,rfl⟩,fun _ h=>absurd (by omega) h⟩,by omega,by omega,hlen⟩
  ·obtain⟨xt,t1,t2,t3,t4,t5,t6,t7⟩:=hT26
   refine je (s:=.slc) (t:=xt) rfl t1 rfl ?_
   have hp26:=hx026.get h1 (by simp)
   refine za9 rfl hp26 (by simp) fun w28 hw28=>?_
   have hx28:Ext [p] w27.heap w28.heap:=by rw [hw28];exact Ext.set _ (by simp)
   have hnp:∀ b∈fpc,b∉[p]:=fun b hb=>by have:=(hfpc b hb).1;simp only [List.mem_singleton];omega
   refine⟨0,tl,fp++fpc,rfl,⟨xt,by rw [hw28];exact qg hp26,t2.ext hx28 (fun b hb=>hnp b (t4 b hb)),by simp [h3],fun b hb=>by simp [t4 b hb],(t5.ext hx28 hnp).mono (fun b hb=>by simp [hb]),t6,t7⟩,(hx026.mono (by simp)).trans (hx28.mono (by simpa using h3)),?_,⟨fun h=>absurd h hnlong,fun _ h=>absurd h (by omega),fun _ _=>⟨rfl,hview⟩⟩,by omega,by omega,hlt2⟩
   intro b hb
   rcases List.mem_append.1 hb with hb | hb
   ·exact .inl hb
   ·exact .inr ⟨(hfpc b hb).1,by have:=(hfpc b hb).2;have:=hxW5.1;have:=hx26.1;have:=hx28.1;omega⟩
theorem z6f {r rl:SM}(h:∀ k,zaa r k=zaa rl k) (F:BL):extra r F=extra rl F:=by
 unfold extra
 rw [show (fun x:List UInt8×List UInt8=>(zaa r x.1).isNone)=fun x=>(zaa rl x.1).isNone from funext fun x=>by rw [h]]
theorem zhn {q:Int}{r r' rl rl':SM}{Ls:List (List UInt8)}{code code':Int}(h:zkn q r Ls code r') (h':zkn q rl Ls code' rl') (hv:∀ k,zaa r k=zaa rl k) (ht:total r=total rl):code=code'/\∀ k,zaa r' k=zaa rl' k:=by
 have hx:=z6f hv (fresh Ls)
 by_cases hl:long Ls
 ·obtain⟨rfl,rfl⟩:=h.1 hl
  obtain⟨rfl,rfl⟩:=h'.1 hl
  exact⟨rfl,hv⟩
 by_cases hf:q < total r+extra r (fresh Ls)
 ·obtain⟨rfl,rfl⟩:=h.2.1 hl hf
  obtain⟨rfl,rfl⟩:=h'.2.1 hl (by omega)
  exact⟨rfl,hv⟩
 ·obtain⟨rfl,h2⟩:=h.2.2 hl hf
  obtain⟨rfl,h3⟩:=h'.2.2 hl (by omega)
  exact⟨rfl,fun k=>by rw [h2,h3,hv]⟩
theorem qat {w:World}{H:Heap}{fp:List Nat}{p:Nat}{q:Int}{rl:SM}{a:Option Addr}{l lc:Nat}{L:List UInt8}(hw:w.heap=H) (hS:zc4 H fp p q rl) (hfp:∀ b∈fp,b < H.size)
  (hL:Cells H a (byteCells L)) (hl:l=L.length) (hc:l<=lc) (ha:L≠[]->∀ y,a=some y->y.block∉fp)
  (hb:total rl+4096 < 1125899906842624) (hn:rl.length+1 < 274877906944) (hq:0<=q) (hq2:q<=9223372036854775807) (hlen:∀ x∈rl,x.2.1.2.length < 1099511627776) (hlens:L.length < 140737488351233) :
  qc P zd8 #[.pointer (some ⟨p,0,none⟩),.slice a l lc] w fun e w'=>∃ code rl' fp',e=.returned (.tuple #[arr (if code=0 then Sha.sum L else nought),.int .i64 code])/\zc4 w'.heap fp' p q rl'/\Ext fp H w'.heap/\(∀ b∈fp',b∈fp\/(H.size<=b/\b < w'.heap.size))/\zkn q rl [L] code rl' /\
   rl'.length<=rl.length+1/\total rl'<=total rl+4096/\∀ x∈rl',x.2.1.2.length < 1099511627776:=by
 refine zs6 ?_
 unfold zmv
 refine jv hw fun w1 hw1=>?_
 have hx1:Ext [] H (H.push (.cells (zc P zf) zf)):=.push _
 have hz1:(H.push (.cells (zc P zf) zf (0,0)))[H.size]?=some (.cells (zc P zf) zf (0,0)):=zn
 generalize hH1:H.push (.cells (zc P zf) zf (0,0))=H1 at *
 refine zam (s:=.slc) (some ⟨H1.size,0,none⟩,1,1) _ (by rw [qjx,hw1];rfl) ?_
 have hx2:Ext [] H1 (H1.push (.cells #[.slice a l lc] zi (0,0))):=.push _
 have hl2:(H1.push (.cells #[.slice a l lc] zi (0,0)))[H1.size]?=some (.cells #[.slice a l lc] zi (0,0)):=zn
 generalize hH2:H1.push (.cells #[.slice a l lc] zi (0,0))=H2 at *
 have hx02:=hx1.trans hx2
 have hs1:H1.size=H.size+1:=by rw [<-hH1];simp
 have hs2:H2.size=H.size+2:=by rw [<-hH2];simp [hs1]
 refine zk (z88 (w:={ w1 with heap:=H2 }) (H:=H2) (Ls:=[L]) rfl (hS.ext hx02 (by simp)) (fun b hb=>by have:=hfp b hb;omega) ⟨by simp,fun i hi=>?_⟩ (by simpa using hb) (by simpa using hn) hq hq2 hlen (by intro M hM;simp only [List.mem_singleton] at hM;subst hM;exact hlens)) ?_
 ·obtain rfl:i=0:=by simp at hi;omega
  exact⟨H1.size,0,_,_,_,(a,l,lc),rfl,hl2,rfl,hL.ext hx02 (by simp),hl,hc⟩
 rintro e w3 ⟨code,r',fp',rfl,hS3,hx3,hsub,hres,hrl,htot,hsm⟩
 refine⟨code,rfl,?_⟩
 have hx03:Ext fp H w3.heap:=(hx02.mono (by simp)).trans hx3
 have hz3:=(hx3.get (hx2.get hz1 (by simp)) (fun h=>absurd (hfp _ h) (by omega)))
 generalize hH3:w3.heap=H3 at *
 have hn3:H.size∉fp':=fun h=>by rcases hsub _ h with h | h;exact absurd (hfp _ h) (by omega);omega
 have hsub':∀ {W:World},H3.size<=W.heap.size->∀ b∈fp',b∈fp\/(H.size<=b/\b < W.heap.size):=fun h3 b hb=>by rcases hsub b hb with h | h;exact .inl h;exact .inr (by omega)
 refine zay (fun hne=>?_) (fun heq=>?_)
 ·refine qp (s:=.any) (arr nought) (b27 _) ?_
  refine zaz (zoa.trans (by rw [jy,za4])) (by rw [jy,za4];omega) jr hH3 hz3 (by rw [zv6,jy,za4];simp) fun w5 hw5=>?_
  rw [show setCells (zc P zf) 0 (Value.cells (arr nought)).toList=(byteCells nought).toArray from by rw [zan (by rw [zv6,Array.length_toList,jy,za4];simp)];simp [Value.cells,arr]] at hw5
  refine qx hw5 (qg hz3) (by simp [byteCells,nought]) ?_
  have hx5:Ext [H.size] H3 w5.heap:=by rw [hw5];exact Ext.set _ (by simp)
  refine⟨code,r',fp',by rw [if_neg hne];rfl,hS3.ext hx5 (fun b hb=>?_),hx03.own hx5 (by intro b hb hlt;simp at hb;omega),hsub' hx5.1,hres,by simpa using hrl,by simpa using htot,hsm⟩
  simp only [List.mem_singleton]
  rintro rfl
  exact hn3 hb
 ·subst heq
  refine zk (znh hH3 (hL.ext hx03 fun y hy hv=>ha (by rintro rfl;exact hv rfl) y hy) hl hlens) ?_
  rintro e w4 ⟨rfl,hx4⟩
  refine⟨arr (Sha.sum L),rfl,?_⟩
  have hz4:=hx4.get hz3 (by simp)
  refine zaz (zoa.trans (by rw [jy,zad])) (by rw [jy,zad];omega) jr rfl hz4 (by rw [zv6,jy,zad];simp) fun w5 hw5=>?_
  rw [show setCells (zc P zf) 0 (Value.cells (arr (Sha.sum L))).toList=(byteCells (Sha.sum L)).toArray from by rw [zan (by rw [zv6,Array.length_toList,jy,zad];simp)];simp [Value.cells,arr]] at hw5
  refine qx hw5 (qg hz4) (by simp [byteCells,zad]) ?_
  have hx5:Ext [H.size] H3 w5.heap:=by rw [hw5];exact (hx4.mono (by simp)).trans (Ext.set _ (by simp))
  refine⟨0,r',fp',by rw [if_pos rfl];rfl,hS3.ext hx5 (fun b hb=>?_),hx03.own hx5 (by intro b hb hlt;simp at hb;omega),hsub' hx5.1,hres,by simpa using hrl,by simpa using htot,hsm⟩
  simp only [List.mem_singleton]
  rintro rfl
  exact hn3 hb
theorem qdw {r:SM}(h:∀ x∈r,x.2.1.2.length < 1099511627776):Small r:=by
 intro k L hv
 unfold zaa at hv
 obtain⟨v,hv1,rfl⟩:=Option.map_eq_some_iff.1 hv
 obtain⟨b,hb⟩:=zct hv1
 exact h _ hb
theorem Small.view {r s:SM}(h:Small r) (hv:∀ k,zaa r k=zaa s k):Small s:=fun k L hk=>h k L (by rw [hv];exact hk)
end Go.Proofs.YtbmegmbnlajbbaaGreatDoor.Bl
namespace Go.Proofs.YtbmegmbnlajbbaaGreatDoor
open Go Go.Fw Go.Proofs
structure Itm where
 name:List UInt8
 kind:Int
 sum:List UInt8
deriving DecidableEq,Inhabited
structure Nod where
 kind:Int
 data:List UInt8
 size:Int
 parts:List (List UInt8)
 items:List Itm
deriving DecidableEq,Inhabited
def zcy (i:Itm):List Value:=.string (strOf i.name) :: .int .i64 i.kind :: Bl.zbp i.sum
theorem zai (i:Itm):(zcy i).length=34:=by simp [zcy,Bl.zaf]
theorem ztk {i:Itm}:zcs (zcy i):=by
 intro v hv
 simp only [zcy,List.mem_cons] at hv
 rcases hv with rfl | rfl | hv
 ·rfl
 ·rfl
 ·exact Bl.zp3 v hv
def zca (n:Nod) (xp xi:Option Addr×Nat×Nat):List Value:=[.int .i64 n.kind,.string (strOf n.data),.int .i64 n.size,zbv xp,zbv xi]
structure NodW (H:Heap) (n:Nod) (xp xi:Option Addr×Nat×Nat):Prop where
 parts:Cells H xp.1 (n.parts.flatMap Bl.zbp)
 plen:xp.2.1=n.parts.length
 items:Cells H xi.1 (n.items.flatMap zcy)
 ilen:xi.2.1=n.items.length
 p32:∀ p∈n.parts,p.length=32
 i32:∀ i∈n.items,i.sum.length=32
theorem NodW.ext {H H':Heap}{n:Nod}{xp xi:Option Addr×Nat×Nat}(h:NodW H n xp xi) (hx:Ext [] H H'):NodW H' n xp xi:=
 ⟨h.parts.ext hx (by simp),h.plen,h.items.ext hx (by simp),h.ilen,h.p32,h.i32⟩
def qgd (i:Itm):List UInt8:=zo2 i.name++zgb i.kind++i.sum
def zi9 (l:List (List UInt8)):List UInt8:=l.flatten
def zo1 (l:List Itm):List UInt8:=(l.map qgd).flatten
def zi8 (n:Nod):List UInt8:=zgb n.kind++(if n.kind=1 then zo2 n.data else if n.kind=2 then zgb n.size++zi9 n.parts else zgb n.items.length++zo1 n.items)
structure SmallN (n:Nod):Prop where
 data:n.data.length<=65536
 parts:n.parts.length<=65536
 items:n.items.length<=65536
 names:∀ i∈n.items,i.name.length<=65536
theorem zne:∀ {l:List (List UInt8)},(∀ p∈l,p.length=32)->(zi9 l).length=32 * l.length
 | [],_=>by simp [zi9]
 | p :: l,h=>by
  have h1:=h p (by simp)
  have h2:=zne (l:=l) fun q hq=>h q (by simp [hq])
  simp only [zi9,List.flatten_cons,List.length_append,List.length_cons] at *
  omega
theorem qdc {i:Itm}(h:i.name.length<=65536) (h32:i.sum.length=32):(qgd i).length<=65600:=by
 have h1:=zea (n:=i.name.length) (by omega)
 have h2:=zee (k:=i.kind)
 simp only [qgd,zo2,List.length_append]
 omega
theorem zpo:∀ {l:List Itm},(∀ i∈l,i.name.length<=65536)->(∀ i∈l,i.sum.length=32)->(zo1 l).length<=65600 * l.length
 | [],_,_=>by simp [zo1]
 | i :: l,h,h'=>by
  have h1:=qdc (h i (by simp)) (h' i (by simp))
  have h2:=zpo (l:=l) (fun q hq=>h q (by simp [hq])) (fun q hq=>h' q (by simp [hq]))
  simp only [zo1,List.map_cons,List.flatten_cons,List.length_append,List.length_cons] at *
  omega
theorem zw5 {l:List Itm}{i:Itm}:zo1 (l++[i])=zo1 l++qgd i:=by simp [zo1]
theorem zty {l:List (List UInt8)}{p:List UInt8}:zi9 (l++[p])=zi9 l++p:=by simp [zi9]
theorem qgt {w:World}{H1:Heap}{F:List Nat}{b:Nat}{L k:List UInt8}(hO:zs5 H1 F b L w) (hk:k.length=32) (hL:L.length<=274877906944) :
  qc P zfp #[.pointer (some ⟨b,0,none⟩),arr k] w fun e w'=>e=.returned (.tuple #[])/\zs5 H1 F b (L++k) w':=by
 refine zqs ?_
 unfold zke
 refine jv rfl fun w0 hw0=>?_
 have hx0:Ext [] w.heap w0.heap:=by rw [hw0];exact .push _
 have hd0:w0.heap[w.heap.size]?=some (.cells (byteCells k).toArray zf (0,0)):=by rw [hw0];exact zn
 refine zah rfl ?_
 refine jl rfl fun w1 hw1=>?_
 have hx1:Ext [] w.heap w1.heap:=by rw [hw1];exact hx0
 have hd1:w1.heap[w.heap.size]?=some (.cells (byteCells k).toArray zf (0,0)):=by rw [hw1];exact hd0
 have hO1:=hO.ext hx1
 obtain⟨x,h1,h2,h3,h4,h5,h6⟩:=hO1
 have hxl:x.2.1=L.length:=by have:=h3.len;simp at this;omega
 simp only [zy]
 refine je (s:=.slc) (t:=x) rfl h2 rfl ?_
 refine qp (s:=.slc) (some (if 32=0 then (⟨w.heap.size,0,none⟩:Addr) else (⟨w.heap.size,0,none⟩:Addr).add (0 * 1)),32-0,32-0) (zdw Bl.u27 sz8 .no .no (by omega) (by omega)) ?_
 have hadd:(some (if 32=0 then (⟨w.heap.size,0,none⟩:Addr) else (⟨w.heap.size,0,none⟩:Addr).add (0 * 1)))=some (⟨w.heap.size,0,none⟩:Addr):=by simp [Addr.add]
 have hcd:Cells w1.heap (some (if 32=0 then (⟨w.heap.size,0,none⟩:Addr) else (⟨w.heap.size,0,none⟩:Addr).add (0 * 1))) (byteCells k):=by
  rw [hadd]
  exact .inr ⟨_,0,_,_,_,rfl,hd1,by simp,by simp [List.take_of_length_le]⟩
 refine zch E8 (by omega) uS8 (zbf uS8) rfl h3 (Nat.zero_le _) (Src.slc rfl hcd (by simp [hk])) jr (by simp only;omega) ?_
 intro x' w4 hm4 hl4 hx4 hs4
 have hb4:w4.heap[b]?=some (.cells #[zbv x] zgg (0,0)):=hx4.get h2 h4
 refine za9 rfl hb4 (by simp) fun w5 hw5=>?_
 have hx5:Ext [b] w4.heap w5.heap:=by rw [hw5];exact Ext.set _ (by simp)
 have hs1:=h1.1
 have hbl:=lt_of_get h2
 have hbx:b∉jf x':=fun h=>by
  rcases hs4 b h with h | h
  ·exact h4 h
  ·omega
 refine⟨trivial,x',?_,by rw [hw5];exact qg hb4,?_,hbx,fun c hc=>?_,h6⟩
 ·have h14:Ext (b :: F) H1 w4.heap:=h1.own hx4 (fun c hc hlt=>by
   rcases h5 c hc with h | h
   ·exact List.mem_cons_of_mem _ h
   ·omega)
  exact h14.trans (hx5.mono (by simp))
 ·rw [<-byteCells_append]
  exact hm4.ext hx5 (fun c hc=>by simp only [List.mem_singleton];rintro rfl;exact hbx hc)
 ·rcases hs4 c hc with h | h
  ·exact h5 c h
  ·exact .inr (by omega)
theorem zcT:(zc P zx).size=34:=by kernel_rfl
theorem szT:P.cellsOf zx=34:=by kernel_rfl
theorem zcN:(zc P zh).size=5:=by kernel_rfl
theorem szN:P.cellsOf zh=5:=by kernel_rfl
theorem szD:P.cellsOf zf=32:=by kernel_rfl
theorem zcD:(zc P zf).size=32:=by kernel_rfl
theorem z8c {w:World}{H:Heap}(n:Nod) (xp xi:Option Addr×Nat×Nat) (hw:w.heap=H){K:Nat->World->Prop}(hK:∀ w',w'.heap=H.push (.cells (zca n xp xi).toArray zh (0,0))->K H.size w') :
  zbk (zc P zh) zh w fun b w1=>zbz P (storeVar zh (⟨b,0,none⟩:Addr) (.agg (zca n xp xi).toArray)) w1 fun w2=>K b w2:=
 zui (v:=.agg (zca n xp xi).toArray) szN zcN (by simp [Value.cells,zca]) (by
  intro v hv
  simp only [Value.cells,zca,List.mem_cons,List.not_mem_nil,or_false] at hv
  rcases hv with rfl | rfl | rfl | rfl | rfl <;> rfl) hw hK
theorem qgb {w:World}{H:Heap}(i:Itm) (hw:w.heap=H){K:Nat->World->Prop}(hK:∀ w',w'.heap=H.push (.cells (zcy i).toArray zx (0,0))->K H.size w') :
  zbk (zc P zx) zx w fun b w1=>zbz P (storeVar zx (⟨b,0,none⟩:Addr) (.agg (zcy i).toArray)) w1 fun w2=>K b w2:=
 zui (v:=.agg (zcy i).toArray) (by rw [szT];simp [Value.cells,zai]) (by rw [zcT];simp [Value.cells,zai]) (by simp [Value.cells,zai]) (by simpa [Value.cells] using ztk) hw hK
theorem qei {w:World}{H:Heap}{k:List UInt8}(hk:k.length=32) (hw:w.heap=H){K:Nat->World->Prop}(hK:∀ w',w'.heap=H.push (.cells (byteCells k).toArray zf (0,0))->K H.size w') :
  zbk (zc P zf) zf w fun b w1=>zbz P (storeVar zf (⟨b,0,none⟩:Addr) (arr k)) w1 fun w2=>K b w2:=
 zui (v:=arr k) (by rw [szD,Bl.jy,hk]) (by rw [zcD,Bl.jy,hk]) (by rw [Bl.jy];omega) (by simpa [Value.cells,arr] using jr) hw hK
theorem zdx {vs:List Value}:(Value.cells (.agg vs.toArray):Array Value)=vs.toArray:=rfl
def zfd:List UInt8->List Itm->Bool
 | _,[]=>true
 | last,i :: r=>decide (Lib.compareBytes last i.name < 0)&&zcz i.name&&(decide (i.kind=2) || decide (i.kind=3))&&zfd i.name r
def zh8 (l:List Itm):Bool:=zfd [] l&&decide (l.length<=64)
def zkc (size:Int):Int:=(size+63) / 64
def zar (n:Nod):Bool:=
 if n.kind=1 then decide (0 < n.data.length/\n.data.length<=64/\n.size=0/\n.parts.length=0/\n.items.length=0)
 else if n.kind=2 then decide (n.data=[]/\0<=n.size/\n.size<=1024/\(n.parts.length:Int)=zkc n.size/\n.items.length=0)
 else if n.kind=3 then decide (n.data=[]/\n.size=0/\n.parts.length=0)&&zh8 n.items else false
theorem zvx:∀ {l:List Itm}{last:List UInt8},zfd last l=true->∀ i∈l,zcz i.name=true
 | [],_,_=>by simp
 | i :: r,last,h=>by
  simp only [zfd,Bool.and_eq_true] at h
  intro j hj
  rcases List.mem_cons.1 hj with rfl | hj
  ·exact h.1.1.2
  ·exact zvx h.2 j hj
theorem zso {n:Nod}(h:zar n=true):SmallN n:=by
 unfold zar at h
 split at h
 ·simp only [decide_eq_true_eq] at h
  have:n.items=[]:=List.eq_nil_of_length_eq_zero h.2.2.2.2
  exact⟨by omega,by omega,by omega,by rw [this];simp⟩
 ·split at h
  ·have h:=of_decide_eq_true h
   unfold zkc at h
   have:n.items=[]:=List.eq_nil_of_length_eq_zero h.2.2.2.2
   exact⟨by rw [h.1];simp,by omega,by omega,by rw [this];simp⟩
  ·split at h
   ·simp only [Bool.and_eq_true,decide_eq_true_eq,zh8] at h
    exact⟨by rw [h.1.1];simp,by omega,by omega,fun i hi=>by have:=(zed.1 (zvx h.2.1 i hi)).1.2.1;omega⟩
   ·cases h
theorem zzg {L:List UInt8}:zsw [L]=0 ↔ zcz L=true:=by
 rw [qb3]
 simp [okP]
set_option maxHeartbeats 4000000 in
theorem qc0 {w:World}{H:Heap}{a:Option Addr}{l c:Nat}{T:List Itm}(hw:w.heap=H) (hL:Cells H a (T.flatMap zcy)) (hl:l=T.length) (hn:∀ i∈T,i.name.length<=9223372036854775807) (hm:T.length<=9223372036854775807) :
  qc P zlj #[.slice a l c] w fun e w'=>e=.returned (.bool (zh8 T))/\Ext [] H w'.heap:=by
 subst hl
 refine zwd ?_
 unfold zo9
 refine jg (fun (s:ByteArray×Int) W=>∃ (i:Nat) (last:List UInt8),s=(strOf last,(i:Int))/\i<=T.length/\zfd [] T=zfd last (T.drop i)/\Ext [] H W.heap) (fun s _=>(T.length-s.2).toNat)
  ⟨0,[],rfl,Nat.zero_le _,by simp,by rw [hw];exact .refl _ _⟩ ?_
 rintro _ W ⟨i,last,rfl,hi,hr,hxW⟩
 refine zq (fun hlt=>?_) (fun hge=>?_)
 ·have hil:i < T.length:=by omega
  have hget:=List.getElem?_eq_getElem hil
  have hmem:T[i]∈T:=List.getElem_mem hil
  have hdrop:T.drop i=T[i] :: T.drop (i+1):=(List.drop_eq_getElem_cons hil)
  rw [hdrop] at hr
  generalize T[i]=v at hget hmem hr
  have hvn:=hn v hmem
  have hfalse:∀ {W':World},Ext [] H W'.heap->zfd last (v :: T.drop (i+1))=false->(Ending.returned (.bool false)=.returned (.bool (zh8 T))/\Ext [] H W'.heap):=by
   intro W' hx h
   refine⟨?_,hx⟩
   rw [zh8,hr,h];rfl
  refine zal ?_
  refine zce (i:=i) zai (by omega) rfl (hL.ext hxW (by simp)) rfl hget rfl ?_
  refine qgb v rfl fun w3 hw3=>?_
  have hx3:Ext [] W.heap w3.heap:=by rw [hw3];exact .push _
  have hb3:w3.heap[W.heap.size]?=some (.cells (zcy v).toArray zx (0,0)):=by rw [hw3];exact zn
  have hx03:=hxW.trans hx3
  refine joinP_of (fun _ W'=>Ext [] w3.heap W'.heap/\Lib.compareBytes last v.name < 0/\zcz v.name=true) ?_ ?_
  ·refine je (s:=.str) (t:=strOf v.name) rfl hb3 rfl ?_
   refine zdk (p:=¬Lib.compareBytes last v.name < 0) (by
    rw [bytesLess_eq,zei,zei,zfv]
    simp only [Bool.or_eq_true,decide_eq_true_eq,beq_iff_eq]
    constructor
    ·rintro (h | h) h2
     ·exact absurd h (by have:=zfv.2 h;have:=zfv.2 h2;have:=zqq (a:=last) (b:=v.name);omega)
     ·rw [h] at h2;have:=zfv.2 h2;rw [zgf.2 rfl] at this;omega
    ·intro h
     have h1:¬Lib.compareBytes last v.name < 0:=fun h2=>h (zfv.1 h2)
     have h2:=zqq (a:=last) (b:=v.name)
     by_cases h3:Lib.compareBytes v.name last=0
     ·right;exact zgf.1 h3
     ·left;exact zfv.1 (by omega)) (fun h=>hfalse hx03 (by simp [zfd,h])) (fun h=>?_)
   have hlt:Lib.compareBytes last v.name < 0:=by omega
   refine je (s:=.str) (t:=strOf v.name) rfl hb3 rfl ?_
   refine zam (s:=.slc) (some ⟨w3.heap.size,0,none⟩,1,1) _ (zd7 qi6 z3l (v:=.string (strOf v.name)) rfl (by omega) (by omega)) ?_
   have hx4:Ext [] w3.heap (w3.heap.push (.cells (Value.string (strOf v.name)).cells vg)):=.push _
   have hc4:Cells (w3.heap.push (.cells (Value.string (strOf v.name)).cells vg)) (some ⟨w3.heap.size,0,none⟩) (strRow [v.name]):=.inr ⟨_,0,_,_,_,rfl,zn,by simp [strRow,Value.cells],by simp [strRow,Value.cells]⟩
   refine zk (qfw (p:=[v.name]) rfl hc4 rfl (by intro L hL;simp at hL;subst hL;exact hvn) (by simp)) ?_
   rintro e w5 ⟨rfl,hw5⟩
   subst hw5
   refine⟨zsw [v.name],rfl,?_⟩
   refine zay (fun h=>hfalse (hx03.trans hx4) (by
    have:zcz v.name=false:=by rw [<-Bool.not_eq_true];exact fun h2=>h (zzg.2 h2)
    simp [zfd,this])) (fun h=>⟨hx4,hlt,zzg.1 h⟩)
  rintro _ W5 ⟨hx35,hlt,hok⟩
  have hb5:=hx35.get hb3 (by simp)
  have hx05:=hx03.trans hx35
  refine je (s:=.int .i64) (t:=v.kind) rfl hb5 rfl ?_
  refine joinP_of (fun s' W'=>s'=strOf v.name/\Ext [] H W'.heap/\(v.kind=2\/v.kind=3)) ?_ ?_
  ·refine joinP_of (fun _ W'=>W'=W5/\(v.kind=2\/v.kind=3)) ?_ ?_
   ·refine zal ?_
    refine zax (fun h=>⟨rfl,.inl h⟩) (fun h2=>?_)
    refine zax (fun h=>⟨rfl,.inr h⟩) (fun h3=>hfalse hx05 (by simp [zfd,h2,h3]))
   rintro _ W' ⟨rfl,hk⟩
   exact je (s:=.str) (t:=strOf v.name) rfl hb5 rfl ⟨rfl,hx05,hk⟩
  rintro _ W' ⟨rfl,hx',hk⟩
  refine jd ((i+1:Nat):Int) (by omega) (by omega) (by omega) ?_
  refine⟨⟨i+1,v.name,rfl,by omega,?_,hx'⟩,by omega⟩
  rw [hr]
  rcases hk with hk | hk <;> simp [zfd,hlt,hok,hk]
 ·obtain rfl:i=T.length:=by omega
  refine⟨?_,hxW⟩
  rw [List.drop_length] at hr
  congr 2
  rw [zh8,hr,Bool.eq_iff_iff]
  simp [zfd]
  omega
set_option maxHeartbeats 4000000 in
theorem z8h {w:World}{H:Heap}{n:Nod}{xp xi:Option Addr×Nat×Nat}(hw:w.heap=H) (hN:NodW H n xp xi) (hs:n.size<=4611686018427387904) (hnn:∀ i∈n.items,i.name.length<=9223372036854775807) (hm:n.items.length<=9223372036854775807) :
  qc P zjh #[.agg (zca n xp xi).toArray] w fun e w'=>e=.returned (.bool (zar n))/\Ext [] H w'.heap:=by
 obtain⟨g1,g2,g3,g4,g5,g6⟩:=hN
 refine zyz ?_
 unfold zr6
 refine jv hw fun w1 hw1=>?_
 have hx1:Ext [] H w1.heap:=by rw [hw1];exact .push _
 have hb1:w1.heap[H.size]?=some (.cells (zca n xp xi).toArray zh (0,0)):=by rw [hw1];exact zn
 refine je (s:=.int .i64) (t:=n.kind) rfl hb1 rfl ?_
 have hle:∀ {k:Nat},(((k:Int)==0)=true) ↔ k=0:=by intro k;simp
 refine zax (fun h1=>?_) (fun h1=>?_)
 ·have hf:∀ {p:Prop},(¬(0 < n.data.length/\n.data.length<=64/\n.size=0/\n.parts.length=0/\n.items.length=0))->(Ending.returned (.bool false)=.returned (.bool (zar n))/\Ext [] H w1.heap):=by
   intro p h
   exact⟨by rw [zar,if_pos h1,decide_eq_false h],hx1⟩
  refine je (s:=.str) (t:=strOf n.data) rfl hb1 rfl ?_
  refine zq (fun h2=>?_) (fun h2=>hf (p:=True) fun h=>h2 (by simp;omega))
  refine je (s:=.str) (t:=strOf n.data) rfl hb1 rfl ?_
  refine zq (fun h3=>?_) (fun h3=>hf (p:=True) fun h=>h3 (by simp;omega))
  refine je (s:=.int .i64) (t:=n.size) rfl hb1 rfl ?_
  refine zax (fun h4=>?_) (fun h4=>hf (p:=True) fun h=>h4 h.2.2.1)
  refine je (s:=.slc) (t:=xp) rfl hb1 rfl ?_
  refine zax (fun h5=>?_) (fun h5=>hf (p:=True) fun h=>h5 (by omega))
  refine je (s:=.slc) (t:=xi) rfl hb1 rfl ?_
  refine⟨?_,hx1⟩
  rw [zar,if_pos h1]
  congr 2
  rw [Bool.eq_iff_iff,hle,decide_eq_true_eq,g4]
  simp at h2 h3
  exact⟨fun h=>⟨by omega,by omega,h4,by omega,h⟩,fun h=>h.2.2.2.2⟩
 refine zax (fun h2=>?_) (fun h2=>?_)
 ·have hf:∀ {W:World},Ext [] H W.heap->(¬(n.data=[]/\0<=n.size/\n.size<=1024/\(n.parts.length:Int)=zkc n.size/\n.items.length=0))->(Ending.returned (.bool false)=.returned (.bool (zar n))/\Ext [] H W.heap):=by
   intro W hx h
   exact⟨by rw [zar,if_neg h1,if_pos h2,decide_eq_false h],hx⟩
  refine jl rfl fun w2 hw2=>?_
  have hx2:Ext [] H w2.heap:=by rw [hw2];exact hx1
  have hb2:w2.heap[H.size]?=some (.cells (zca n xp xi).toArray zh (0,0)):=by rw [hw2];exact hb1
  refine je (s:=.str) (t:=strOf n.data) rfl hb2 rfl ?_
  refine zdk (p:=n.data=[]) (by rw [zjn]) (fun h3=>?_) (fun h3=>⟨rfl,hf hx2 fun h=>h3 h.1⟩)
  refine je (s:=.int .i64) (t:=n.size) rfl hb2 rfl ?_
  refine zq (fun h4=>?_) (fun h4=>⟨rfl,hf hx2 fun h=>h4 h.2.1⟩)
  refine je (s:=.int .i64) (t:=n.size) rfl hb2 rfl ?_
  refine zq (fun h5=>?_) (fun h5=>⟨rfl,hf hx2 fun h=>h5 h.2.2.1⟩)
  refine je (s:=.slc) (t:=xp) rfl hb2 rfl ?_
  refine je (s:=.int .i64) (t:=n.size) rfl hb2 rfl ?_
  have hparts:qc P zhx #[.int .i64 n.size] w2 fun e w'=>e=.returned (.int .i64 (zkc n.size))/\w'=w2:=by
   refine zpg ?_
   unfold zms
   refine jd (n.size+64) rfl (by omega) (by omega) ?_
   refine zb0 (n.size+63) (by omega) (by omega) (by omega) ?_
   refine z5t (n.size+63).toNat 64 (by omega) rfl (by omega) (by omega) ?_
   refine⟨?_,rfl⟩
   congr 2
   unfold zkc
   omega
  refine zk hparts ?_
  rintro e w3 ⟨rfl,rfl⟩
  refine⟨zkc n.size,rfl,?_⟩
  refine⟨je (s:=.slc) (t:=xp) rfl hb2 rfl rfl,?_⟩
  refine zax (fun h6=>?_) (fun h6=>hf hx2 fun h=>h6 (by rw [g2];exact h.2.2.2.1))
  refine je (s:=.slc) (t:=xi) rfl hb2 rfl ?_
  refine⟨?_,hx2⟩
  rw [zar,if_neg h1,if_pos h2]
  congr 2
  rw [Bool.eq_iff_iff,hle,decide_eq_true_eq,g4]
  rw [g2] at h6
  exact⟨fun h=>⟨h3,h4,h5,h6,h⟩,fun h=>h.2.2.2.2⟩
 refine zax (fun h3=>?_) (fun h3=>⟨by rw [zar,if_neg h1,if_neg h2,if_neg h3],hx1⟩)
 have hf:¬(n.data=[]/\n.size=0/\n.parts.length=0)->(Ending.returned (.bool false)=.returned (.bool (zar n))/\Ext [] H w1.heap):=by
  intro h
  exact⟨by rw [zar,if_neg h1,if_neg h2,if_pos h3,decide_eq_false h];rfl,hx1⟩
 refine je (s:=.str) (t:=strOf n.data) rfl hb1 rfl ?_
 refine zdk (p:=n.data=[]) (by rw [zjn]) (fun h4=>?_) (fun h4=>hf fun h=>h4 h.1)
 refine je (s:=.int .i64) (t:=n.size) rfl hb1 rfl ?_
 refine zax (fun h5=>?_) (fun h5=>hf fun h=>h5 h.2.1)
 refine je (s:=.slc) (t:=xp) rfl hb1 rfl ?_
 refine zax (fun h6=>?_) (fun h6=>hf fun h=>h6 (by omega))
 refine je (s:=.slc) (t:=xi) rfl hb1 rfl ?_
 refine zk (qc0 rfl (g3.ext hx1 (by simp)) g4 hnn hm) ?_
 rintro e w4 ⟨rfl,hx4⟩
 refine⟨zh8 n.items,rfl,?_⟩
 refine⟨?_,hx1.trans hx4⟩
 rw [zar,if_neg h1,if_neg h2,if_pos h3,decide_eq_true ⟨h4,h5,by omega⟩]
 rfl
theorem z4g {n:Nod}:(zgb n.kind).length<=10:=zee
set_option maxHeartbeats 8000000 in
theorem z9x {w:World}{H:Heap}{n:Nod}{xp xi:Option Addr×Nat×Nat}(hw:w.heap=H) (hN:NodW H n xp xi) (hR:zar n=true) :
  qc P zla #[.agg (zca n xp xi).toArray] w fun e w'=>∃ y,e=.returned (.tuple #[zbv y,.int .i64 0])/\Mine w'.heap H.size xg 1 y (byteCells (zi8 n))/\Ext [] H w'.heap:=by
 have hS:=zso hR
 have hsz:n.size<=4611686018427387904:=by
  unfold zar at hR
  split at hR
  ·have:=of_decide_eq_true hR;omega
  ·split at hR
   ·have:=of_decide_eq_true hR;omega
   ·split at hR
    ·simp only [Bool.and_eq_true,decide_eq_true_eq] at hR;omega
    ·cases hR
 refine zwp ?_
 unfold zpv
 refine jv hw fun w1 hw1=>?_
 have hx1:Ext [] H w1.heap:=by rw [hw1];exact .push _
 have hb1:w1.heap[H.size]?=some (.cells (zca n xp xi).toArray zh (0,0)):=by rw [hw1];exact zn
 refine qx rfl hb1 rfl ?_
 refine zk (z8h rfl (hN.ext hx1) hsz (fun i hi=>by have:=hS.names i hi;omega) (by have:=hS.items;omega)) ?_
 rintro e w2 ⟨rfl,hx12⟩
 refine⟨zar n,rfl,?_⟩
 rw [hR]
 refine jm rfl ?_
 have hx2:=hx1.trans hx12
 have hb2:=hx12.get hb1 (by simp)
 rw [zcO]
 refine jv rfl fun w3 hw3=>?_
 have hx23:Ext [] w2.heap w3.heap:=by rw [hw3];exact .push _
 have ho3:w3.heap[w2.heap.size]?=some (.cells #[zbv (none,0,0)] zgg (0,0)):=by rw [hw3];exact zn
 have hO3:zs5 w3.heap [] w2.heap.size [] w3:=⟨(none,0,0),.refl _ _,ho3,.inl ⟨rfl,rfl⟩,by simp [jf],by simp [jf],lt_of_get ho3⟩
 have hb3:=hx23.get hb2 (by simp)
 have hN3:=hN.ext (hx2.trans hx23)
 have hH2:H.size < w2.heap.size:=lt_of_get hb2
 have keep:∀ {W:World}{K:List UInt8},zs5 w3.heap [] w2.heap.size K W->Ext [w2.heap.size] w3.heap W.heap:=fun ⟨x,h1,_⟩=>h1
 have hne:H.size∉[w2.heap.size]:=by simp;omega
 have u1:=@z4g n
 refine je (s:=.int .i64) (t:=n.kind) rfl hb3 rfl ?_
 refine cvU fun k1 e1 l1=>?_
 refine zk (qas k1 hO3 l1 (by simp)) ?_
 rintro e w4 ⟨rfl,hO4⟩
 refine⟨(),rfl,?_⟩
 rw [show zpx k1=zgb n.kind by rw [e1];rfl,List.nil_append] at hO4
 have hx4:=keep hO4
 have hb4:=hx4.get hb3 hne
 refine joinP_of (fun _ W=>zs5 w3.heap [] w2.heap.size (zi8 n) W/\(zi8 n).length<=274877906944) ?_ ?_
 rotate_left
 ·rintro _ W ⟨hOW,hlen⟩
  refine zk (z2z hOW (by omega)) ?_
  rintro e w5 ⟨y,rfl,hm,hx5⟩
  refine⟨y,rfl,?_⟩
  have hx3W:Ext [] H W.heap:=(hx2.trans hx23).own (keep hOW) (by intro c hc hlt;simp at hc;omega)
  have:=hx3W.1
  exact⟨y,rfl,hm.mono this,hx3W.trans hx5⟩
 refine je (s:=.int .i64) (t:=n.kind) rfl hb4 rfl ?_
 refine zal ?_
 refine zax (fun h1=>?_) (fun h1=>?_)
 ·refine je (s:=.str) (t:=strOf n.data) rfl hb4 rfl ?_
  have hd:=hS.data
  refine zk (qd5 n.data hO4 (by omega)) ?_
  rintro e w5 ⟨rfl,hO5⟩
  refine⟨(),rfl,?_⟩
  have nl:=zea (n:=n.data.length) (by omega)
  have:zi8 n=zgb n.kind++zo2 n.data:=by unfold zi8;rw [if_pos h1]
  rw [this]
  exact⟨hO5,by simp only [List.length_append,zo2];omega⟩
 refine zax (fun h2=>?_) (fun h2=>?_)
 ·refine je (s:=.int .i64) (t:=n.size) rfl hb4 rfl ?_
  refine cvU fun k2 e2 l2=>?_
  refine zk (qas k2 hO4 l2 (by omega)) ?_
  rintro e w6 ⟨rfl,hO6⟩
  refine⟨(),rfl,?_⟩
  rw [show zpx k2=zgb n.size by rw [e2];rfl] at hO6
  have u2:=@zee n.size
  have hb6:=(keep hO6).get hb3 hne
  refine je (s:=.slc) (t:=xp) rfl hb6 rfl ?_
  have hpl:=hS.parts
  have hp32:=hN.p32
  have henc:zi8 n=zgb n.kind++zgb n.size++zi9 n.parts:=by unfold zi8;rw [if_neg h1,if_pos h2,List.append_assoc]
  refine jg (fun (s:Int) W=>∃ i:Nat,s=(i:Int)/\i<=n.parts.length/\zs5 w3.heap [] w2.heap.size (zgb n.kind++zgb n.size++zi9 (n.parts.take i)) W) (fun s _=>(n.parts.length-s).toNat) ⟨0,rfl,Nat.zero_le _,by simpa [zi9] using hO6⟩ ?_
  rintro _ W ⟨i,rfl,hi,hOW⟩
  have hpre:(zi9 (n.parts.take i)).length<=32 * 65536:=by
   rw [zne fun p hp=>hp32 p (List.mem_of_mem_take hp)]
   simp;omega
  refine zq (fun hlt=>?_) (fun hge=>?_)
  ·have hil:i < n.parts.length:=by have:=hN.plen;omega
   have hget:=List.getElem?_eq_getElem hil
   have hmem:n.parts[i]∈n.parts:=List.getElem_mem hil
   have htake:n.parts.take (i+1)=n.parts.take i++[n.parts[i]]:=by rw [List.take_add_one,hget];rfl
   generalize n.parts[i]=v at hget hmem htake
   have hv:=hp32 v hmem
   have hcW:=hN3.parts.ext (keep hOW) (fun a ha hne2 h=>by
    obtain⟨x,hx,hlt⟩:=hN.parts.lt hne2
    rw [hx] at ha;cases ha
    simp at h;omega)
   refine zce (i:=i) Bl.zaf (by omega) rfl hcW hN.plen hget rfl ?_
   rw [Bl.qg0 hv]
   refine qei hv rfl fun w9 hw9=>?_
   have hx9:Ext [] W.heap w9.heap:=by rw [hw9];exact .push _
   have hb9:w9.heap[W.heap.size]?=some (.cells (byteCells v).toArray zf (0,0)):=by rw [hw9];exact zn
   refine qx rfl hb9 (by simp [hv]) ?_
   refine zk (qgt (k:=v) (hOW.ext hx9) hv (by simp only [List.length_append];omega)) ?_
   rintro e w10 ⟨rfl,hO10⟩
   refine⟨(),rfl,?_⟩
   refine jd ((i+1:Nat):Int) (by omega) (by omega) (by omega) ?_
   refine⟨⟨i+1,rfl,by omega,?_⟩,by omega⟩
   rw [htake,zty]
   simpa using hO10
  ·obtain rfl:i=n.parts.length:=by have:=hN.plen;omega
   rw [List.take_length] at hOW hpre
   rw [henc]
   exact⟨hOW,by simp only [List.length_append];omega⟩
 ·refine je (s:=.slc) (t:=xi) rfl hb4 rfl ?_
  have hil:=hN.ilen
  rw [hil]
  refine cvU fun k2 e2 l2=>?_
  refine zk (qas k2 hO4 l2 (by omega)) ?_
  rintro e w6 ⟨rfl,hO6⟩
  refine⟨(),rfl,?_⟩
  rw [show zpx k2=zgb (n.items.length:Int) by rw [e2];rfl] at hO6
  have u2:=@zee (n.items.length:Int)
  have hb6:=(keep hO6).get hb3 hne
  refine je (s:=.slc) (t:=xi) rfl hb6 rfl ?_
  have hpl:=hS.items
  have hnm:=hS.names
  have hi32:=hN.i32
  have henc:zi8 n=zgb n.kind++zgb n.items.length++zo1 n.items:=by unfold zi8;rw [if_neg h1,if_neg h2,List.append_assoc]
  refine jg (fun (s:Int) W=>∃ i:Nat,s=(i:Int)/\i<=n.items.length/\zs5 w3.heap [] w2.heap.size (zgb n.kind++zgb n.items.length++zo1 (n.items.take i)) W) (fun s _=>(n.items.length-s).toNat) ⟨0,rfl,Nat.zero_le _,by simpa [zo1] using hO6⟩ ?_
  rintro _ W ⟨i,rfl,hi,hOW⟩
  have hpre:(zo1 (n.items.take i)).length<=65600 * 65536:=by
   have h:=zpo (l:=n.items.take i) (fun p hp=>hnm p (List.mem_of_mem_take hp)) (fun p hp=>hi32 p (List.mem_of_mem_take hp))
   have:(n.items.take i).length<=65536:=by simp;omega
   omega
  refine zq (fun hlt=>?_) (fun hge=>?_)
  ·have hil2:i < n.items.length:=by omega
   have hget:=List.getElem?_eq_getElem hil2
   have hmem:n.items[i]∈n.items:=List.getElem_mem hil2
   have htake:n.items.take (i+1)=n.items.take i++[n.items[i]]:=by rw [List.take_add_one,hget];rfl
   generalize n.items[i]=v at hget hmem htake
   have hv:=hi32 v hmem
   have hvn:=hnm v hmem
   have hcW:=hN3.items.ext (keep hOW) (fun a ha hne2 h=>by
    obtain⟨x,hx,hlt⟩:=hN.items.lt hne2
    rw [hx] at ha;cases ha
    simp at h;omega)
   refine zce (i:=i) zai (by omega) rfl hcW hil hget rfl ?_
   refine qgb v rfl fun w9 hw9=>?_
   have hx9:Ext [] W.heap w9.heap:=by rw [hw9];exact .push _
   have hb9:w9.heap[W.heap.size]?=some (.cells (zcy v).toArray zx (0,0)):=by rw [hw9];exact zn
   have nl:=zea (n:=v.name.length) (by omega)
   have uk:=@zee v.kind
   have hOsz:w2.heap.size < W.heap.size:=by have:=(keep hOW).1;have:=lt_of_get ho3;omega
   obtain⟨F9,hO9,hF9,hF9l⟩:=hOW.rebase hx9
   have kp:∀ {K:List UInt8}{W':World},zs5 w9.heap F9 w2.heap.size K W'->W'.heap[W.heap.size]?=some (.cells (zcy v).toArray zx (0,0)):=by
    intro K W' ⟨x,h1,_⟩
    refine h1.get hb9 fun h=>?_
    rcases List.mem_cons.1 h with h | h
    ·omega
    ·have:=hF9l _ h;omega
   refine je (s:=.str) (t:=strOf v.name) rfl hb9 rfl ?_
   refine zk (qd5 v.name hO9 (by simp only [List.length_append];omega)) ?_
   rintro e w10 ⟨rfl,hO10⟩
   refine⟨(),rfl,?_⟩
   refine je (s:=.int .i64) (t:=v.kind) rfl (kp hO10) rfl ?_
   refine cvU fun k3 e3 l3=>?_
   refine zk (qas k3 hO10 l3 (by simp only [List.length_append,zo2];omega)) ?_
   rintro e w11 ⟨rfl,hO11⟩
   refine⟨(),rfl,?_⟩
   rw [show zpx k3=zgb v.kind by rw [e3];rfl] at hO11
   refine zf9 (o:=2) rfl (kp hO11) (by simp [zai]) ?_
   have hex:(zcy v).toArray.extract 2 (2+32)=(Bl.zbp v.sum).toArray:=by
    apply Array.ext'
    simp [zcy,List.take_of_length_le,Bl.zaf]
   rw [hex,Bl.qg0 hv]
   refine zk (qgt (k:=v.sum) hO11 hv (by simp only [List.length_append,zo2];omega)) ?_
   rintro e w12 ⟨rfl,hO12⟩
   refine⟨(),rfl,?_⟩
   refine jd ((i+1:Nat):Int) (by omega) (by omega) (by omega) ?_
   refine⟨⟨i+1,rfl,by omega,?_⟩,by omega⟩
   have:=hOW.unbase hx9 hF9 hO12
   rw [htake,zw5]
   simpa [qgd] using this
  ·obtain rfl:i=n.items.length:=by omega
   rw [List.take_length] at hOW hpre
   rw [henc]
   exact⟨hOW,by simp only [List.length_append];omega⟩
theorem qd8 {w:World}{H:Heap}{b o:Nat}{c:Array Value}{T:TypeId}{fr:Nat×Nat}{k:List UInt8}(hw:w.heap=H) (hb:H[b]?=some (.cells c T fr)) (hs:o+32<=c.size) (hk:k.length=32) (hc:∀ j,j < 32->c[o+j]?=(byteCells k)[j]?)
  {K:(Option Addr×Nat×Nat)->Prop}(hK:∀ y:Option Addr×Nat×Nat,Cells H y.1 (byteCells k)->y.2.1=k.length->K y) :
  za7 P (Instr.sliceAt zf (Value.pointer (some (⟨b,o,none⟩:Addr))) none none none) .slc w K:=by
 refine qp (s:=.slc) (some (if 32=0 then (⟨b,o,none⟩:Addr) else (⟨b,o,none⟩:Addr).add (0 * 1)),32-0,32-0) (zdw Bl.u27 sz8 .no .no (by omega) (by omega)) ?_
 refine hK _ ?_ (by simp [hk])
 have hadd:(some (if 32=0 then (⟨b,o,none⟩:Addr) else (⟨b,o,none⟩:Addr).add (0 * 1)))=some (⟨b,o,none⟩:Addr):=by simp [Addr.add]
 show Cells H (some (if 32=0 then (⟨b,o,none⟩:Addr) else (⟨b,o,none⟩:Addr).add (0 * 1))) (byteCells k)
 rw [hadd]
 refine .inr ⟨b,o,c,T,fr,rfl,hb,by simp [hk];omega,?_⟩
 apply List.ext_getElem?
 intro j
 rw [Array.getElem?_toList,Array.getElem?_extract]
 simp only [ji,hk]
 by_cases hj:j < 32
 ·rw [if_pos (by omega),hc j hj]
 ·rw [if_neg (by omega),List.getElem?_eq_none (by simp [hk];omega)]
set_option maxHeartbeats 8000000 in
theorem z6u {w:World}{H:Heap}{n:Nod}{xp xi:Option Addr×Nat×Nat}(hw:w.heap=H) (hN:NodW H n xp xi) (hS:SmallN n) :
  qc P zmk #[.agg (zca n xp xi).toArray] w fun e w'=>∃ y,e=.returned (zbv y)/\Mine w'.heap H.size xg 1 y (byteCells (zi8 n))/\Ext [] H w'.heap:=by
 refine zy7 ?_
 unfold zsn
 refine jv hw fun w1 hw1=>?_
 have hx1:Ext [] H w1.heap:=by rw [hw1];exact .push _
 have hb1:w1.heap[H.size]?=some (.cells (zca n xp xi).toArray zh (0,0)):=by rw [hw1];exact zn
 have u1:=@z4g n
 have h1s:H.size<=w1.heap.size:=hx1.1
 refine je (s:=.int .i64) (t:=n.kind) rfl hb1 rfl ?_
 refine cvU fun k1 e1 l1=>?_
 refine zk (zt9 rfl l1) ?_
 rintro e w2 ⟨y1,rfl,hm2,hx2⟩
 refine⟨y1,rfl,?_⟩
 rw [show zpx k1=zgb n.kind by rw [e1];rfl] at hm2
 have hb2:=hx2.get hb1 (by simp)
 have fin:∀ {W:World}{x:Option Addr×Nat×Nat}{L:List UInt8},Mine W.heap w1.heap.size xg 1 x (byteCells L)->Ext [] w1.heap W.heap->L=zi8 n->∃ y,Ending.returned (zbv x)=.returned (zbv y)/\Mine W.heap H.size xg 1 y (byteCells (zi8 n))/\Ext [] H W.heap:=by
  intro W x L hm hx he
  exact⟨x,rfl,by rw [<-he];exact hm.mono h1s,hx1.trans hx⟩
 refine je (s:=.int .i64) (t:=n.kind) rfl hb2 rfl ?_
 refine zax (fun h1=>?_) (fun h1=>?_)
 ·refine je (s:=.str) (t:=strOf n.data) rfl hb2 rfl ?_
  have hd:=hS.data
  have nl:=zea (n:=n.data.length) (by omega)
  refine zk (z5i n.data rfl (by omega)) ?_
  rintro e w3 ⟨y3,rfl,hm3,hx3⟩
  refine⟨y3,rfl,?_⟩
  have hx03:=hx2.trans hx3
  refine qdq rfl (hm2.ext hx3 (by simp)) hx03.1 hm3.cells (by have:=hm3.len;simp at this;omega) (by simp [zo2];omega) fun x4 w4 hm4 hx4 hs4=>?_
  exact fin hm4 (ziv hx03 (hm2.ext hx3 (by simp)) (Nat.le_refl _) hx4) (by unfold zi8;rw [if_pos h1])
 refine je (s:=.int .i64) (t:=n.kind) rfl hb2 rfl ?_
 refine zax (fun h2=>?_) (fun h2=>?_)
 ·refine je (s:=.int .i64) (t:=n.size) rfl hb2 rfl ?_
  refine cvU fun k2 e2 l2=>?_
  refine zk (zt9 rfl l2) ?_
  rintro e w3 ⟨y3,rfl,hm3,hx3⟩
  refine⟨y3,rfl,?_⟩
  rw [show zpx k2=zgb n.size by rw [e2];rfl] at hm3
  have u2:=@zee n.size
  have hx03:=hx2.trans hx3
  refine qdq rfl (hm2.ext hx3 (by simp)) hx03.1 hm3.cells (by have:=hm3.len;simp at this;omega) (by omega) fun x4 w4 hm4 hx4 hs4=>?_
  have hx04:=ziv hx03 (hm2.ext hx3 (by simp)) (Nat.le_refl _) hx4
  have hpl:=hS.parts
  have hp32:=hN.p32
  have henc:zi8 n=zgb n.kind++zgb n.size++zi9 n.parts:=by unfold zi8;rw [if_neg h1,if_pos h2,List.append_assoc]
  refine jg (fun (s:(Option Addr×Nat×Nat)×Int) W=>∃ i:Nat,s.2=(i:Int)/\i<=n.parts.length/\Ext [] w1.heap W.heap/\Mine W.heap w1.heap.size xg 1 s.1 (byteCells (zgb n.kind++zgb n.size++zi9 (n.parts.take i)))) (fun s _=>(n.parts.length-s.2).toNat) ⟨0,rfl,Nat.zero_le _,hx04,by simpa [zi9] using hm4⟩ ?_
  rintro ⟨z,_⟩ W ⟨i,rfl,hi,hxW,hmW⟩
  have hpre:(zi9 (n.parts.take i)).length<=32 * 65536:=by
   rw [zne fun p hp=>hp32 p (List.mem_of_mem_take hp)]
   simp;omega
  have hplen:=hN.plen
  refine je (s:=.slc) (t:=xp) rfl (hxW.get hb1 (by simp)) rfl ?_
  refine zq (fun hlt=>?_) (fun hge=>?_)
  ·have hil:i < n.parts.length:=by simp only at hlt;omega
   have hget:=List.getElem?_eq_getElem hil
   have hmem:n.parts[i]∈n.parts:=List.getElem_mem hil
   have htake:n.parts.take (i+1)=n.parts.take i++[n.parts[i]]:=by rw [List.take_add_one,hget];rfl
   generalize n.parts[i]=v at hget hmem htake
   have hv:=hp32 v hmem
   refine je (s:=.slc) (t:=xp) rfl (hxW.get hb1 (by simp)) rfl ?_
   refine Bl.zcd (i:=i) Bl.zaf (by omega) (hN.parts.ext (hx1.trans hxW) (by simp)) hplen hget rfl fun b o c T fr _ hb hsz hc _=>?_
   rw [Bl.zba hv] at hc
   refine qd8 rfl hb hsz hv hc fun y hy hyl=>?_
   refine qdq rfl hmW hxW.1 hy hyl (by simp only [List.length_append];omega) fun x5 w5 hm5 hx5 hs5=>?_
   refine jd ((i+1:Nat):Int) (by simp) (by omega) (by omega) ?_
   refine⟨⟨i+1,rfl,by omega,ziv hxW hmW (Nat.le_refl _) hx5,?_⟩,by simp only;omega⟩
   rw [htake,zty]
   simpa using hm5
  ·obtain rfl:i=n.parts.length:=by simp only at hge;omega
   rw [List.take_length] at hmW
   exact fin hmW hxW henc.symm
 ·refine je (s:=.slc) (t:=xi) rfl hb2 rfl ?_
  have hil:=hN.ilen
  rw [hil]
  refine cvU fun k2 e2 l2=>?_
  refine zk (zt9 rfl l2) ?_
  rintro e w3 ⟨y3,rfl,hm3,hx3⟩
  refine⟨y3,rfl,?_⟩
  rw [show zpx k2=zgb (n.items.length:Int) by rw [e2];rfl] at hm3
  have u2:=@zee (n.items.length:Int)
  have hx03:=hx2.trans hx3
  refine qdq rfl (hm2.ext hx3 (by simp)) hx03.1 hm3.cells (by have:=hm3.len;simp at this;omega) (by omega) fun x4 w4 hm4 hx4 hs4=>?_
  have hx04:=ziv hx03 (hm2.ext hx3 (by simp)) (Nat.le_refl _) hx4
  have hpl:=hS.items
  have hnm:=hS.names
  have hi32:=hN.i32
  have henc:zi8 n=zgb n.kind++zgb n.items.length++zo1 n.items:=by unfold zi8;rw [if_neg h1,if_neg h2,List.append_assoc]
  refine jg (fun (s:(Option Addr×Nat×Nat)×Int) W=>∃ i:Nat,s.2=(i:Int)/\i<=n.items.length/\Ext [] w1.heap W.heap/\Mine W.heap w1.heap.size xg 1 s.1 (byteCells (zgb n.kind++zgb n.items.length++zo1 (n.items.take i)))) (fun s _=>(n.items.length-s.2).toNat) ⟨0,rfl,Nat.zero_le _,hx04,by simpa [zo1] using hm4⟩ ?_
  rintro ⟨z,_⟩ W ⟨i,rfl,hi,hxW,hmW⟩
  have hpre:(zo1 (n.items.take i)).length<=65600 * 65536:=by
   have h:=zpo (l:=n.items.take i) (fun p hp=>hnm p (List.mem_of_mem_take hp)) (fun p hp=>hi32 p (List.mem_of_mem_take hp))
   have:(n.items.take i).length<=65536:=by simp;omega
   omega
  refine je (s:=.slc) (t:=xi) rfl (hxW.get hb1 (by simp)) rfl ?_
  refine zq (fun hlt=>?_) (fun hge=>?_)
  ·have hil2:i < n.items.length:=by simp only at hlt;omega
   have hget:=List.getElem?_eq_getElem hil2
   have hmem:n.items[i]∈n.items:=List.getElem_mem hil2
   have htake:n.items.take (i+1)=n.items.take i++[n.items[i]]:=by rw [List.take_add_one,hget];rfl
   generalize n.items[i]=v at hget hmem htake
   have hv:=hi32 v hmem
   have hvn:=hnm v hmem
   have nl:=zea (n:=v.name.length) (by omega)
   have uk:=@zee v.kind
   have itc:∀ {W':World},Ext [] w1.heap W'.heap->Cells W'.heap xi.1 (n.items.flatMap zcy):=fun h=>hN.items.ext (hx1.trans h) (by simp)
   refine je (s:=.slc) (t:=xi) rfl (hxW.get hb1 (by simp)) rfl ?_
   refine Bl.zcd (i:=i) zai (by omega) (itc hxW) hil hget rfl fun b o c T fr _ hb hsz hc _=>?_
   refine je (s:=.str) (t:=strOf v.name) rfl hb (hc 0 (by omega)) ?_
   refine zk (z5i v.name rfl (by omega)) ?_
   rintro e w5 ⟨y5,rfl,hm5,hx5⟩
   refine⟨y5,rfl,?_⟩
   have hx05:=hxW.trans hx5
   refine qdq rfl (hmW.ext hx5 (by simp)) hx05.1 hm5.cells (by have:=hm5.len;simp at this;omega) (by simp only [List.length_append,zo2];omega) fun x6 w6 hm6 hx6 hs6=>?_
   have hx06:=ziv hx05 (hmW.ext hx5 (by simp)) (Nat.le_refl _) hx6
   refine je (s:=.slc) (t:=xi) rfl (hx06.get hb1 (by simp)) rfl ?_
   refine Bl.zcd (i:=i) zai (by omega) (itc hx06) hil hget rfl fun b' o' c' T' fr' _ hb' hsz' hc' _=>?_
   simp only [jo]
   refine je (s:=.int .i64) (t:=v.kind) rfl hb' (hc' 1 (by omega)) ?_
   refine cvU fun k3 e3 l3=>?_
   refine zk (zt9 rfl l3) ?_
   rintro e w7 ⟨y7,rfl,hm7,hx7⟩
   refine⟨y7,rfl,?_⟩
   rw [show zpx k3=zgb v.kind by rw [e3];rfl] at hm7
   have hx07:=hx06.trans hx7
   refine qdq rfl (hm6.ext hx7 (by simp)) hx07.1 hm7.cells (by have:=hm7.len;simp at this;omega) (by simp only [List.length_append,zo2];omega) fun x8 w8 hm8 hx8 hs8=>?_
   have hx08:=ziv hx07 (hm6.ext hx7 (by simp)) (Nat.le_refl _) hx8
   refine je (s:=.slc) (t:=xi) rfl (hx08.get hb1 (by simp)) rfl ?_
   refine Bl.zcd (i:=i) zai (by omega) (itc hx08) hil hget rfl fun b2 o2 c2 T2 fr2 _ hb2' hsz2 hc2 _=>?_
   simp only [jo]
   refine qd8 (k:=v.sum) rfl hb2' (by omega) hv (fun j hj=>?_) fun y hy hyl=>?_
   ·have:=hc2 (2+j) (by omega)
    rw [<-Nat.add_assoc] at this
    rw [this]
    simp only [zcy,Bl.zba hv]
    rw [show 2+j=(j+1)+1 by omega]
    rfl
   refine qdq rfl hm8 hx08.1 hy hyl (by simp only [List.length_append,zo2];omega) fun x9 w9 hm9 hx9 hs9=>?_
   refine jd ((i+1:Nat):Int) (by simp) (by omega) (by omega) ?_
   refine⟨⟨i+1,rfl,by omega,ziv hx08 hm8 (Nat.le_refl _) hx9,?_⟩,by omega⟩
   rw [htake,zw5]
   simpa [qgd] using hm9
  ·obtain rfl:i=n.items.length:=by simp only at hge;omega
   rw [List.take_length] at hmW
   exact fin hmW hxW henc.symm
abbrev BV:=(Option Addr×Nat×Nat)×List UInt8
def zcj (H:Heap) (B:Nat) (x:Option Addr×Nat×Nat) (Ls:List (List UInt8)):Prop:=
 ∃ ys:List BV,Mine H B zi 1 x (ys.map fun y=>zbv y.1)/\ys.map (·.2)=Ls/\∀ y∈ys,Mine H B xg 1 y.1 (byteCells y.2)/\∀ b∈jf y.1,b∉jf x
theorem zcj.nil {H:Heap}{B:Nat}:zcj H B (none,0,0) []:=⟨[],.inl ⟨rfl,rfl⟩,rfl,by simp⟩
theorem zcj.len {H:Heap}{B:Nat}{x:Option Addr×Nat×Nat}{Ls:List (List UInt8)}(h:zcj H B x Ls):x.2.1=Ls.length:=by
 obtain⟨ys,h1,h2,_⟩:=h
 have:=h1.len
 rw [<-h2];simp at *;omega
theorem zcj.ge {H:Heap}{B:Nat}{x:Option Addr×Nat×Nat}{Ls:List (List UInt8)}(h:zcj H B x Ls):∀ b∈jf x,B<=b:=by
 obtain⟨ys,h1,_⟩:=h
 exact xu h1
theorem zbh {H:Heap}{B:Nat}{T:TypeId}{sz:Nat}{x:Option Addr×Nat×Nat}{vs:List Value}(h:Mine H B T sz x vs):∀ b∈jf x,b < H.size/\∃ c T fr,H[b]?=some (.cells c T fr):=by
 intro b hb
 rcases h with⟨rfl,_⟩ | ⟨b',c',hx1,_,hg,_⟩
 ·simp [jf] at hb
 ·simp [jf,hx1] at hb
  subst hb
  exact⟨lt_of_get hg,_,_,_,hg⟩
theorem zfm {H:Heap}{B:Nat}{T:TypeId}{sz:Nat}{x:Option Addr×Nat×Nat}{vs:List Value}(h:Mine H B T sz x vs):x.2.1<=x.2.2:=by
 rcases h with⟨rfl,_⟩ | ⟨_,_,_,_,_,_,_,h,_⟩
 ·exact Nat.le_refl _
 ·exact h
theorem zcj.lt {H:Heap}{B:Nat}{x:Option Addr×Nat×Nat}{Ls:List (List UInt8)}(h:zcj H B x Ls):∀ b∈jf x,b < H.size/\∃ c T fr,H[b]?=some (.cells c T fr):=by
 obtain⟨ys,h1,_⟩:=h
 exact zbh h1
theorem zcj.ext {H H':Heap}{B:Nat}{x:Option Addr×Nat×Nat}{Ls:List (List UInt8)}{M:List Nat}(h:zcj H B x Ls) (hx:Ext M H H') (hM:∀ b∈M,b < B):zcj H' B x Ls:=by
 obtain⟨ys,h1,h2,h3⟩:=h
 refine⟨ys,h1.ext hx fun b hb hm=>?_,h2,fun y hy=>⟨(h3 y hy).1.ext hx fun b hb hm=>?_,(h3 y hy).2⟩⟩
 ·have:=xu h1 b hb;have:=hM b hm;omega
 ·have:=xu (h3 y hy).1 b hb;have:=hM b hm;omega
theorem zcj.beside {B B':Nat}{W W':World}{x:Option Addr×Nat×Nat}{Ls:List (List UInt8)}(h:zcj W.heap B x Ls) (hx:Beside B' W W'):zcj W'.heap B x Ls:=by
 obtain⟨ys,h1,h2,h3⟩:=h
 exact⟨ys,hx.mine h1,h2,fun y hy=>⟨hx.mine (h3 y hy).1,(h3 y hy).2⟩⟩
theorem zcj.mono {H:Heap}{B B':Nat}{x:Option Addr×Nat×Nat}{Ls:List (List UInt8)}(h:zcj H B x Ls) (hB:B'<=B):zcj H B' x Ls:=by
 obtain⟨ys,h1,h2,h3⟩:=h
 exact⟨ys,h1.mono hB,h2,fun y hy=>⟨(h3 y hy).1.mono hB,(h3 y hy).2⟩⟩
theorem zcj.rows {H:Heap}{B:Nat}{x:Option Addr×Nat×Nat}{Ls:List (List UInt8)}(h:zcj H B x Ls):Bl.Rows H x.1 x.2.1 Ls:=by
 have hl:=h.len
 obtain⟨ys,h1,h2,h3⟩:=h
 refine⟨hl,fun i hi=>?_⟩
 have hyl:ys.length=Ls.length:=by rw [<-h2];simp
 have hiy:i < ys.length:=by omega
 rcases h1 with⟨rfl,_⟩ | ⟨b,c,hx1,_,hg,hc,hle,hxle,he⟩
 ·simp at hl;omega
 have hy:=h3 ys[i] (List.getElem_mem hiy)
 have hL:Ls[i]=ys[i].2:=by simp [<-h2]
 refine⟨b,0,c,_,_,ys[i].1,hx1,hg,?_,by rw [hL];exact hy.1.cells,by rw [hL];have:=hy.1.len;simp at this;omega,?_⟩
 ·have h5:(c.extract 0 (ys.map fun y=>zbv y.1).length).toList[i]?=(ys.map fun y=>zbv y.1)[i]?:=by rw [he]
  rw [Array.getElem?_toList,Array.getElem?_extract] at h5
  simp at h5
  rw [if_pos (by omega),List.getElem?_eq_getElem hiy] at h5
  simpa using h5
 ·rcases hy.1 with⟨h,_⟩ | ⟨_,_,_,_,_,_,_,h,_⟩
  ·rw [h];exact Nat.le_refl _
  ·exact h
theorem EBs:Elem P zi 1 24:=zlc (z:=.slice none 0 0) (by kernel_rfl) rfl
theorem uSS:P.underlying jq=some (.slice zi):=by kernel_rfl
theorem qdh {w:World}{H:Heap}{B:Nat}{x y:Option Addr×Nat×Nat}{Ls:List (List UInt8)}{L:List UInt8}(hw:w.heap=H) (hB:zcj H B x Ls) (hBs:B<=H.size) (hy:Mine H B xg 1 y (byteCells L)) (hyx:∀ b∈jf y,b∉jf x) (hlen:Ls.length<=1073741824){K:(Option Addr×Nat×Nat)->World->Prop}
  (hK:∀ x' w',zcj w'.heap B x' (Ls++[L])->Ext (jf x) H w'.heap->(∀ c∈jf x',c∈jf x\/H.size<=c)->K x' w') :
  zas P (Instr.buildSlice jq 1 #[(0,(Value.slice y.1 y.2.1 y.2.2))]) .slc w fun (t15:(Option Addr×Nat×Nat)) w_4=>
  zas P (Builtin.append_ #[jq,jq] jq #[(Value.slice x.1 x.2.1 x.2.2),(Value.slice t15.1 t15.2.1 t15.2.2)]) .slc w_4 K:=by
 have hl:=hB.len
 have hylt:=zbh hy
 obtain⟨ys,h1,h2,h3⟩:=hB
 have hylen:ys.length=Ls.length:=by rw [<-h2];simp
 refine zam (s:=.slc) (some ⟨w.heap.size,0,none⟩,1,1) _ (zd7 EBs uSS (v:=.slice y.1 y.2.1 y.2.2) rfl (by omega) (by omega)) ?_
 subst hw
 have hxp:Ext [] w.heap (w.heap.push (.cells (Value.slice y.1 y.2.1 y.2.2).cells zi)):=.push _
 refine zch (n:=1) (us:=[zbv y]) (H:=w.heap.push (.cells (Value.slice y.1 y.2.1 y.2.2).cells zi)) EBs (by omega) uSS (zbf uSS) rfl (h1.ext hxp (by simp)) (by simp;omega)
  (Src.slc rfl (.inr ⟨w.heap.size,0,_,_,_,rfl,zn,by simp [Value.cells],by simp [Value.cells,zbv]⟩) rfl) (by intro v hv;simp at hv;subst hv;rfl) (by omega) ?_
 intro x' w4 hm4 hl4 hx4 hs4
 have hx04:Ext (jf x) w.heap w4.heap:=(hxp.mono (by simp)).trans hx4
 have hs0:w.heap.size<=w4.heap.size:=hx04.1
 have hs4':∀ c∈jf x',c∈jf x\/w.heap.size<=c:=fun c hc=>by
  rcases hs4 c hc with h | h
  ·exact .inl h
  ·right;have:=hxp.1;omega
 refine hK x' w4 ⟨ys++[(y,L)],by simpa using hm4,by simp [h2],fun z hz=>?_⟩ hx04 hs4'
 rcases List.mem_append.1 hz with hz | hz
 ·obtain⟨g1,g2⟩:=h3 z hz
  refine⟨g1.ext hx04 g2,fun b hb h=>?_⟩
  rcases hs4' b h with h | h
  ·exact g2 b hb h
  ·have:=(zbh g1 b hb).1;omega
 ·simp only [List.mem_singleton] at hz
  subst hz
  refine⟨hy.ext hx04 hyx,fun b hb h=>?_⟩
  rcases hs4' b h with h | h
  ·exact hyx b hb h
  ·have:=(hylt b hb).1;omega
theorem stD {w:World}{H:Heap}{b o:Nat}{c:Array Value}{T:TypeId}{k:List UInt8}(hk:k.length=32) (hw:w.heap=H) (hb:H[b]?=some (.cells c T (0,0))) (hs:o+32<=c.size){K:World->Prop}
  (hK:∀ w',w'.heap=H.setIfInBounds b (.cells (setCells c o (byteCells k)) T (0,0))->K w'):zbz P (storeVar zf (⟨b,o,none⟩:Addr) (arr k)) w K:=by
 refine zaz (v:=arr k) (by rw [szD,Bl.jy,hk]) (by rw [Bl.jy];omega) (by simpa [Value.cells,arr] using jr) hw hb (by rw [Bl.jy];omega) fun w' hw'=>hK w' ?_
 rw [hw']
 simp [Value.cells,arr]
theorem z2t {w:World}{H:Heap}{b:Nat}{c:Array Value}{T:TypeId}{k:List UInt8}(hk:k.length=32) (hw:w.heap=H) (hb:H[b]?=some (.cells c T (0,0))) (hs:c.size=32){K:World->Prop}
  (hK:∀ w',w'.heap=H.setIfInBounds b (.cells (byteCells k).toArray T (0,0))->K w'):zbz P (storeVar zf (⟨b,0,none⟩:Addr) (arr k)) w K:=by
 refine stD hk hw hb (by omega) fun w' hw'=>hK w' ?_
 rw [hw',zan (by simp [hk,hs])]
theorem zad {L:List UInt8}:(Sha.sum L).length=32:=Bl.zad
set_option maxHeartbeats 4000000 in
theorem qbe {w:World}{H:Heap}{B:Nat}{x xp xi:Option Addr×Nat×Nat}{Ls:List (List UInt8)}{n:Nod}(hw:w.heap=H) (hB:zcj H B x Ls) (hB0:0 < B) (hBs:B<=H.size) (hN:NodW H n xp xi) (hR:zar n=true) (hS:Bl.Rounds H) (hlen:Ls.length<=1073741824) (hel:(zi8 n).length<=1099511627776) :
  qc P zi1 #[.slice x.1 x.2.1 x.2.2,.agg (zca n xp xi).toArray] w fun e w'=>∃ x',e=.returned (.tuple #[zbv x',arr (Sha.sum (zi8 n))])/\zcj w'.heap B x' (Ls++[zi8 n])/\Ext (jf x) H w'.heap/\∀ c∈jf x',c∈jf x\/H.size<=c:=by
 refine zz7 ?_
 unfold zu7
 refine jv hw fun w1 hw1=>?_
 have hx1:Ext [] H w1.heap:=by rw [hw1];exact .push _
 have hb1:w1.heap[H.size]?=some (.cells (zca n xp xi).toArray zh (0,0)):=by rw [hw1];exact zn
 refine jv rfl fun w2 hw2=>?_
 have hx2:Ext [] w1.heap w2.heap:=by rw [hw2];exact .push _
 have hd2:w2.heap[w1.heap.size]?=some (.cells (zc P zf) zf (0,0)):=by rw [hw2];exact zn
 have hx02:=hx1.trans hx2
 refine qx rfl (hx2.get hb1 (by simp)) rfl ?_
 refine zk (z9x rfl (hN.ext hx02) hR) ?_
 rintro e w3 ⟨y,rfl,hm3,hx3⟩
 refine⟨(y,0),rfl,?_⟩
 have hx03:=hx02.trans hx3
 have hs02:=hx02.1
 have hxlt:=hB.lt
 refine qdh rfl (hB.ext hx03 (by simp)) (by have:=hx03.1;omega) (hm3.mono (by omega)) (fun b hb h=>by have:=xu hm3 b hb;have:=(hxlt b h).1;omega) hlen fun x5 w5 hB5 hx5 hs5=>?_
 have hylt:=zbh hm3
 have hm5:=hm3.ext hx5 (fun b hb h=>by have:=xu hm3 b hb;have:=(hxlt b h).1;omega)
 have hx05:Ext (jf x) H w5.heap:=(hx03.mono (by simp)).trans hx5
 have h0x:0∉jf x:=fun h=>by have:=hB.ge 0 h;omega
 have hyl:y.2.1=(zi8 n).length:=by have:=hm3.len;simp at this;omega
 refine zk (Bl.z7t rfl hm5.cells hyl (zfm hm3) (hS.ext hx05 h0x) (by omega)) ?_
 rintro e w6 ⟨rfl,hx6⟩
 refine⟨arr (Sha.sum (zi8 n)),rfl,?_⟩
 have hs1:H.size < w1.heap.size:=lt_of_get hb1
 have hdn:w1.heap.size∉jf x:=fun h=>by have:=(hxlt _ h).1;omega
 have hd6:w6.heap[w1.heap.size]?=some (.cells (zc P zf) zf (0,0)):=hx6.get (hx5.get (hx3.get hd2 (by simp)) hdn) (by simp)
 refine z2t zad rfl hd6 (by rw [zcD]) fun w7 hw7=>?_
 have hd7:w7.heap[w1.heap.size]?=some (.cells (byteCells (Sha.sum (zi8 n))).toArray zf (0,0)):=by rw [hw7];exact qg hd6
 refine qx rfl hd7 (by simp [zad]) ?_
 have hx06:=hx05.trans (hx6.mono (by simp))
 have hdx5:w1.heap.size∉jf x5:=fun h=>by
  rcases hs5 _ h with h | h
  ·exact hdn h
  ·have:=hx3.1;have:=lt_of_get hd2;omega
 refine⟨x5,rfl,?_,?_,fun c hc=>?_⟩
 ·have hB6:=hB5.ext hx6 (by simp)
  obtain⟨ys,g1,g2,g3⟩:=hB6
  have hx67:Ext [w1.heap.size] w6.heap w7.heap:=by rw [hw7];exact Ext.set _ (by simp)
  refine⟨ys,g1.ext hx67 (fun b hb h=>by simp at h;subst h;exact hdx5 hb),g2,fun z hz=>⟨(g3 z hz).1.ext hx67 fun b hb h=>?_,(g3 z hz).2⟩⟩
  simp at h;subst h
  obtain⟨_,c',T',fr',hcell⟩:=zbh (g3 z hz).1 _ hb
  rcases (g3 z hz).1 with⟨h,_⟩ | ⟨b',c2,hx1',_,hg,_⟩
  ·rw [h] at hb;simp [jf] at hb
  ·simp [jf,hx1'] at hb
   subst hb
   rw [hd6] at hg
   simp only [Option.some.injEq,Obj.cells.injEq] at hg
   exact absurd hg.2.1 (by decide)
 ·rw [hw7];exact hx06.set_own (.inl (by omega))
 ·rcases hs5 c hc with h | h
  ·exact .inl h
  ·right;have:=hx03.1;omega
theorem qhy {w:World}{H:Heap}{D:List UInt8}(hw:w.heap=H){K:(Option Addr×Nat×Nat)->World->Prop}
  (hK:∀ y w',Cells w'.heap y.1 (byteCells D)->y.2.1=D.length->y.2.1<=y.2.2->jf y=[H.size]->Ext [] H w'.heap->H.size < w'.heap.size->K y w'):zas P (convert vg zi (.string (strOf D))) .slc w K:=by
 subst hw
 have h:=run_bytes_of_string w vg zi xg (strOf D) z14 uS8 u8 (P:=P)
 have hge:=grownCap_ge w (strOf D).size 0 xg
 refine zam (s:=.slc) (some ⟨w.heap.size,0,none⟩,(strOf D).size,grownCap w (strOf D).size 0 xg) _ h ?_
 refine hK _ _ (.inr ⟨w.heap.size,0,_,_,_,rfl,zn,?_,?_⟩) (by simp) hge rfl (.push _) (by show w.heap.size < (w.heap.push _).size;simp)
 ·simp [bytesRow,strOf]
 ·rw [Nat.zero_add]
  simp [bytesRow,strOf,byteCells,List.take_of_length_le]
theorem z6g {w:World}{t e:TypeId}{sz:Nat}{a:Option Addr}{len cap l h m:Nat}{k:IntKind}(hu:P.underlying t=some (.slice e)) (hs:(P.info? e).map (·.size)=some sz) (h1:l<=h) (h2:h<=m) (h3:m<=cap) :
  (Instr.sliceAt t (.slice a len cap) (some (.int k (l:Int))) (some (.int k (h:Int))) (some (.int k (m:Int)))).run P w=.ok (.slice (if m=l then a else a.map (·.add (l * sz))) (h-l) (m-l)) w:=by
 have em:∀ code,(Instr.sliceBound (.int k (m:Int)) cap code).run P w=.ok m w:=by
  intro code
  simp [Instr.sliceBound,asIntOf,h3]
 have eh:∀ code,(Instr.sliceBound (.int k (h:Int)) m code).run P w=.ok h w:=by
  intro code
  simp [Instr.sliceBound,asIntOf,h2]
 have el:∀ code,(Instr.sliceBound (.int k (l:Int)) h code).run P w=.ok l w:=by
  intro code
  simp [Instr.sliceBound,asIntOf,h1]
 simp [Instr.sliceAt,Instr.slice,Instr.sliceBounds,qj hu,em,eh,el,zby hs]
def npc (D:List UInt8):Nat:=(D.length+63) / 64
def zob (D:List UInt8) (j:Nat):List UInt8:=(D.drop (64 * j)).take 64
def ztt (y:Option Addr×Nat×Nat) (D:List UInt8) (j:Nat):Option Addr×Nat×Nat:=(if 64 * j+min 64 (D.length-64 * j)=64 * j then y.1 else y.1.map (·.add (64 * j * 1)),(64 * j+min 64 (D.length-64 * j))-64 * j,(64 * j+min 64 (D.length-64 * j))-64 * j)
theorem zro {D:List UInt8}{j:Nat}:(zob D j).length=min 64 (D.length-64 * j):=by simp [zob]
theorem z1f {D:List UInt8}{j:Nat}:j < npc D ↔ 64 * j < D.length:=by unfold npc;omega
theorem z3r {H:Heap}{y:Option Addr×Nat×Nat}{D:List UInt8}{j:Nat}(h:Cells H y.1 (byteCells D)) (hj:j < npc D):Cells H (ztt y D j).1 (byteCells (zob D j)):=by
 have hj':=z1f.1 hj
 have h1:=h.part (64 * j) (min 64 (D.length-64 * j)) (by simp;omega)
 rw [zju,zf1] at h1
 have h2:zob D j=(D.drop (64 * j)).take (min 64 (D.length-64 * j)):=by
  unfold zob
  by_cases h64:64<=D.length-64 * j
  ·rw [Nat.min_eq_left h64]
  ·rw [Nat.min_eq_right (by omega),List.take_of_length_le (by simp;omega),List.take_of_length_le (by simp)]
 rw [h2]
 unfold ztt
 simp only
 rw [if_neg (by omega),Nat.mul_one]
 exact h1
theorem qbk {w:World}{H:Heap}{b c:Nat}{y:Option Addr×Nat×Nat}{D:List UInt8}(hw:w.heap=H) (hb:H[b]?=some (.cells #[zbv y] zi (0,0))) (hc:H[c]?=some (.cells #[.int .i64 64] zbw (0,0))) (hy:y.2.1=D.length) (hcap:y.2.1<=y.2.2) (hD:D.length<=1099511627776) :
  qgi P (.func (.func zb6) #[] #[.pointer (some ⟨b,0,none⟩),.pointer (some ⟨c,0,none⟩)]) (fun ys=>ys=List.range (npc D)) (fun pre j=>j=pre.length/\j < npc D) (fun j=>#[zbv (ztt y D j)]) [b,c] w:=by
 refine⟨_,_,rfl,fun l I J w1 M hx1 hMM hst h0 hY=>?_⟩
 have hx1:=hw▸hx1
 have hb1:=hx1.get hb (by simp)
 have hc1:=hx1.get hc (by simp)
 have hbl:=lt_of_get hb1
 have hcl:=lt_of_get hc1
 refine zh5 ?_
 unfold zfa
 refine jg (fun s W=>∃ i:Nat,s=((64 * i:Nat):Int)/\i<=npc D/\I (List.range i) W/\w1.heap.size<=W.heap.size/\W.heap[b]?=some (.cells #[zbv y] zi (0,0))/\W.heap[c]?=some (.cells #[.int .i64 64] zbw (0,0))) (fun s _=>(64 * npc D+64-s).toNat)
  ⟨0,rfl,Nat.zero_le _,h0,Nat.le_refl _,hb1,hc1⟩ ?_
 rintro _ W ⟨i,rfl,hi,hI,hsz,hbW,hcW⟩
 simp only [zy]
 refine je (s:=.slc) (t:=y) rfl hbW rfl ?_
 refine zq (fun hil=>?_) (fun hil=>?_)
 ·have hil:i < npc D:=z1f.2 (by omega)
  have hil':=z1f.1 hil
  refine jl rfl fun w2 hw2=>?_
  have hx02:Ext [] W.heap w2.heap:=by rw [hw2];exact .refl _ _
  have hb2:=hx02.get hbW (by simp)
  have hc2:=hx02.get hcW (by simp)
  refine je (s:=.int .i64) (t:=(64:Int)) rfl hc2 rfl ?_
  refine je (s:=.slc) (t:=y) rfl hb2 rfl ?_
  refine qp (s:=.slc) (if y.2.2=64 * i then y.1 else y.1.map (·.add (64 * i * 1)),y.2.1-64 * i,y.2.2-64 * i) (za1 uS8 sz8 (.yes rfl) .no (by omega) hcap) ?_
  refine qp (s:=.int .i64) ((min 64 (D.length-64 * i):Nat):Int) (by rw [run_min_int2];congr 2;simp only;split <;> omega) ?_
  refine je (s:=.slc) (t:=y) rfl hb2 rfl ?_
  refine jd ((64 * i+min 64 (D.length-64 * i):Nat):Int) (by omega) (by omega) (by omega) ?_
  refine jd ((64 * i+min 64 (D.length-64 * i):Nat):Int) (by omega) (by omega) (by omega) ?_
  refine qp (s:=.slc) (ztt y D i) (z6g uS8 sz8 (by omega) (Nat.le_refl _) (by omega)) ?_
  refine zuq ((hY (List.range i) i w2 ⟨by simp,hil⟩ (hst _ _ _ hI (.new hsz hx02))).mono ?_)
  have hs2:W.heap.size<=w2.heap.size:=hx02.1
  rintro e W2 ⟨hK,⟨rfl,hI2⟩ | ⟨rfl,hJ2⟩⟩
  ·refine⟨true,rfl,?_⟩
   refine jm rfl ?_
   have hb3:=hK.get hb2 hbl (fun h=>(hMM _ h).2 (by simp))
   have hc3:=hK.get hc2 hcl (fun h=>(hMM _ h).2 (by simp))
   refine je (s:=.int .i64) (t:=(64:Int)) rfl hc3 rfl ?_
   refine jd ((64 * (i+1):Nat):Int) (by omega) (by omega) (by omega) ?_
   refine⟨⟨i+1,rfl,by omega,?_,?_,hb3,hc3⟩,by omega⟩
   ·rw [List.range_succ];exact hI2
   ·exact Nat.le_trans (Nat.le_trans hsz hs2) hK.1
  ·refine⟨false,rfl,?_⟩
   exact zah rfl ⟨⟨_,rfl⟩,.inr hJ2⟩
 ·have hil:i=npc D:=by
   have:¬i < npc D:=fun h=>by have:=z1f.1 h;omega
   omega
  refine⟨⟨_,rfl⟩,.inl ⟨List.range (npc D),rfl,?_⟩⟩
  rw [<-hil];exact hI
theorem qf4 {w:World}{H:Heap}{y:Option Addr×Nat×Nat}{D:List UInt8}(hw:w.heap=H) (hy:y.2.1=D.length) (hcap:y.2.1<=y.2.2) (hD:D.length<=1099511627776) :
  qc P zdp #[.slice y.1 y.2.1 y.2.2,.int .i64 64] w fun e w'=>∃ gv b c,e=.returned gv/\H.size<=b/\H.size<=c/\b < w'.heap.size/\c < w'.heap.size/\Ext [] H w'.heap /\
   qgi P gv (fun ys=>ys=List.range (npc D)) (fun pre j=>j=pre.length/\j < npc D) (fun j=>#[zbv (ztt y D j)]) [b,c] w':=by
 refine zi4 ?_
 unfold zft
 refine jv hw fun w1 hw1=>?_
 have hx1:Ext [] H w1.heap:=by rw [hw1];exact .push _
 have hb1:w1.heap[H.size]?=some (.cells #[zbv y] zi (0,0)):=by rw [hw1];exact zn
 refine jv rfl fun w2 hw2=>?_
 have hx2:Ext [] w1.heap w2.heap:=by rw [hw2];exact .push _
 have hc2:w2.heap[w1.heap.size]?=some (.cells #[.int .i64 64] zbw (0,0)):=by rw [hw2];exact zn
 have hb2:=hx2.get hb1 (by simp)
 refine zal ?_
 refine je (s:=.int .i64) (t:=(64:Int)) rfl hc2 rfl ?_
 refine jm rfl ?_
 refine qp (s:=.any) (.func (.func zb6) #[] #[.pointer (some ⟨H.size,0,none⟩),.pointer (some ⟨w1.heap.size,0,none⟩)]) (by simp [Instr.makeFunc];rfl) ?_
 have hs1:=hx1.1
 exact⟨_,H.size,w1.heap.size,rfl,Nat.le_refl _,hs1,lt_of_get hb2,lt_of_get hc2,hx1.trans hx2,qbk rfl hb2 hc2 hy hcap hD⟩
def zuv (p:List UInt8):Nod:=⟨1,p,0,[],[]⟩
def zf3 (D:List UInt8) (j:Nat):List UInt8:=zi8 (zuv (zob D j))
def zlv (D:List UInt8) (k:Nat):List (List UInt8):=(List.range k).map fun j=>Sha.sum (zf3 D j)
def zgr (D:List UInt8) (k:Nat):Nod:=⟨2,[],D.length,zlv D k,[]⟩
def zc6 (D:List UInt8) (k:Nat):List (List UInt8):=(List.range k).map (zf3 D)
def zit (D:List UInt8):List (List UInt8):=zc6 D (npc D)++[zi8 (zgr D (npc D))]
def zj9 (D:List UInt8):List UInt8:=Sha.sum (zi8 (zgr D (npc D)))
theorem z3g {D:List UInt8}{k:Nat}:zlv D (k+1)=zlv D k++[Sha.sum (zf3 D k)]:=by simp [zlv,List.range_succ]
theorem zux {D:List UInt8}{k:Nat}:zc6 D (k+1)=zc6 D k++[zf3 D k]:=by simp [zc6,List.range_succ]
theorem zky {D:List UInt8}{k:Nat}:(zlv D k).length=k:=by simp [zlv]
theorem z0x {D:List UInt8}{k:Nat}:∀ p∈zlv D k,p.length=32:=by
 intro p hp
 obtain⟨j,_,rfl⟩:=List.mem_map.1 hp
 exact zad
theorem z3c {D:List UInt8}{j:Nat}(h:j < npc D):zar (zuv (zob D j))=true:=by
 have h1:=z1f.1 h
 have h2:=zro (D:=D) (j:=j)
 unfold zar zuv
 simp only [if_true,decide_eq_true_eq,List.length_nil,and_true]
 omega
theorem z7b {D:List UInt8}(h:D.length<=1024):zar (zgr D (npc D))=true:=by
 unfold zar zgr
 rw [if_neg (show ¬((2:Int)=1) by decide),if_pos rfl]
 simp only [zky,List.length_nil,and_true,true_and,decide_eq_true_eq,zkc,npc]
 omega
theorem zx4 {D:List UInt8}{j:Nat}:(zf3 D j).length<=100:=by
 have h2:=zro (D:=D) (j:=j)
 have u:=@zee 1
 have nl:=zea (n:=(zob D j).length) (by omega)
 unfold zf3 zi8 zuv
 simp only [if_true,List.length_append,zo2]
 omega
theorem z3p {D:List UInt8}{k:Nat}(hk:k<=65536):(zi8 (zgr D k)).length<=3000000:=by
 have u:=@zee 2
 have u2:=@zee (D.length:Int)
 have:=zne (l:=zlv D k) z0x
 rw [zky] at this
 unfold zi8 zgr
 rw [if_neg (show ¬((2:Int)=1) by decide),if_pos rfl]
 simp only [List.length_append]
 omega
theorem zj8 {H:Heap}{B B':Nat}{T T':TypeId}{sz sz':Nat}{x x':Option Addr×Nat×Nat}{vs vs':List Value}(h:Mine H B T sz x vs) (h':Mine H B' T' sz' x' vs') (hne:T≠T'):∀ b∈jf x,b∉jf x':=by
 intro b hb hb'
 rcases h with⟨rfl,_⟩ | ⟨b1,c1,hx1,_,hg1,_⟩
 ·simp [jf] at hb
 rcases h' with⟨rfl,_⟩ | ⟨b2,c2,hx2,_,hg2,_⟩
 ·simp [jf] at hb'
 simp [jf,hx1] at hb
 simp [jf,hx2] at hb'
 subst hb hb'
 rw [hg1] at hg2
 simp only [Option.some.injEq,Obj.cells.injEq] at hg2
 exact hne hg2.2.1
theorem ED:Elem P zf 32 32:=Bl.E27
theorem zyo {w:World}{H:Heap}{B:Nat}{x:Option Addr×Nat×Nat}{ds:List (List UInt8)}{k:List UInt8}(hw:w.heap=H) (hm:Mine H B zf 32 x (ds.flatMap Bl.zbp)) (hBs:B<=H.size) (hk:k.length=32) (hlen:ds.length<=1073741824){K:(Option Addr×Nat×Nat)->World->Prop}
  (hK:∀ x' w',Mine w'.heap B zf 32 x' ((ds++[k]).flatMap Bl.zbp)->Ext (jf x) H w'.heap->(∀ c∈jf x',c∈jf x\/H.size<=c)->K x' w') :
  zas P (Instr.buildSlice jc 1 #[(0,arr k)]) .slc w fun (t27:(Option Addr×Nat×Nat)) w_13=>
  zas P (Builtin.append_ #[jc,jc] jc #[(Value.slice x.1 x.2.1 x.2.2),(Value.slice t27.1 t27.2.1 t27.2.2)]) .slc w_13 K:=by
 have hlx:x.2.1=ds.length:=by
  have:=hm.len
  rw [zu Bl.zbp Bl.zaf] at this
  omega
 have hc1:(arr k).cells=(Bl.zbp k).toArray:=by rw [Bl.zba hk];rfl
 refine zam (s:=.slc) (some ⟨w.heap.size,0,none⟩,1,1) _ (zd7 ED Bl.qgh (v:=arr k) (by rw [Bl.jy,hk]) (by omega) (by omega)) ?_
 subst hw
 have hxp:Ext [] w.heap (w.heap.push (.cells (arr k).cells zf)):=.push _
 refine zch (bts:=32) (n:=1) (us:=Bl.zbp k) (H:=w.heap.push (.cells (arr k).cells zf)) ED (by omega) Bl.qgh (zbf Bl.qgh) rfl (hm.ext hxp (by simp)) (by simp;omega)
  (Src.slc rfl (.inr ⟨w.heap.size,0,_,_,_,rfl,zn,by rw [hc1];simp,by rw [hc1,Nat.zero_add];simp⟩) (by rw [Bl.zaf])) Bl.zp3 (by omega) ?_
 intro x' w4 hm4 hl4 hx4 hs4
 refine hK x' w4 (by rw [List.flatMap_append,List.flatMap_singleton];exact hm4) ((hxp.mono (by simp)).trans hx4) (fun c hc=>?_)
 rcases hs4 c hc with h | h
 ·exact .inl h
 ·right;have:=hxp.1;omega
theorem bN2 (n:Int) (w:World):(Instr.build zh #[(0,.int .i64 2),(2,.int .i64 n)]).run P w=.ok (.agg #[.int .i64 2,.string .empty,.int .i64 n,.slice none 0 0,.slice none 0 0]) w:=by kernel_rfl
theorem bN1 (s:ByteArray) (w:World):(Instr.build zh #[(0,.int .i64 1),(1,.string s)]).run P w=.ok (.agg #[.int .i64 1,.string s,.int .i64 0,.slice none 0 0,.slice none 0 0]) w:=by kernel_rfl
theorem NodW.bare {H:Heap}{n:Nod}(hp:n.parts=[]) (hi:n.items=[]):NodW H n (none,0,0) (none,0,0):=
 ⟨by rw [hp];exact .inl rfl,by rw [hp];rfl,by rw [hi];exact .inl rfl,by rw [hi];rfl,by rw [hp];simp,by rw [hi];simp⟩
set_option maxHeartbeats 16000000 in
theorem qg3 {w:World}{H:Heap}{B:Nat}{x:Option Addr×Nat×Nat}{Ls:List (List UInt8)}{D:List UInt8}(hw:w.heap=H) (hB:zcj H B x Ls) (hB0:0 < B) (hBs:B<=H.size) (hS:Bl.Rounds H) (hlen:Ls.length<=536870912) (hD:D.length<=1024) :
  qc P zou #[.slice x.1 x.2.1 x.2.2,.string (strOf D)] w fun e w'=>∃ x',e=.returned (.tuple #[zbv x',arr (zj9 D)])/\zcj w'.heap B x' (Ls++zit D)/\Ext (jf x) H w'.heap/\∀ c∈jf x',c∈jf x\/H.size<=c:=by
 have hnp:npc D<=16:=by unfold npc;omega
 have hxlt:=hB.lt
 have h0x:0∉jf x:=fun h=>by have:=hB.ge 0 h;omega
 have h0H:0 < H.size:=by omega
 refine z0e ?_
 unfold zvm
 refine jv hw fun w1 hw1=>?_
 have hx1:Ext [] H w1.heap:=by rw [hw1];exact .push _
 have hl1:w1.heap[H.size]?=some (.cells #[zbv x] jq (0,0)):=by rw [hw1];exact zn
 refine jv rfl fun w2 hw2=>?_
 have hx2:Ext [] w1.heap w2.heap:=by rw [hw2];exact .push _
 have hd2:w2.heap[w1.heap.size]?=some (.cells (zc P zf) zf (0,0)):=by rw [hw2];exact zn
 refine qp (s:=.any) (.agg (zca (zgr D 0) (none,0,0) (none,0,0)).toArray) (by rw [zbc];exact bN2 _ _) ?_
 refine z8c (zgr D 0) _ _ rfl fun w4 hw4=>?_
 have hx4:Ext [] w2.heap w4.heap:=by rw [hw4];exact .push _
 have hn4:w4.heap[w2.heap.size]?=some (.cells (zca (zgr D 0) (none,0,0) (none,0,0)).toArray zh (0,0)):=by rw [hw4];exact zn
 refine qhy rfl fun y w5 hcy hyl hyc hyo hx5 hs5=>?_
 refine zk (qf4 rfl hyl hyc (by omega)) ?_
 rintro e w6 ⟨gv,b,c,rfl,hbge,hcge,hblt,hclt,hx6,hseq⟩
 refine⟨gv,rfl,?_⟩
 have hx46:=hx5.trans hx6
 have hx26:=hx4.trans hx46
 have hx16:=hx2.trans hx26
 have hx06:=hx1.trans hx16
 have s1:H.size < w1.heap.size:=lt_of_get hl1
 have s2:w1.heap.size < w2.heap.size:=lt_of_get hd2
 have s4:w2.heap.size < w4.heap.size:=lt_of_get hn4
 have s6:=hx6.1
 have hl6:=hx16.get hl1 (by simp)
 have hd6:=hx26.get hd2 (by simp)
 have hn6:=hx46.get hn4 (by simp)
 have hcy6:=hcy.ext hx6 (by simp)
 have hB6:=hB.ext hx06 (by simp)
 refine qcm (α:=Nat) (shs:=[.slc]) (tv:=ztt y D) (fp:=[b,c]) hseq (H.size :: w2.heap.size :: jf x)
  (fun m hm=>?_) (fun m hm=>by simp at hm;omega)
  (fun pre W=>∃ x' xp',Ext (jf x) H W.heap/\w6.heap.size<=W.heap.size/\W.heap[H.size]?=some (.cells #[zbv x'] jq (0,0))/\W.heap[w2.heap.size]?=some (.cells (zca (zgr D pre.length) xp' (none,0,0)).toArray zh (0,0)) /\
   W.heap[w1.heap.size]?=some (.cells (zc P zf) zf (0,0))/\zcj W.heap B x' (Ls++zc6 D pre.length)/\(∀ c∈jf x',c∈jf x\/w6.heap.size<=c)/\Mine W.heap w6.heap.size zf 32 xp' ((zlv D pre.length).flatMap Bl.zbp)/\Cells W.heap y.1 (byteCells D)/\pre.length<=npc D)
  (fun _=>False) (fun _ _=>False) ?_ (fun _ _ h _=>h.elim) (fun _ _ _ h _=>h.elim) ?_ ?_ ?_ (fun _ h=>h.elim) (fun _ _ h=>h.elim)
 ·simp only [List.mem_cons] at hm
  rcases hm with rfl | rfl | hm
  ·exact⟨by omega,by simp;omega⟩
  ·exact⟨by omega,by simp;omega⟩
  ·have:=(hxlt m hm).1
   exact⟨by omega,by simp;omega⟩
 ·rintro pre W W' ⟨x',xp',h1,h1s,h2,h3,h3d,h4,h5,h6,h7,h8⟩ hBe
  exact⟨x',xp',hBe.ext (by omega) h1,Nat.le_trans h1s hBe.size,hBe.cells h2,hBe.cells h3,hBe.cells h3d,h4.beside hBe,h5,hBe.mine h6,hBe.own h7,h8⟩
 ·exact⟨x,(none,0,0),hx06.mono (by simp),Nat.le_refl _,hl6,hn6,hd6,by simpa [zc6] using hB6,fun c hc=>.inl hc,.inl ⟨rfl,by simp [zlv]⟩,hcy6,Nat.zero_le _⟩
 ·rintro pre k W ⟨rfl,hk⟩ ⟨x',xp',h1,h1s,h2,h3,h3d,h4,h5,h6,h7,h8⟩ hsz beg kc kr kx hbeg
  refine hbeg W _ (.refl _ _) fun W2 hB2 hs2 hkc _ _=>?_
  have h1:=hB2.ext (show H.size<=w6.heap.size by omega) h1
  have h2:=hB2.cells h2
  have h3:=hB2.cells h3
  have h3d:=hB2.cells h3d
  have h4:=h4.beside hB2
  have h6:=hB2.mine h6
  have h7:=hB2.own h7
  have hH2:=h1.1
  generalize hk2:pre.length=k at *
  have x'lt:=h4.lt
  have lenk:(Ls++zc6 D k).length<=1073741824:=by simp [zc6];omega
  refine jv rfl fun w9 hw9=>?_
  have hx9:Ext [] W2.heap w9.heap:=by rw [hw9];exact .push _
  have hd9:w9.heap[W2.heap.size]?=some (.cells (zc P zf) zf (0,0)):=by rw [hw9];exact zn
  refine je (s:=.slc) (t:=x') rfl (hx9.get h2 (by simp)) rfl ?_
  refine qp (s:=.str) _ (zrg uS8 u8 z14 rfl (z3r (h7.ext hx9 (by simp)) hk) (by rw [zro];unfold ztt;simp only;omega)) ?_
  refine qp (s:=.any) (.agg (zca (zuv (zob D k)) (none,0,0) (none,0,0)).toArray) (bN1 _ _) ?_
  refine zk (qbe (n:=zuv (zob D k)) rfl (h4.ext hx9 (by simp)) hB0 (by have:=hx9.1;omega) (.bare rfl rfl) (z3c hk) ((hS.ext h1 h0x).ext hx9 (by simp)) lenk (by have:=zx4 (D:=D) (j:=k);unfold zf3 at this;omega)) ?_
  rintro e w10 ⟨x2,rfl,hB10,hx10,hs10⟩
  refine⟨(x2,arr (Sha.sum (zf3 D k))),rfl,?_⟩
  have hHx':∀ {m:Nat},H.size<=m->m < w6.heap.size->m∉jf x':=fun h h' hm=>by
   rcases h5 _ hm with h2 | h2
   ·have:=(hxlt _ h2).1;omega
   ·omega
  have hd2x':W2.heap.size∉jf x':=fun h=>by have:=(x'lt _ h).1;omega
  have hl10:=hx10.get (hx9.get h2 (by simp)) (hHx' (Nat.le_refl _) (by omega))
  refine za9 rfl hl10 (by simp) fun w11 hw11=>?_
  have hx11:Ext [H.size] w10.heap w11.heap:=by rw [hw11];exact Ext.set _ (by simp)
  have hl11:w11.heap[H.size]?=some (.cells #[zbv x2] jq (0,0)):=by rw [hw11];exact qg hl10
  have hd11:=hx11.get (hx10.get hd9 hd2x') (by simp;omega)
  refine z2t zad rfl hd11 zcD fun w12 hw12=>?_
  have hx12:Ext [W2.heap.size] w11.heap w12.heap:=by rw [hw12];exact Ext.set _ (by simp)
  have hd12:w12.heap[W2.heap.size]?=some (.cells (byteCells (Sha.sum (zf3 D k))).toArray zf (0,0)):=by rw [hw12];exact qg hd11
  have s9:=hx9.1
  have s10:=hx10.1
  have s11:=hx11.1
  have s12:=hx12.1
  have s09:W2.heap.size < w9.heap.size:=lt_of_get hd9
  have keep12:∀ {m:Nat}{o:Obj},m≠H.size->m≠W2.heap.size->m∉jf x'->W2.heap[m]?=some o->w12.heap[m]?=some o:=fun h1 h2 h3 h=>hx12.get (hx11.get (hx10.get (hx9.get h (by simp)) h3) (by simp [h1])) (by simp [h2])
  have hn12:=keep12 (by omega) (by omega) (hHx' (by omega) (by omega)) h3
  refine je (s:=.slc) (t:=xp') rfl hn12 rfl ?_
  refine qx rfl hd12 (by simp [zad]) ?_
  have hxp':=zbh h6
  have hB9:zcj w9.heap B x' (Ls++zc6 D k):=h4.ext hx9 (by simp)
  have ne1:∀ m∈jf xp',m∉jf x':=by
   obtain⟨ys,g1,_⟩:=h4
   exact zj8 h6 g1 (by decide)
  have hm10:Mine w10.heap w6.heap.size zf 32 xp' ((zlv D k).flatMap Bl.zbp):=(h6.ext hx9 (by simp)).ext hx10 ne1
  have hm12:Mine w12.heap w6.heap.size zf 32 xp' ((zlv D k).flatMap Bl.zbp):=(hm10.ext hx11 (fun m hm h=>by have:=xu h6 m hm;simp at h;omega)).ext hx12 (fun m hm h=>by have:=(hxp' m hm).1;simp at h;omega)
  refine zyo rfl hm12 (by omega) zad (by rw [zky];omega) fun xp2 w14 hm14 hx14 hs14=>?_
  have hn14:=hx14.get hn12 (fun h=>by have:=xu h6 _ h;omega)
  refine za9 rfl hn14 (by simp [zca]) fun w15 hw15=>?_
  have hx15:Ext [w2.heap.size] w14.heap w15.heap:=by rw [hw15];exact Ext.set _ (by simp)
  have s14:=hx14.1
  have s15:=hx15.1
  have hxAll:Ext (H.size :: w2.heap.size :: W2.heap.size :: (jf x'++jf xp')) W2.heap w15.heap:=by
   refine (hx9.mono (by simp)).trans ((hx10.mono fun m hm=>?_).trans ((hx11.mono fun m hm=>?_).trans ((hx12.mono fun m hm=>?_).trans ((hx14.mono fun m hm=>?_).trans (hx15.mono fun m hm=>?_)))))
   ·simp [hm]
   ·simp at hm;simp [hm]
   ·simp at hm;simp [hm]
   ·simp [hm]
   ·simp at hm;simp [hm]
  have hxA:Ext (H.size :: w2.heap.size :: (jf x'++jf xp')) W2.heap w15.heap:=⟨hxAll.1,fun m hm hn=>hxAll.2 m hm fun h=>hn (by simp at h |-;rcases h with h | h | h | h <;> first | (exact .inl h) | (exact .inr (.inl h)) | omega | (exact .inr (.inr h)))⟩
  have hK:Keep (H.size :: w2.heap.size :: jf x) w6.heap.size W2.heap w15.heap:=by
   refine .of hxA (fun m hm=>?_) (fun m hm=>?_)
   ·simp only [List.mem_cons,List.mem_append] at hm
    rcases hm with rfl | rfl | hm | hm
    ·left;simp
    ·left;simp
    ·rcases h5 m hm with h | h
     ·left;simp [h]
     ·right;exact⟨h,(x'lt m hm).2⟩
    ·right;exact⟨xu h6 m hm,(hxp' m hm).2⟩
   ·simp only [List.mem_cons] at hm
    rcases hm with rfl | rfl | hm
    ·omega
    ·omega
    ·have:=(hxlt m hm).1;omega
  have hB15:zcj w15.heap B x2 ((Ls++zc6 D k)++[zf3 D k]):=by
   obtain⟨ys,g1,g2,g3⟩:=hB10
   have stay:∀ {T:TypeId}{x:Option Addr×Nat×Nat}{vs:List Value},Mine w10.heap B T 1 x vs->T≠jq->T≠zf->T≠zh->Mine w15.heap B T 1 x vs:=by
    intro T x vs hm n1 n2 n3
    have a1:=hm.ext hx11 (fun m hm1 h=>by
     simp at h;subst h
     rcases hm with⟨rfl,_⟩ | ⟨b1,c1,hx1,_,hg1,_⟩
     ·simp [jf] at hm1
     ·simp [jf,hx1] at hm1;subst hm1
      rw [hl10] at hg1
      simp only [Option.some.injEq,Obj.cells.injEq] at hg1
      exact n1 hg1.2.1.symm)
    have a2:=a1.ext hx12 (fun m hm1 h=>by
     simp at h;subst h
     rcases a1 with⟨rfl,_⟩ | ⟨b1,c1,hx1,_,hg1,_⟩
     ·simp [jf] at hm1
     ·simp [jf,hx1] at hm1;subst hm1
      rw [hd11] at hg1
      simp only [Option.some.injEq,Obj.cells.injEq] at hg1
      exact n2 hg1.2.1.symm)
    have a3:=a2.ext hx14 (zj8 a2 hm12 n2)
    exact a3.ext hx15 (fun m hm1 h=>by
     simp at h;subst h
     rcases a3 with⟨rfl,_⟩ | ⟨b1,c1,hx1,_,hg1,_⟩
     ·simp [jf] at hm1
     ·simp [jf,hx1] at hm1;subst hm1
      rw [hn14] at hg1
      simp only [Option.some.injEq,Obj.cells.injEq] at hg1
      exact n3 hg1.2.1.symm)
   exact⟨ys,stay g1 (by decide) (by decide) (by decide),g2,fun z hz=>⟨stay (g3 z hz).1 (by decide) (by decide) (by decide),(g3 z hz).2⟩⟩
  refine hkc w15 hK ⟨x2,xp2,?_,by omega,?_,?_,?_,?_,fun m hm=>?_,?_,?_,by simp;omega⟩
  ·exact hK.ext h1 (by omega) (fun m hm h=>by
    simp only [List.mem_cons] at h
    rcases h with rfl | rfl | h
    ·omega
    ·omega
    ·exact h)
  ·exact hx15.get (hx14.get (hx12.get hl11 (by simp;omega)) (fun h=>by have:=xu h6 _ h;omega)) (by simp;omega)
  ·rw [hw15,List.length_append,List.length_singleton,hk2]
   exact qg hn14
  ·exact hx15.get (hx14.get (keep12 (by omega) (by omega) (hHx' (by omega) (by omega)) h3d) (fun h=>by have:=xu h6 _ h;omega)) (by simp;omega)
  ·rw [List.length_append,List.length_singleton,hk2,zux,<-List.append_assoc]
   exact hB15
  ·rcases hs10 m hm with h | h
   ·exact h5 m h
   ·right;omega
  ·rw [List.length_append,List.length_singleton,hk2,z3g]
   exact hm14.ext hx15 (fun m hm h=>by
    simp at h;subst h
    have:=xu hm14 _ hm;omega)
  ·refine h7.ext hxA fun a ha _ h=>?_
   have hab:a.block=w4.heap.size:=by simpa [jf,ha] using hyo
   simp only [List.mem_cons,List.mem_append,hab] at h
   rcases h with h | h | h | h
   ·omega
   ·omega
   ·exact hHx' (by omega) (by omega) h
   ·have:=xu h6 _ h;omega
 ·rintro xs W rfl ⟨x',xp',h1,h1s,h2,h3,h3d,h4,h5,h6,h7,h8⟩ hDf
  simp only [List.length_range] at h3 h4 h6
  refine je (s:=.slc) (t:=x') rfl h2 rfl ?_
  refine qx rfl h3 rfl ?_
  have hlp:xp'.2.1=npc D:=by
   have:=h6.len
   rw [zu Bl.zbp Bl.zaf,zky] at this
   omega
  have hNW:NodW W.heap (zgr D (npc D)) xp' (none,0,0):=⟨h6.cells,by rw [hlp];exact zky.symm,.inl rfl,rfl,z0x,by simp [zgr]⟩
  have lenk:(Ls++zc6 D (npc D)).length<=1073741824:=by simp [zc6];omega
  have hH2:=h1.1
  refine zk (qbe (n:=zgr D (npc D)) rfl h4 hB0 (by omega) hNW (z7b hD) (hS.ext h1 h0x) lenk (by have:=z3p (D:=D) (k:=npc D) (by omega);omega)) ?_
  rintro e w17 ⟨x2,rfl,hB17,hx17,hs17⟩
  refine⟨(x2,arr (zj9 D)),rfl,?_⟩
  have x'lt:=h4.lt
  have hHx':∀ {m:Nat},H.size<=m->m < w6.heap.size->m∉jf x':=fun h h' hm=>by
   rcases h5 _ hm with h2 | h2
   ·have:=(hxlt _ h2).1;omega
   ·omega
  have hd17:=hx17.get h3d (hHx' (by omega) (by omega))
  refine z2t zad rfl hd17 zcD fun w18 hw18=>?_
  have hx18:Ext [w1.heap.size] w17.heap w18.heap:=by rw [hw18];exact Ext.set _ (by simp)
  have hd18:w18.heap[w1.heap.size]?=some (.cells (byteCells (zj9 D)).toArray zf (0,0)):=by rw [hw18];exact qg hd17
  have hDx:w6.heap.size∉jf x':=fun h=>by
   obtain⟨_,c',T',fr',hc'⟩:=x'lt _ h
   rw [hDf] at hc';cases hc'
  have hD18:w18.heap[w6.heap.size]?=some (.deferred (some [])):=hx18.get (hx17.get hDf hDx) (by simp;omega)
  refine⟨hD18,fun w19 hw19=>?_⟩
  have hBs19:Beside w6.heap.size w18 w19:=by rw [hw19];exact .put (Nat.le_refl _) hD18 (by intro _ _ _ h;cases h)
  refine qx rfl (hBs19.cells hd18) (by simp [zj9,zad]) ?_
  have hB18:zcj w18.heap B x2 ((Ls++zc6 D (npc D))++[zi8 (zgr D (npc D))]):=by
   obtain⟨ys,g1,g2,g3⟩:=hB17
   have stay:∀ {T:TypeId}{x:Option Addr×Nat×Nat}{vs:List Value},Mine w17.heap B T 1 x vs->T≠zf->Mine w18.heap B T 1 x vs:=by
    intro T x vs hm n2
    exact hm.ext hx18 (fun m hm1 h=>by
     simp at h;subst h
     rcases hm with⟨rfl,_⟩ | ⟨b1,c1,hx1,_,hg1,_⟩
     ·simp [jf] at hm1
     ·simp [jf,hx1] at hm1;subst hm1
      rw [hd17] at hg1
      simp only [Option.some.injEq,Obj.cells.injEq] at hg1
      exact n2 hg1.2.1.symm)
   exact⟨ys,stay g1 (by decide),g2,fun z hz=>⟨stay (g3 z hz).1 (by decide),(g3 z hz).2⟩⟩
  refine⟨x2,rfl,?_,?_,fun m hm=>?_⟩
  ·have:=hB18.beside hBs19
   rw [List.append_assoc] at this
   exact this
  ·have hx0:Ext (jf x) H w17.heap:=h1.own hx17 (fun m hm hlt=>by
    rcases h5 m hm with h | h
    ·exact h
    ·omega)
   have hx0':Ext (jf x) H w18.heap:=hx0.own hx18 (fun m hm hlt=>by simp at hm;omega)
   exact hBs19.ext (by omega) hx0'
  ·rcases hs17 m hm with h | h
   ·rcases h5 m h with h | h
    ·exact .inl h
    ·right;omega
   ·right;omega
theorem zcj.keep {H H':Heap}{B:Nat}{x:Option Addr×Nat×Nat}{Ls:List (List UInt8)}{M:List Nat}(h:zcj H B x Ls) (hx:Ext M H H') (hM:∀ m∈M,∀ c T fr,H[m]?=some (.cells c T fr)->T≠zi/\T≠xg):zcj H' B x Ls:=by
 obtain⟨ys,g1,g2,g3⟩:=h
 have stay:∀ {T:TypeId}{x:Option Addr×Nat×Nat}{vs:List Value},Mine H B T 1 x vs->(T=zi\/T=xg)->Mine H' B T 1 x vs:=by
  intro T x vs hm hT
  exact hm.ext hx (fun m hm1 h=>by
   rcases hm with⟨rfl,_⟩ | ⟨b1,c1,hx1,_,hg1,_⟩
   ·simp [jf] at hm1
   ·simp [jf,hx1] at hm1;subst hm1
    have:=hM _ h _ _ _ hg1
    rcases hT with rfl | rfl
    ·exact this.1 rfl
    ·exact this.2 rfl)
 exact⟨ys,stay g1 (.inl rfl),g2,fun z hz=>⟨stay (g3 z hz).1 (.inr rfl),(g3 z hz).2⟩⟩
theorem zu3 {w:World}{H:Heap}{B:Nat}{x:Option Addr×Nat×Nat}{ds:List (List UInt8)}{k:List UInt8}{Q:World->Prop}(hw:w.heap=H) (hm:Mine H B zf 32 x (ds.flatMap Bl.zbp)) (hBs:B<=H.size) (hk:k.length=32) (hlen:ds.length<=1073741824) (hQ:∀ w',Ext [] H w'.heap->Q w'){K:(Option Addr×Nat×Nat)->World->Prop}
  (hK:∀ x' w',Mine w'.heap B zf 32 x' ((ds++[k]).flatMap Bl.zbp)->Ext (jf x) H w'.heap->(∀ c∈jf x',c∈jf x\/H.size<=c)->K x' w') :
  zas P (Instr.buildSlice jc 1 #[(0,arr k)]) .slc w fun (t27:(Option Addr×Nat×Nat)) w_13=>Q w_13 /\
  zas P (Builtin.append_ #[jc,jc] jc #[(Value.slice x.1 x.2.1 x.2.2),(Value.slice t27.1 t27.2.1 t27.2.2)]) .slc w_13 K:=by
 have hlx:x.2.1=ds.length:=by
  have:=hm.len
  rw [zu Bl.zbp Bl.zaf] at this
  omega
 have hc1:(arr k).cells=(Bl.zbp k).toArray:=by rw [Bl.zba hk];rfl
 refine zam (s:=.slc) (some ⟨w.heap.size,0,none⟩,1,1) _ (zd7 ED Bl.qgh (v:=arr k) (by rw [Bl.jy,hk]) (by omega) (by omega)) ?_
 subst hw
 have hxp:Ext [] w.heap (w.heap.push (.cells (arr k).cells zf)):=.push _
 refine⟨hQ _ hxp,?_⟩
 refine zch (bts:=32) (n:=1) (us:=Bl.zbp k) (H:=w.heap.push (.cells (arr k).cells zf)) ED (by omega) Bl.qgh (zbf Bl.qgh) rfl (hm.ext hxp (by simp)) (by simp;omega)
  (Src.slc rfl (.inr ⟨w.heap.size,0,_,_,_,rfl,zn,by rw [hc1];simp,by rw [hc1,Nat.zero_add];simp⟩) (by rw [Bl.zaf])) Bl.zp3 (by omega) ?_
 intro x' w4 hm4 hl4 hx4 hs4
 refine hK x' w4 (by rw [List.flatMap_append,List.flatMap_singleton];exact hm4) ((hxp.mono (by simp)).trans hx4) (fun c hc=>?_)
 rcases hs4 c hc with h | h
 ·exact .inl h
 ·right;have:=hxp.1;omega
open Go.Sort
structure Fil where
 path:List UInt8
 dir:Bool
 data:List UInt8
deriving DecidableEq,Inhabited
def zsx (f:Fil):List Value:=[.string (strOf f.path),.bool f.dir,.string (strOf f.data)]
theorem z4u (f:Fil):(zsx f).length=3:=rfl
theorem qc8 {f:Fil}:zcs (zsx f):=by
 intro v hv
 simp only [zsx,List.mem_cons,List.not_mem_nil,or_false] at hv
 rcases hv with rfl | rfl | rfl <;> rfl
def nm (f:Fil):Path:=(zd9 f.path).1
theorem znr (f:Fil):okP (nm f):=qcf f.path
def clean (f:Fil):Fil:=⟨za2 (nm f),f.dir,f.data⟩
theorem z4z {f:Fil}:nm (clean f)=nm f:=by unfold nm clean;rw [zq5 (znr f)];rfl
def z9b:List Fil->Fil->List Fil
 | [],f=>[f]
 | g :: L,f=>if zhk (nm g) (nm f) < 0 then g :: z9b L f else f :: g :: L
def zs7 (L:List Fil):List Fil:=L.foldl z9b []
def zp5 (L:List Fil):Prop:=L.Pairwise fun a b=>zhk (nm a) (nm b) < 0
theorem zuo:∀ (L:List Fil) (f:Fil),(z9b L f).Perm (f :: L)
 | [],f=>.refl _
 | g :: L,f=>by
  unfold z9b
  split
  ·exact ((zuo L f).cons g).trans (.swap f g L)
  ·exact .refl _
theorem z0w:∀ {L:List Fil}{f:Fil},zp5 L->(∀ g∈L,nm g≠nm f)->zp5 (z9b L f)
 | [],f,_,_=>by simp [z9b,zp5]
 | g :: L,f,h,hn=>by
  obtain⟨h1,h2⟩:=List.pairwise_cons.1 h
  unfold z9b
  split
  ·rename_i hlt
   refine List.pairwise_cons.2 ⟨fun x hx=>?_,z0w h2 fun y hy=>hn y (by simp [hy])⟩
   rcases List.mem_cons.1 ((zuo L f).mem_iff.1 hx) with rfl | hx
   ·exact hlt
   ·exact h1 x hx
  ·rename_i hge
   have hgt:zhk (nm f) (nm g) < 0:=by
    have h3:=zk4 (p:=nm f) (q:=nm g)
    have h4:zhk (nm g) (nm f)≠0:=fun e=>hn g (by simp) (zox.1 e)
    omega
   refine List.pairwise_cons.2 ⟨fun x hx=>?_,h⟩
   rcases List.mem_cons.1 hx with rfl | hx
   ·exact hgt
   ·exact zm7 hgt (h1 x hx)
theorem z0s:∀ (L A:List Fil),zp5 A->((A++L).map nm).Nodup->(L.foldl z9b A).Perm (A++L)/\zp5 (L.foldl z9b A)
 | [],A,hA,_=>by simp [hA]
 | f :: L,A,hA,hn=>by
  have hfA:∀ g∈A,nm g≠nm f:=by
   intro g hg e
   rw [List.map_append,List.nodup_append] at hn
   exact hn.2.2 _ (List.mem_map.2 ⟨g,hg,rfl⟩) _ (List.mem_map.2 ⟨f,by simp,rfl⟩) e
  have hp:=zuo A f
  have h1:(z9b A f++L).Perm (A++f :: L):=(hp.append_right L).trans (List.perm_middle (a:=f) (l₁:=A) (l₂:=L)).symm
  obtain⟨g1,g2⟩:=z0s L (z9b A f) (z0w hA hfA) ((h1.map nm).nodup_iff.2 hn)
  exact⟨g1.trans h1,g2⟩
theorem zkr {L:List Fil}(hn:(L.map nm).Nodup):(zs7 L).Perm L/\zp5 (zs7 L):=by
 have:=z0s L [] List.Pairwise.nil (by simpa using hn)
 simpa [zs7] using this
theorem zzx:∀ {A B:List Fil},zp5 A->zp5 B->A.Perm B->A=B
 | [],B,_,_,hp=>by rw [hp.nil_eq]
 | a :: A,[],_,_,hp=>by have:=hp.length_eq;simp at this
 | a :: A,b :: B,hA,hB,hp=>by
  obtain⟨a1,a2⟩:=List.pairwise_cons.1 hA
  obtain⟨b1,b2⟩:=List.pairwise_cons.1 hB
  have hab:a=b:=by
   rcases List.mem_cons.1 (hp.mem_iff.1 (List.mem_cons_self (a:=a) (l:=A))) with h | h
   ·exact h
   ·rcases List.mem_cons.1 (hp.mem_iff.2 (List.mem_cons_self (a:=b) (l:=B))) with h' | h'
    ·exact h'.symm
    ·have h3:=b1 a h
     have h4:=a1 b h'
     have h5:=zk4 (p:=nm a) (q:=nm b)
     omega
  subst hab
  rw [zzx a2 b2 ((List.perm_cons a).1 hp)]
def qh7 (p:Path) (f:Fil):Bool:=decide (nm f≠[]/\(nm f).dropLast=p)
def kids (S:List Fil) (p:Path):List Fil:=S.filter (qh7 p)
def zim (p:Path):List UInt8:=p.getLast?.getD []
def zgl (T:List Itm):Nod:=⟨3,[],0,[],T⟩
def zlb (rec:Path->List (List UInt8)×List UInt8) (acc:List (List UInt8)×List Itm) (f:Fil):List (List UInt8)×List Itm:=
 if f.dir then (acc.1++(rec (nm f)).1,acc.2++[⟨zim (nm f),3,(rec (nm f)).2⟩]) else (acc.1++zit f.data,acc.2++[⟨zim (nm f),2,zj9 f.data⟩])
def zaw (rec:Path->List (List UInt8)×List UInt8) (K:List Fil):List (List UInt8)×List Itm:=K.foldl (zlb rec) ([],[])
def zf5 (S:List Fil):Nat->Path->List (List UInt8)×List UInt8
 | 0,_=>([],[])
 | n+1,p=>((zaw (zf5 S n) (kids S p)).1++[zi8 (zgl (zaw (zf5 S n) (kids S p)).2)],Sha.sum (zi8 (zgl (zaw (zf5 S n) (kids S p)).2)))
theorem z0y {rec:Path->List (List UInt8)×List UInt8}{K:List Fil}{f:Fil}:zaw rec (K++[f])=zlb rec (zaw rec K) f:=by simp [zaw]
theorem z5z {S:List Fil}{p:Path}:kids (S.map clean) p=(kids S p).map clean:=by
 unfold kids
 rw [List.filter_map]
 congr 1
 apply List.filter_congr
 intro f _
 simp [qh7,z4z]
theorem zyv {rec:Path->List (List UInt8)×List UInt8}{K:List Fil}:zaw rec (K.map clean)=zaw rec K:=by
 unfold zaw
 rw [List.foldl_map]
 congr 1
 funext acc f
 simp only [zlb,z4z]
 rfl
theorem z6j {S:List Fil}:∀ (n:Nat) (p:Path),zf5 (S.map clean) n p=zf5 S n p
 | 0,_=>rfl
 | n+1,p=>by
  have:zf5 (S.map clean) n=zf5 S n:=funext (z6j n)
  simp only [zf5,z5z,zyv,this]
def zk5 (rec:Path->List (List UInt8)×List UInt8) (f:Fil):Itm:=if f.dir then ⟨zim (nm f),3,(rec (nm f)).2⟩ else ⟨zim (nm f),2,zj9 f.data⟩
def zot (rec:Path->List (List UInt8)×List UInt8) (f:Fil):List (List UInt8):=if f.dir then (rec (nm f)).1 else zit f.data
theorem zzc {rec:Path->List (List UInt8)×List UInt8}:∀ (K:List Fil) (acc:List (List UInt8)×List Itm),K.foldl (zlb rec) acc=(acc.1++(K.map (zot rec)).flatten,acc.2++K.map (zk5 rec))
 | [],acc=>by simp
 | f :: K,acc=>by
  rw [List.foldl_cons,zzc K]
  unfold zlb zk5 zot
  split <;> simp_all
theorem zi7 {rec:Path->List (List UInt8)×List UInt8}{K:List Fil}:(zaw rec K).2=K.map (zk5 rec):=by
 unfold zaw;rw [zzc];simp
theorem zph {rec:Path->List (List UInt8)×List UInt8}{K:List Fil}:(zaw rec K).1=(K.map (zot rec)).flatten:=by
 unfold zaw;rw [zzc];simp
theorem zrp {f:Fil}(h:nm f≠[]):nm f=(nm f).dropLast++[zim (nm f)]:=by
 unfold zim
 rw [List.getLast?_eq_some_getLast h]
 exact (List.dropLast_concat_getLast h).symm
theorem qax {p:Path}{a b:List UInt8}:zhk (p++[a]) (p++[b])=Lib.compareBytes a b:=by
 rw [zu8 (i:=p.length) (by simp) (by simp) (by simp)]
 simp only [List.drop_left]
 unfold zhk
 have hr:=zkh (a:=a) (b:=b)
 split
 ·rfl
 ·rename_i h
  have h:Lib.compareBytes a b=0:=by simpa using h
  rw [h];rfl
theorem zil {S:List Fil}{p:Path}{f:Fil}(h:f∈kids S p):f∈S/\nm f≠[]/\(nm f).dropLast=p:=by
 obtain⟨h1,h2⟩:=List.mem_filter.1 h
 exact⟨h1,by simpa [qh7] using h2⟩
theorem z9c {S:List Fil}(h:zp5 S){p:Path}:(kids S p).Pairwise fun a b=>Lib.compareBytes (zim (nm a)) (zim (nm b)) < 0:=by
 have h1:(kids S p).Pairwise fun a b=>zhk (nm a) (nm b) < 0:=h.sublist List.filter_sublist
 refine h1.imp_of_mem fun {a b} ha hb hab=>?_
 obtain⟨_,a1,a2⟩:=zil ha
 obtain⟨_,b1,b2⟩:=zil hb
 rw [zrp a1,zrp b1,a2,b2,qax] at hab
 exact hab
theorem z15 {f:Fil}(h:nm f≠[]):zcz (zim (nm f))=true:=by
 have:=(znr f).1
 refine this _ ?_
 unfold zim
 rw [List.getLast?_eq_some_getLast h]
 exact List.getLast_mem h
theorem zw9 {rec:Path->List (List UInt8)×List UInt8}:∀ {K:List Fil}{last:List UInt8},(K.Pairwise fun a b=>Lib.compareBytes (zim (nm a)) (zim (nm b)) < 0)->(∀ f∈K,nm f≠[])->(∀ f,K.head?=some f->Lib.compareBytes last (zim (nm f)) < 0)->zfd last (K.map (zk5 rec))=true
 | [],_,_,_,_=>rfl
 | f :: K,last,h,hn,hl=>by
  obtain⟨h1,h2⟩:=List.pairwise_cons.1 h
  have hi:(zk5 rec f).name=zim (nm f)/\((zk5 rec f).kind=2\/(zk5 rec f).kind=3):=by
   unfold zk5
   split
   ·exact⟨rfl,.inr rfl⟩
   ·exact⟨rfl,.inl rfl⟩
  rw [List.map_cons,zfd,hi.1]
  have ih:=zw9 (rec:=rec) (K:=K) (last:=zim (nm f)) h2 (fun g hg=>hn g (by simp [hg])) (fun g hg=>h1 g (List.mem_of_mem_head? hg))
  simp only [Bool.and_eq_true,decide_eq_true_eq,Bool.or_eq_true]
  exact⟨⟨⟨hl f rfl,z15 (hn f (by simp))⟩,hi.2⟩,ih⟩
theorem z9k {S:List Fil}(h:zp5 S){p:Path}{rec:Path->List (List UInt8)×List UInt8}(hm:(kids S p).length<=64):zar (zgl ((kids S p).map (zk5 rec)))=true:=by
 unfold zar zgl
 rw [if_neg (show ¬((3:Int)=1) by decide),if_neg (show ¬((3:Int)=2) by decide),if_pos rfl]
 simp only [List.length_nil,and_self,decide_true,Bool.true_and,zh8,Bool.and_eq_true,decide_eq_true_eq,List.length_map]
 refine⟨zw9 (z9c h) (fun f hf=>(zil hf).2.1) fun f hf=>?_,hm⟩
 have:=zed.1 (z15 (zil (List.mem_of_mem_head? hf)).2.1)
 cases hl:zim (nm f) with
 | nil=>exact absurd hl this.1.1
 | cons a b=>simp [Lib.compareBytes]
theorem zmg {S:List Fil}{n:Nat}{p:Path}:(zf5 S (n+1) p).2.length=32:=zad
def wt (S:List Fil) (p:Path):Nat:=(S.filter fun f=>zew (nm f) p).length
theorem zuf {p:Path}:zew p p=true:=within_iff.2 ⟨Nat.le_refl _,by simp⟩
theorem zj3 {S:List Fil}{p:Fil->Bool}:((S.map fun f=>if p f then 1 else 0).sum)=(S.filter p).length:=by
 induction S with
 | nil=>rfl
 | cons f S ih=>
  rw [List.map_cons,List.sum_cons,ih,List.filter_cons]
  split <;> simp_all <;> omega
theorem qdn {α β:Type}(A:List α) (B:List β) (g:α->β->Nat):(A.map fun a=>(B.map fun b=>g a b).sum).sum=(B.map fun b=>(A.map fun a=>g a b).sum).sum:=by
 induction A with
 | nil=>induction B with
  | nil=>rfl
  | cons b B ih=>simpa using ih
 | cons a A ih=>
  rw [List.map_cons,List.sum_cons,ih]
  clear ih
  induction B with
  | nil=>simp
  | cons b B ih2=>
   simp only [List.map_cons,List.sum_cons] at *
   omega
theorem qen {α:Type}{g g':α->Nat}:∀ {S:List α},(∀ f∈S,g f<=g' f)->(S.map g).sum<=(S.map g').sum
 | [],_=>by simp
 | f :: S,h=>by
  have h1:=h f (by simp)
  have h2:=qen (S:=S) fun x hx=>h x (by simp [hx])
  simp only [List.map_cons,List.sum_cons]
  omega
theorem qeu {S:List Fil}(h:zp5 S){p:Path}:((kids S p).map fun e=>wt S (nm e)).sum<=(S.filter fun f=>zew (nm f) p&&decide (p.length < (nm f).length)).length:=by
 have e1:((kids S p).map fun e=>wt S (nm e))=(kids S p).map fun e=>(S.map fun f=>if zew (nm f) (nm e) then 1 else 0).sum:=by
  apply List.map_congr_left
  intro e _
  rw [zj3];rfl
 rw [e1,qdn,<-zj3]
 have key:∀ f∈S,((kids S p).map fun e=>if zew (nm f) (nm e) then 1 else 0).sum<=(if zew (nm f) p&&decide (p.length < (nm f).length) then 1 else 0):=by
  intro f _
  rw [zj3]
  have huniq:∀ {e},e∈kids S p->zew (nm f) (nm e)=true->nm e=(nm f).take (p.length+1)/\p.length+1<=(nm f).length/\(nm f).take p.length=p:=by
   intro e he hw
   obtain⟨_,e1,e2⟩:=zil he
   obtain⟨w1,w2⟩:=within_iff.1 hw
   have hl:(nm e).length=p.length+1:=by
    have:=congrArg List.length (zrp e1)
    rw [e2] at this;simpa using this
   refine⟨by rw [<-hl,w2],by omega,?_⟩
   have:=congrArg (List.take p.length) w2
   rw [List.take_take,Nat.min_eq_left (by omega)] at this
   rw [this,zrp e1,e2]
   simp
  have hle:((kids S p).filter fun e=>zew (nm f) (nm e)).length<=1:=by
   have hr:((kids S p).filter fun e=>zew (nm f) (nm e)).Pairwise fun a b=>zhk (nm a) (nm b) < 0:=(h.sublist List.filter_sublist).sublist List.filter_sublist
   match hm:(kids S p).filter fun e=>zew (nm f) (nm e) with
   | []=>simp
   | [_]=>simp
   | a :: b :: r=>
    exfalso
    rw [hm] at hr
    have hab:=(List.pairwise_cons.1 hr).1 b (by simp)
    have ha:a∈(kids S p).filter fun e=>zew (nm f) (nm e):=by rw [hm];simp
    have hb:b∈(kids S p).filter fun e=>zew (nm f) (nm e):=by rw [hm];simp
    obtain⟨a1,a2⟩:=List.mem_filter.1 ha
    obtain⟨b1,b2⟩:=List.mem_filter.1 hb
    rw [(huniq a1 a2).1,(huniq b1 b2).1,zox.2 rfl] at hab
    omega
  split
  ·exact hle
  ·rename_i hno
   rw [Nat.le_zero,List.length_eq_zero_iff,List.filter_eq_nil_iff]
   intro e he hw
   obtain⟨u1,u2,u3⟩:=huniq he hw
   apply hno
   simp only [Bool.and_eq_true,decide_eq_true_eq]
   exact⟨within_iff.2 ⟨by omega,u3⟩,by omega⟩
 exact qen key
theorem zx5 {D:List UInt8}(h:D.length<=1024):(zit D).length<=17:=by
 simp [zit,zc6,npc];omega
theorem z4m {S:List Fil}(h:zp5 S) (hd:∀ f∈S,f.data.length<=1024):∀ (n:Nat) (p:Path),(zf5 S n p).1.length<=1+18 * (S.filter fun f=>zew (nm f) p&&decide (p.length < (nm f).length)).length
 | 0,p=>by simp [zf5]
 | n+1,p=>by
  have h1:=qeu h (p:=p)
  have ih:=z4m h hd n
  have key:∀ K:List Fil,(∀ e∈K,e∈S)->((K.map (zot (zf5 S n))).flatten).length<=18 * (K.map fun e=>wt S (nm e)).sum:=by
   intro K
   induction K with
   | nil=>intro _;simp
   | cons e K ihK=>
    intro hK
    have h2:=ihK fun x hx=>hK x (by simp [hx])
    have heS:=hK e (by simp)
    have h3:(zot (zf5 S n) e).length<=18 * wt S (nm e):=by
     have hpos:1<=wt S (nm e):=List.length_pos_iff.2 (List.ne_nil_of_mem (List.mem_filter.2 ⟨heS,zuf⟩))
     unfold zot
     split
     ·have h4:=ih (nm e)
      have h5:(S.filter fun f=>zew (nm f) (nm e)&&decide ((nm e).length < (nm f).length)).length+1<=wt S (nm e):=by
       unfold wt
       have:(S.filter fun f=>zew (nm f) (nm e)&&decide ((nm e).length < (nm f).length))=(S.filter fun f=>zew (nm f) (nm e)).filter fun f=>decide ((nm e).length < (nm f).length):=by
        rw [List.filter_filter]
        congr 1
        funext f
        rw [Bool.and_comm]
       rw [this]
       refine List.length_filter_lt_length_iff_exists.2 ⟨e,List.mem_filter.2 ⟨heS,zuf⟩,by simp⟩
      omega
     ·have:=zx5 (hd e heS)
      omega
    simp only [List.map_cons,List.flatten_cons,List.length_append,List.sum_cons]
    omega
  have h6:=key (kids S p) fun e he=>(zil he).1
  rw [zf5,zph]
  simp only [List.length_append,List.length_singleton]
  omega
theorem uST:P.underlying jh=some (.slice zx):=by kernel_rfl
theorem bT2 (s:ByteArray) (w:World):(Instr.build zx #[(0,.string s),(1,.int .i64 2)]).run P w=.ok (.agg ([Value.string s,Value.int .i64 2]++byteCells (List.replicate 32 0)).toArray) w:=by kernel_rfl
theorem ET:Elem P zx 34 56:=zlc (z:=.agg ([Value.string .empty,Value.int .i64 0]++byteCells (List.replicate 32 0)).toArray) (by kernel_rfl) rfl
theorem zvz {w:World}{H:Heap}{B:Nat}{x:Option Addr×Nat×Nat}{T:List Itm}{i:Itm}(hw:w.heap=H) (hm:Mine H B zx 34 x (T.flatMap zcy)) (hBs:B<=H.size) (hlen:T.length<=1073741824){K:(Option Addr×Nat×Nat)->World->Prop}
  (hK:∀ x' w',Mine w'.heap B zx 34 x' ((T++[i]).flatMap zcy)->Ext (jf x) H w'.heap->(∀ c∈jf x',c∈jf x\/H.size<=c)->K x' w') :
  zas P (Instr.buildSlice jh 1 #[(0,.agg (zcy i).toArray)]) .slc w fun (t27:(Option Addr×Nat×Nat)) w_13=>
  zas P (Builtin.append_ #[jh,jh] jh #[(Value.slice x.1 x.2.1 x.2.2),(Value.slice t27.1 t27.2.1 t27.2.2)]) .slc w_13 K:=by
 have hlx:x.2.1=T.length:=by
  have:=hm.len
  rw [zu zcy zai] at this
  omega
 refine zam (s:=.slc) (some ⟨w.heap.size,0,none⟩,1,1) _ (zd7 ET uST (v:=.agg (zcy i).toArray) (by simp [Value.cells,zai]) (by omega) (by omega)) ?_
 subst hw
 have hxp:Ext [] w.heap (w.heap.push (.cells (Value.agg (zcy i).toArray).cells zx)):=.push _
 refine zch (bts:=56) (n:=1) (us:=zcy i) (H:=w.heap.push (.cells (Value.agg (zcy i).toArray).cells zx)) ET (by omega) uST (zbf uST) rfl (hm.ext hxp (by simp)) (by simp;omega)
  (Src.slc rfl (.inr ⟨w.heap.size,0,_,_,_,rfl,zn,by simp [zdx],by simp [zdx,List.take_of_length_le]⟩) (by rw [zai])) ztk (by omega) ?_
 intro x' w4 hm4 hl4 hx4 hs4
 refine hK x' w4 (by rw [List.flatMap_append,List.flatMap_singleton];exact hm4) ((hxp.mono (by simp)).trans hx4) (fun c hc=>?_)
 rcases hs4 c hc with h | h
 ·exact .inl h
 ·right;have:=hxp.1;omega
theorem qcg {n s:List UInt8}{k k':Int}:(zcy ⟨n,k,s⟩).toArray.setIfInBounds 1 (.int .i64 k')=(zcy ⟨n,k',s⟩).toArray:=by
 simp [zcy]
theorem z9u {n s s':List UInt8}{k:Int}(hs':s'.length=32):setCells (zcy ⟨n,k,s⟩).toArray 2 (byteCells s')=(zcy ⟨n,k,s'⟩).toArray:=by
 apply Array.ext_getElem?
 intro i
 rw [zcv (by simp [zai,hs'])]
 simp only [ji,hs']
 by_cases h:2<=i/\i < 2+32
 ·rw [if_pos h]
  obtain⟨j,rfl⟩:∃ j,i=j+2:=⟨i-2,by omega⟩
  simp only [List.getElem?_toArray,zcy,Bl.zba hs',List.getElem?_cons_succ,Nat.add_sub_cancel]
 ·rw [if_neg h]
  simp only [List.getElem?_toArray]
  by_cases h2:i < 2
  ·match i,h2 with
   | 0,_=>rfl
   | 1,_=>rfl
  ·rw [List.getElem?_eq_none (by rw [zai];omega),List.getElem?_eq_none (by rw [zai];omega)]
theorem z9p {rec:Path->List (List UInt8)×List UInt8}{K:List Fil}:(zaw rec K).2.length=K.length:=by rw [zi7];simp
theorem qhd {S:List Fil}{p:Path}{n:Nat}(hn:p.length+(n+1)=9){K:List Fil}(hK:∀ f∈K,nm f≠[]/\(nm f).dropLast=p):∀ i∈(zaw (zf5 S n) K).2,i.sum.length=32:=by
 rw [zi7]
 intro i hi
 obtain⟨f,hf,rfl⟩:=List.mem_map.1 hi
 obtain⟨h1,h2⟩:=hK f hf
 unfold zk5
 split
 ·have h8:=(znr f).2
  have hl:(nm f).length=p.length+1:=by
   have:=congrArg List.length (zrp h1)
   rw [h2] at this;simpa using this
  obtain⟨m,rfl⟩:∃ m,n=m+1:=⟨n-1,by omega⟩
  exact zmg
 ·exact zad
theorem qaz {rec:Path->List (List UInt8)×List UInt8}{K:List Fil}(hK:∀ f∈K,nm f≠[]) (hl:K.length<=65536):SmallN (zgl (zaw rec K).2):=by
 refine⟨by simp [zgl],by simp [zgl],by simp only [zgl];rw [z9p];exact hl,?_⟩
 simp only [zgl]
 rw [zi7]
 intro i hi
 obtain⟨f,hf,rfl⟩:=List.mem_map.1 hi
 have:=(zed.1 (z15 (hK f hf))).1.2.1
 unfold zk5
 split <;> (simp only;omega)
theorem qdj {T:List Itm}(h:SmallN (zgl T)) (h32:∀ i∈T,i.sum.length=32):(zi8 (zgl T)).length<=10000000000:=by
 have u:=@zee 3
 have u2:=@zee (T.length:Int)
 have h1:=zpo (l:=T) h.names h32
 have h2:T.length<=65536:=h.items
 unfold zi8 zgl
 rw [if_neg (show ¬((3:Int)=1) by decide),if_neg (show ¬((3:Int)=2) by decide)]
 simp only [List.length_append]
 omega
theorem last_at {f:Fil}(h:nm f≠[]):(nm f)[(nm f).length-1]'(by have:=List.length_pos_iff.2 h;omega)=zim (nm f):=by
 unfold zim
 rw [List.getLast?_eq_some_getLast h,List.getLast_eq_getElem]
 rfl
theorem bN3 (w:World):(Instr.build zh #[(0,.int .i64 3)]).run P w=.ok (.agg #[.int .i64 3,.string .empty,.int .i64 0,.slice none 0 0,.slice none 0 0]) w:=by kernel_rfl
theorem zcj.row {H:Heap}{B:Nat}{x:Option Addr×Nat×Nat}{Ls:List (List UInt8)}(h:zcj H B x Ls){B':Nat}{T:TypeId}{sz:Nat}{y:Option Addr×Nat×Nat}{vs:List Value}(hm:Mine H B' T sz y vs) (hT:T≠zi):∀ b∈jf y,b∉jf x:=by
 obtain⟨ys,g1,_⟩:=h
 exact zj8 hm g1 hT
structure ME where
 hdr:Option Addr×Nat×Nat
 f:Fil
def zic (m:ME):List Value:=[zbv m.hdr,.string (strOf m.f.path),.bool m.f.dir,.string (strOf m.f.data)]
theorem zhr (m:ME):(zic m).length=4:=rfl
theorem zx2 {m:ME}:zcs (zic m):=by
 intro v hv
 simp only [zic,List.mem_cons,List.not_mem_nil,or_false] at hv
 rcases hv with rfl | rfl | rfl | rfl <;> rfl
def zn4 (H:Heap) (m:ME):Prop:=Mine H 0 vg 1 m.hdr (strRow (nm m.f))
theorem qki:(zc P ql).size=4:=by kernel_rfl
theorem qk6:P.cellsOf ql=4:=by kernel_rfl
theorem qhu {w:World}{H:Heap}(m:ME) (hw:w.heap=H){K:Nat->World->Prop}(hK:∀ w',w'.heap=H.push (.cells (zic m).toArray ql (0,0))->K H.size w') :
  zbk (zc P ql) ql w fun b w1=>zbz P (storeVar ql (⟨b,0,none⟩:Addr) (.agg (zic m).toArray)) w1 fun w2=>K b w2:=
 zui (v:=.agg (zic m).toArray) qk6 qki (by simp [Value.cells,zic]) (by simpa [Value.cells] using zx2) hw hK
theorem Mine.keep {H H':Heap}{B:Nat}{T:TypeId}{sz:Nat}{x:Option Addr×Nat×Nat}{vs:List Value}{M:List Nat}(h:Mine H B T sz x vs) (hx:Ext M H H') (hM:∀ m∈M,∀ c fr,H[m]?=some (.cells c T fr)->False):Go.Fw.Mine H' B T sz x vs:=
 Go.Fw.Mine.ext h hx fun b hb hm=>by
  rcases h with⟨rfl,_⟩ | ⟨b1,c1,hx1,_,hg1,_⟩
  ·simp [jf] at hb
  ·simp [jf,hx1] at hb;subst hb
   exact hM _ hm _ _ hg1
def keyS (L:List UInt8):Value:=.string (strOf L)
theorem qf6:KeyOk P vg (List UInt8) (fun _=>True) keyS:=KeyOk.str z14
theorem uME:P.underlying zac=some (.map vg za3):=by kernel_rfl
theorem zME (w:World):(zeroValue za3).run P w=.ok (.slice none 0 0) w:=by kernel_rfl
abbrev KM:=ML (List UInt8) ((Option Addr×Nat×Nat)×List ME)
def evK (v:(Option Addr×Nat×Nat)×List ME):Value:=zbv v.1
def qav (H:Heap) (mk:Nat) (S:List Fil):Prop:=∃ (M:KM) (clk:Nat),H[mk]?=some (.map (ents keyS (vl evK M)) clk)/\MOk (fun _=>True) M clk /\
 ∀ p,okP p->match zbx M (za2 p) with
  | none=>kids S p=[]
  | some v=>v.2.map (·.f)=kids S p/\Mine H 0 ql 4 v.1 (v.2.flatMap zic)/\∀ m∈v.2,zn4 H m
theorem qav.keep {H H':Heap}{mk:Nat}{S:List Fil}{M:List Nat}(h:qav H mk S) (hx:Ext M H H') (hM:∀ m∈M,m < H.size->∃ c T fr,H[m]?=some (.cells c T fr)/\T≠ql/\T≠vg):qav H' mk S:=by
 obtain⟨K,clk,h1,h2,h3⟩:=h
 refine⟨K,clk,hx.get h1 fun hm=>?_,h2,fun p hp=>?_⟩
 ·obtain⟨c,T,fr,hc,_⟩:=hM _ hm (lt_of_get h1)
  rw [h1] at hc;cases hc
 ·have:=h3 p hp
  cases hg:zbx K (za2 p) with
  | none=>rw [hg] at this;exact this
  | some v=>
   rw [hg] at this
   obtain⟨g1,g2,g3⟩:=this
   refine⟨g1,Mine.keep g2 hx fun m hm c fr hc=>?_,fun m hm=>Mine.keep (g3 m hm) hx fun m hm c fr hc=>?_⟩
   ·obtain⟨c',T,fr',hc',n1,n2⟩:=hM m hm (lt_of_get hc)
    rw [hc] at hc'
    simp only [Option.some.injEq,Obj.cells.injEq] at hc'
    exact n1 hc'.2.1.symm
   ·obtain⟨c',T,fr',hc',n1,n2⟩:=hM m hm (lt_of_get hc)
    rw [hc] at hc'
    simp only [Option.some.injEq,Obj.cells.injEq] at hc'
    exact n2 hc'.2.1.symm
theorem zts {κ ν:Type} [DecidableEq κ] {kt et mt:TypeId}{ok:κ->Prop}{enc:κ->Value}{ev:ν->Value}{w:World}{H:Heap}{m c:Nat}{l:ML κ ν}(K:KeyOk P kt κ ok enc) (hu:P.underlying mt=some (.map kt et)){z:Value}(hz:∀ w,(zeroValue et).run P w=.ok z w) (hw:w.heap=H) (hm:H[m]?=some (.map (ents enc (vl ev l)) c)) (hl:MOk ok l c){k:κ}(hk:ok k) :
  (Instr.lookup mt (.map (some m)) (enc k) false).run P w=.ok (((zbx l k).map ev).getD z) w:=by
 have hf:=K.find w k (ents enc (vl ev l)).toList (vl ev l) hk hl.vl.fine (by simp [ents])
 have hg:=zu9 (l:=vl ev l) (k:=k)
 generalize (((vl ev l).findIdx? (fun x=>x.1==k)).bind fun i=>((vl ev l)[i]?).map fun x=>(i,x.2.1))=r at hf hg
 simp only [Instr.lookup,Sem.run_bind,qj hu,Result.andThen_ok,z7w hw hm (by intros;simp),Sem.run_pure,K.chk w k _ hk,hf]
 rw [<-zq7,<-hg]
 cases r with
 | none=>simp [hz]
 | some x=>simp
def ztb (bk bd bb:Nat):Value:=.func (.func zhs) #[] #[.pointer (some ⟨bk,0,none⟩),.pointer (some ⟨bd,0,none⟩),.pointer (some ⟨bb,0,none⟩)]
structure DirSt (H:Heap) (bk bd bb mk B:Nat) (S:List Fil) (x:Option Addr×Nat×Nat) (Ls:List (List UInt8)):Prop where
 k:H[bk]?=some (.cells #[.map (some mk)] zac (0,0))
 d:H[bd]?=some (.cells #[ztb bk bd bb] zcr (0,0))
 b:H[bb]?=some (.cells #[zbv x] jq (0,0))
 kids:qav H mk S
 blobs:zcj H B x Ls
 rounds:Bl.Rounds H
 r0:0≠bb
theorem DirSt.keep {H H':Heap}{bk bd bb mk B:Nat}{S:List Fil}{x x':Option Addr×Nat×Nat}{Ls Ls':List (List UInt8)}{M:List Nat}(h:DirSt H bk bd bb mk B S x Ls) (hx:Ext M H H') (hB0:0 < B) (hM:∀ m∈M,m < H.size->m≠0/\∃ c T fr,H[m]?=some (.cells c T fr)/\(T=jq\/T=zi\/T=zx\/T=zh\/T=zf))
  (hb:H'[bb]?=some (.cells #[zbv x'] jq (0,0))) (hB:zcj H' B x' Ls'):DirSt H' bk bd bb mk B S x' Ls':=by
 have no:∀ {b:Nat}{c:Array Value}{T:TypeId}{fr:Nat×Nat},H[b]?=some (.cells c T fr)->T≠jq->T≠zi->T≠zx->T≠zh->T≠zf->b∉M:=by
  intro b c T fr hc n1 n2 n3 n4 n5 hm
  obtain⟨_,c',T',fr',hc',ht⟩:=hM b hm (lt_of_get hc)
  rw [hc] at hc'
  simp only [Option.some.injEq,Obj.cells.injEq] at hc'
  rcases ht with h | h | h | h | h <;> rw [<-hc'.2.1] at h
  ·exact n1 h
  ·exact n2 h
  ·exact n3 h
  ·exact n4 h
  ·exact n5 h
 refine⟨hx.get h.k (no h.k (by decide) (by decide) (by decide) (by decide) (by decide)),hx.get h.d (no h.d (by decide) (by decide) (by decide) (by decide) (by decide)),hb,h.kids.keep hx fun m hm hlt=>?_,hB,h.rounds.ext hx fun h0=>?_,h.r0⟩
 ·obtain⟨_,c,T,fr,hc,ht⟩:=hM m hm hlt
  refine⟨c,T,fr,hc,?_,?_⟩ <;> rcases ht with rfl | rfl | rfl | rfl | rfl <;> decide
 ·have hlt:0 < H.size:=by have:=lt_of_get h.k;omega
  exact (hM 0 h0 hlt).1 rfl
theorem z5a {rec:Path->List (List UInt8)×List UInt8}{K:List Fil}{i:Nat}:(zaw rec (K.take i)).1.length<=(zaw rec K).1.length:=by
 have h:=List.take_append_drop i K
 rw [zph,zph]
 conv=>rhs;rw [<-h]
 rw [List.map_append,List.flatten_append,List.length_append]
 omega
set_option maxHeartbeats 64000000 in
theorem qig (S:List Fil) (hd:∀ f∈S,f.data.length<=1024) (hSR:zp5 S) (h64:∀ p,(kids S p).length<=64):∀ (n:Nat){w:World}{H:Heap}{bk bd bb mk B:Nat}{x:Option Addr×Nat×Nat}{Ls:List (List UInt8)}{p:Path},w.heap=H->DirSt H bk bd bb mk B S x Ls->0 < B->B<=H.size ->
  okP p->p.length+n=9->Ls.length+(zf5 S n p).1.length<=500000000 ->
  qc P zhs #[.string (strOf (za2 p)),.pointer (some ⟨bk,0,none⟩),.pointer (some ⟨bd,0,none⟩),.pointer (some ⟨bb,0,none⟩)] w fun e w'=>∃ x',e=.returned (arr (zf5 S n p).2)/\DirSt w'.heap bk bd bb mk B S x' (Ls++(zf5 S n p).1)/\Ext (bb :: jf x) H w'.heap/\∀ c∈jf x',c∈jf x\/H.size<=c:=by
 intro n
 induction n with
 | zero=>
  intro w H bk bd bb mk B x Ls p _ _ _ _ hp hn _
  have:=hp.2
  omega
 | succ n ih=>
 intro w H bk bd bb mk B x Ls p hw hS hB0 hBs hp hn hlen
 obtain⟨K,clk,g1,g2,g3⟩:=hS.kids
 have g3:=g3 p hp
 have hxlt:=hS.blobs.lt
 have hbl:=lt_of_get hS.b
 refine zvr ?_
 unfold zn6
 refine jv hw fun w1 hw1=>?_
 have hx1:Ext [] H w1.heap:=by rw [hw1];exact .push _
 have hd1:w1.heap[H.size]?=some (.cells (zc P zf) zf (0,0)):=by rw [hw1];exact zn
 refine qp (s:=.any) (.agg (zca (zgl []) (none,0,0) (none,0,0)).toArray) (bN3 _) ?_
 refine z8c (zgl []) _ _ rfl fun w3 hw3=>?_
 have hx3:Ext [] w1.heap w3.heap:=by rw [hw3];exact .push _
 have hn3:w3.heap[w1.heap.size]?=some (.cells (zca (zgl []) (none,0,0) (none,0,0)).toArray zh (0,0)):=by rw [hw3];exact zn
 have hx03:=hx1.trans hx3
 have s1:H.size < w1.heap.size:=lt_of_get hd1
 have s3:w1.heap.size < w3.heap.size:=lt_of_get hn3
 have hd3:=hx3.get hd1 (by simp)
 simp only [zy]
 refine je (s:=.map) (t:=some mk) rfl (hx03.get hS.k (by simp)) rfl ?_
 obtain⟨r,hr1,hr2,hr3,hr4⟩:∃ r:(Option Addr×Nat×Nat)×List ME,((zbx K (za2 p)).map evK).getD (.slice none 0 0)=zbv r.1/\r.2.map (·.f)=kids S p/\Mine H 0 ql 4 r.1 (r.2.flatMap zic)/\∀ m∈r.2,zn4 H m:=by
  cases hg:zbx K (za2 p) with
  | none=>rw [hg] at g3;exact⟨((none,0,0),[]),rfl,g3.symm,.inl ⟨rfl,rfl⟩,by simp⟩
  | some v=>rw [hg] at g3;exact⟨v,rfl,g3⟩
 have hlk:=zts (w:=w3) (l:=K) qf6 uME zME rfl (hx03.get g1 (by simp)) g2 (k:=za2 p) trivial
 rw [hr1] at hlk
 refine qp (s:=.slc) r.1 hlk ?_
 have hrl:r.1.2.1=r.2.length:=by have:=hr3.len;rw [zu zic zhr] at this;omega
 have hkl:r.2.length=(kids S p).length:=by rw [<-hr2];simp
 have hk64:=h64 p
 have hkm:∀ f∈kids S p,nm f≠[]/\(nm f).dropLast=p:=fun f hf=>(zil hf).2
 have htot:Ls.length+(zaw (zf5 S n) (kids S p)).1.length+1<=500000000:=by
  have:=hlen
  simp only [zf5,List.length_append,List.length_singleton] at this
  omega
 have hS3:DirSt w3.heap bk bd bb mk B S x Ls:=hS.keep hx03 hB0 (by simp) (hx03.get hS.b (by simp)) (hS.blobs.ext hx03 (by simp))
 refine jg (fun (s:Int) W=>∃ (i:Nat) (x' xi:Option Addr×Nat×Nat),s=(i:Int)/\i<=r.2.length/\Ext (bb :: jf x) H W.heap/\w3.heap.size<=W.heap.size/\W.heap[w1.heap.size]?=some (.cells (zca (zgl (zaw (zf5 S n) ((kids S p).take i)).2) (none,0,0) xi).toArray zh (0,0)) /\
   W.heap[H.size]?=some (.cells (zc P zf) zf (0,0))/\DirSt W.heap bk bd bb mk B S x' (Ls++(zaw (zf5 S n) ((kids S p).take i)).1)/\(∀ c∈jf x',c∈jf x\/w3.heap.size<=c)/\Mine W.heap w3.heap.size zx 34 xi ((zaw (zf5 S n) ((kids S p).take i)).2.flatMap zcy)) (fun s _=>(r.2.length-s).toNat)
  ⟨0,x,(none,0,0),rfl,Nat.zero_le _,hx03.mono (by simp),Nat.le_refl _,by simpa [zaw] using hn3,hd3,by simpa [zaw] using hS3,fun c hc=>.inl hc,.inl ⟨rfl,by simp [zaw]⟩⟩ ?_
 rintro _ W ⟨i,x',xi,rfl,hi,h1,h1s,h3,h3d,h4,h5,h6⟩
 have hH2:=h1.1
 have x'lt:=h4.blobs.lt
 have hbbW:=lt_of_get h4.b
 have hHx':∀ {m:Nat},H.size<=m->m < w3.heap.size->m∉jf x':=fun h h' hm=>by
  rcases h5 _ hm with h2 | h2
  ·have:=(hxlt _ h2).1;omega
  ·omega
 have hold:∀ {T:TypeId}{sz:Nat}{y:Option Addr×Nat×Nat}{vs:List Value},Mine H 0 T sz y vs->T≠jq->T≠zi->Mine W.heap 0 T sz y vs:=by
  intro T sz y vs hm n1 n2
  refine Mine.keep hm h1 fun m hmm c fr hc=>?_
  rcases List.mem_cons.1 hmm with rfl | hmm
  ·rw [hS.b] at hc
   simp only [Option.some.injEq,Obj.cells.injEq] at hc
   exact n1 hc.2.1.symm
  ·obtain⟨ys,q1,_⟩:=hS.blobs
   rcases q1 with⟨h,_⟩ | ⟨b',c2,hx1',_,hg,_⟩
   ·rw [h] at hmm;simp [jf] at hmm
   ·simp [jf,hx1'] at hmm;subst hmm
    rw [hc] at hg
    simp only [Option.some.injEq,Obj.cells.injEq] at hg
    exact n2 hg.2.1
 refine zq (fun hlt=>?_) (fun hge=>?_)
 ·have hil:i < r.2.length:=by omega
  have hget:=List.getElem?_eq_getElem hil
  have hmem:r.2[i]∈r.2:=List.getElem_mem hil
  have hfK:(kids S p)[i]?=some (r.2[i]).f:=by rw [<-hr2,List.getElem?_map,hget];rfl
  generalize r.2[i]=me at hget hmem hfK
  have hfS:me.f∈kids S p:=by rw [<-hr2];exact List.mem_map.2 ⟨me,hmem,rfl⟩
  have hdf:=hd me.f (zil hfS).1
  obtain⟨hk1,hk2⟩:=hkm me.f hfS
  have hkl2:(nm me.f).length=p.length+1:=by
   have:=congrArg List.length (zrp hk1)
   rw [hk2] at this;simpa using this
  have h8:=(znr me.f).2
  have hsmall:=(znr me.f).small
  obtain⟨m,rfl⟩:∃ m,n=m+1:=⟨n-1,by omega⟩
  have htk:(kids S p).take (i+1)=(kids S p).take i++[me.f]:=by rw [List.take_add_one,hfK];rfl
  have hstep:(zaw (zf5 S (m+1)) ((kids S p).take (i+1)))=zlb (zf5 S (m+1)) (zaw (zf5 S (m+1)) ((kids S p).take i)) me.f:=by rw [htk,z0y]
  have hpre:=z5a (rec:=zf5 S (m+1)) (K:=kids S p) (i:=i)
  have hpre':=z5a (rec:=zf5 S (m+1)) (K:=kids S p) (i:=i+1)
  refine joinP_of (fun _ W'=>∃ (x2 xi2:Option Addr×Nat×Nat),Ext (bb :: jf x) H W'.heap/\w3.heap.size<=W'.heap.size/\W'.heap[w1.heap.size]?=some (.cells (zca (zgl (zaw (zf5 S (m+1)) ((kids S p).take (i+1))).2) (none,0,0) xi2).toArray zh (0,0)) /\
   W'.heap[H.size]?=some (.cells (zc P zf) zf (0,0))/\DirSt W'.heap bk bd bb mk B S x2 (Ls++(zaw (zf5 S (m+1)) ((kids S p).take (i+1))).1)/\(∀ c∈jf x2,c∈jf x\/w3.heap.size<=c)/\Mine W'.heap w3.heap.size zx 34 xi2 ((zaw (zf5 S (m+1)) ((kids S p).take (i+1))).2.flatMap zcy)) ?_ ?_
  rotate_left
  ·rintro _ W' ⟨x2,xi2,g⟩
   refine jd ((i+1:Nat):Int) (by omega) (by omega) (by omega) ?_
   exact⟨⟨i+1,x2,xi2,rfl,by omega,g⟩,by omega⟩
  refine zal ?_
  refine zce (i:=i) zhr (by omega) rfl (hold hr3 (by decide) (by decide)).cells hrl hget rfl ?_
  refine qhu me rfl fun w6 hw6=>?_
  have hx6:Ext [] W.heap w6.heap:=by rw [hw6];exact .push _
  have he6:w6.heap[W.heap.size]?=some (.cells (zic me).toArray ql (0,0)):=by rw [hw6];exact zn
  have hnm:=(hold (hr4 me hmem) (by decide) (by decide)).ext hx6 (by simp)
  have hnl:me.hdr.2.1=(nm me.f).length:=by have:=hnm.len;simp at this;omega
  refine je (s:=.slc) (t:=me.hdr) rfl he6 rfl ?_
  refine je (s:=.slc) (t:=me.hdr) rfl he6 rfl ?_
  refine zb0 ((me.hdr.2.1-1:Nat):Int) (by omega) (by omega) (by omega) ?_
  refine zx0 (xs:=nm me.f) (i:=(nm me.f).length-1) rfl hnm.cells hnl (by omega) (by omega) ?_
  rw [last_at hk1]
  refine qp (s:=.any) (.agg (zcy ⟨zim (nm me.f),2,List.replicate 32 0⟩).toArray) (by rw [zcy,Bl.zba (by simp)];exact bT2 _ _) ?_
  refine qgb ⟨zim (nm me.f),2,List.replicate 32 0⟩ rfl fun w8 hw8=>?_
  have hx8:Ext [] w6.heap w8.heap:=by rw [hw8];exact .push _
  have hb8:w8.heap[w6.heap.size]?=some (.cells (zcy ⟨zim (nm me.f),2,List.replicate 32 0⟩).toArray zx (0,0)):=by rw [hw8];exact zn
  have s6:W.heap.size < w6.heap.size:=lt_of_get he6
  have s8:w6.heap.size < w8.heap.size:=lt_of_get hb8
  have hx08:=hx6.trans hx8
  have he8:=hx8.get he6 (by simp)
  have hS8:DirSt w8.heap bk bd bb mk B S x' (Ls++(zaw (zf5 S (m+1)) ((kids S p).take i)).1):=h4.keep hx08 hB0 (by simp) (hx08.get h4.b (by simp)) (h4.blobs.ext hx08 (by simp))
  have hnm8:=hnm.ext hx8 (by simp)
  refine joinP_of (fun _ W'=>∃ x2:Option Addr×Nat×Nat,W'.heap[w6.heap.size]?=some (.cells (zcy (zk5 (zf5 S (m+1)) me.f)).toArray zx (0,0))/\DirSt W'.heap bk bd bb mk B S x2 (Ls++(zaw (zf5 S (m+1)) ((kids S p).take (i+1))).1) /\
   Ext (w6.heap.size :: bb :: jf x') w8.heap W'.heap/\(∀ c∈jf x2,c∈jf x'\/w8.heap.size<=c)) ?_ ?_
  ·refine je (s:=.bool) (t:=me.f.dir) rfl he8 rfl ?_
   cases hfd:me.f.dir with
   | true=>
    refine zah rfl ?_
    refine jl rfl fun w9 hw9=>?_
    have hx9:Ext [] w8.heap w9.heap:=by rw [hw9];exact .refl _ _
    have hS9:DirSt w9.heap bk bd bb mk B S x' (Ls++(zaw (zf5 S (m+1)) ((kids S p).take i)).1):=by rw [hw9];exact hS8
    refine je (s:=.any) (t:=ztb bk bd bb) rfl hS9.d rfl ?_
    refine je (s:=.slc) (t:=me.hdr) rfl (hx9.get he8 (by simp)) rfl ?_
    refine zk (z5e rfl (hnm8.ext hx9 (by simp)).cells hnl (zfm hnm) (by omega)) ?_
    rintro e w10 ⟨rfl,hx10⟩
    refine⟨strOf (za2 (nm me.f)),rfl,?_⟩
    have hx8_10:=hx9.trans hx10
    have hS10:DirSt w10.heap bk bd bb mk B S x' (Ls++(zaw (zf5 S (m+1)) ((kids S p).take i)).1):=hS8.keep hx8_10 hB0 (by simp) (hx8_10.get hS8.b (by simp)) (hS8.blobs.ext hx8_10 (by simp))
    refine⟨je (s:=.any) (t:=ztb bk bd bb) rfl hS10.d rfl rfl,?_⟩
    have s10:=hx8_10.1
    have hlen2:(Ls++(zaw (zf5 S (m+1)) ((kids S p).take i)).1).length+(zf5 S (m+1) (nm me.f)).1.length<=500000000:=by
     have h:=hpre'
     rw [hstep] at h
     simp only [zlb,hfd,if_true,List.length_append] at h
     simp only [List.length_append]
     omega
    refine zho (args:=#[.string (strOf (za2 (nm me.f)))]) ?_
    refine (ih (w:=w10) (p:=nm me.f) rfl hS10 hB0 (by omega) (znr me.f) (by omega) hlen2).mono ?_
    rintro e w11 ⟨x2,rfl,hS11,hx11,hs11⟩
    refine⟨arr (zf5 S (m+1) (nm me.f)).2,rfl,?_⟩
    have hbN:w6.heap.size∉bb :: jf x':=fun h=>by
     rcases List.mem_cons.1 h with h | h
     ·omega
     ·have:=(x'lt _ h).1;omega
    have hb11:=hx11.get (hx8_10.get hb8 (by simp)) hbN
    refine za9 rfl hb11 (by simp [zai]) fun w12 hw12=>?_
    have hx12:Ext [w6.heap.size] w11.heap w12.heap:=by rw [hw12];exact Ext.set _ (by simp)
    have hb12:w12.heap[w6.heap.size]?=some (.cells (zcy ⟨zim (nm me.f),3,List.replicate 32 0⟩).toArray zx (0,0)):=by rw [hw12,<-qcg];exact qg hb11
    refine stD zmg rfl hb12 (by simp [zai]) fun w13 hw13=>?_
    rw [z9u zmg] at hw13
    have hx13:Ext [w6.heap.size] w12.heap w13.heap:=by rw [hw13];exact Ext.set _ (by simp)
    have hit:zk5 (zf5 S (m+1)) me.f=⟨zim (nm me.f),3,(zf5 S (m+1) (nm me.f)).2⟩:=by unfold zk5;rw [hfd];rfl
    have hx1113:=hx12.trans hx13
    have hwne:w6.heap.size≠bb:=by omega
    refine⟨x2,by rw [hw13,hit];exact qg hb12,?_,?_,fun c hc=>?_⟩
    ·have hacc:Ls++(zaw (zf5 S (m+1)) ((kids S p).take (i+1))).1=Ls++(zaw (zf5 S (m+1)) ((kids S p).take i)).1++(zf5 S (m+1) (nm me.f)).1:=by
      rw [hstep]
      simp only [zlb,hfd,if_true,List.append_assoc]
     rw [hacc]
     have tag:∀ m'∈[w6.heap.size],m' < w11.heap.size->m'≠0/\∃ c T fr,w11.heap[m']?=some (.cells c T fr)/\(T=jq\/T=zi\/T=zx\/T=zh\/T=zf):=by
      intro m' hm _
      simp at hm;subst hm
      exact⟨by omega,_,_,_,hb11,.inr (.inr (.inl rfl))⟩
     refine hS11.keep hx1113 hB0 tag (hx1113.get hS11.b (by simp;omega)) (hS11.blobs.keep hx1113 fun m' hm c T fr hc=>?_)
     simp at hm;subst hm
     rw [hb11] at hc
     simp only [Option.some.injEq,Obj.cells.injEq] at hc
     rw [<-hc.2.1];exact⟨by decide,by decide⟩
    ·exact (hx8_10.mono (by simp)).trans ((hx11.mono fun c hc=>by simp at hc |-;right;exact hc).trans (hx1113.mono (by simp)))
    ·rcases hs11 c hc with h | h
     ·exact .inl h
     ·right;omega
   | false=>
    refine jm rfl ?_
    refine je (s:=.slc) (t:=x') rfl hS8.b rfl ?_
    refine je (s:=.str) (t:=strOf me.f.data) rfl he8 rfl ?_
    refine zk (qg3 rfl hS8.blobs hB0 (by omega) hS8.rounds (by simp only [List.length_append];omega) hdf) ?_
    rintro e w14 ⟨x2,rfl,hB14,hx14,hs14⟩
    refine⟨(x2,arr (zj9 me.f.data)),rfl,?_⟩
    have hbx':bb∉jf x':=by
     obtain⟨ys,q1,_⟩:=hS8.blobs
     intro h
     rcases q1 with⟨h',_⟩ | ⟨b',c2,hx1',_,hg,_⟩
     ·rw [h'] at h;simp [jf] at h
     ·simp [jf,hx1'] at h;subst h
      rw [hS8.b] at hg
      simp only [Option.some.injEq,Obj.cells.injEq] at hg
      exact absurd hg.2.1 (by decide)
    have hbb14:=hx14.get hS8.b hbx'
    refine za9 rfl hbb14 (by simp) fun w15 hw15=>?_
    have hx15:Ext [bb] w14.heap w15.heap:=by rw [hw15];exact Ext.set _ (by simp)
    have hbb15:w15.heap[bb]?=some (.cells #[zbv x2] jq (0,0)):=by rw [hw15];exact qg hbb14
    have hwne:w6.heap.size≠bb:=by omega
    have hb15:=hx15.get (hx14.get hb8 (fun h=>by have:=(x'lt _ h).1;omega)) (by simp;omega)
    have hfs:(zj9 me.f.data).length=32:=zad
    refine stD hfs rfl hb15 (by simp [zai]) fun w16 hw16=>?_
    rw [z9u hfs] at hw16
    have hx16:Ext [w6.heap.size] w15.heap w16.heap:=by rw [hw16];exact Ext.set _ (by simp)
    have hit:zk5 (zf5 S (m+1)) me.f=⟨zim (nm me.f),2,zj9 me.f.data⟩:=by unfold zk5;rw [hfd];rfl
    have hxAll:Ext (w6.heap.size :: bb :: jf x') w8.heap w16.heap:=(hx14.mono fun c hc=>by simp [hc]).trans ((hx15.mono (by simp)).trans (hx16.mono (by simp)))
    refine⟨x2,by rw [hw16,hit];exact qg hb15,?_,hxAll,fun c hc=>?_⟩
    ·have hacc:Ls++(zaw (zf5 S (m+1)) ((kids S p).take (i+1))).1=Ls++(zaw (zf5 S (m+1)) ((kids S p).take i)).1++zit me.f.data:=by
      rw [hstep]
      simp only [zlb,hfd,Bool.false_eq_true,if_false,List.append_assoc]
     rw [hacc]
     refine hS8.keep hxAll hB0 (fun m' hm hlt=>?_) (hx16.get hbb15 (by simp;omega)) ?_
     ·rcases List.mem_cons.1 hm with rfl | hm
      ·exact⟨by omega,_,_,_,hb8,.inr (.inr (.inl rfl))⟩
      ·rcases List.mem_cons.1 hm with rfl | hm
       ·exact⟨fun h=>hS8.r0 h.symm,_,_,_,hS8.b,.inl rfl⟩
       ·refine⟨fun h=>by have:=hS8.blobs.ge _ hm;omega,?_⟩
        obtain⟨ys,q1,_⟩:=hS8.blobs
        rcases q1 with⟨h',_⟩ | ⟨b',c2,hx1',_,hg,_⟩
        ·rw [h'] at hm;simp [jf] at hm
        ·simp [jf,hx1'] at hm;subst hm
         exact⟨_,_,_,hg,.inr (.inl rfl)⟩
     ·refine (hB14.keep hx15 fun m' hm c T fr hc=>?_).keep hx16 fun m' hm c T fr hc=>?_
      ·simp at hm;subst hm
       rw [hbb14] at hc
       simp only [Option.some.injEq,Obj.cells.injEq] at hc
       rw [<-hc.2.1];exact⟨by decide,by decide⟩
      ·simp at hm;subst hm
       rw [hb15] at hc
       simp only [Option.some.injEq,Obj.cells.injEq] at hc
       rw [<-hc.2.1];exact⟨by decide,by decide⟩
    ·rcases hs14 c hc with h | h
     ·exact .inl h
     ·right;omega
  rintro _ W17 ⟨x2,hb17,hS17,hx17,hs17⟩
  have hni:∀ {k:Nat},H.size<=k->k < w3.heap.size->k∉w6.heap.size :: bb :: jf x':=fun hk hk' h=>by
   rcases List.mem_cons.1 h with h | h
   ·omega
   ·rcases List.mem_cons.1 h with h | h
    ·omega
    ·exact hHx' hk hk' h
  have hn17:=hx17.get (hx08.get h3 (by simp)) (hni (by omega) (by omega))
  refine je (s:=.slc) (t:=xi) rfl hn17 rfl ?_
  refine qx rfl hb17 (by simp [zai]) ?_
  have hm17:Mine W17.heap w3.heap.size zx 34 xi ((zaw (zf5 S (m+1)) ((kids S p).take i)).2.flatMap zcy):=(h6.ext hx08 (by simp)).ext hx17 (fun b hb h=>by
   rcases List.mem_cons.1 h with h | h
   ·have:=(zbh h6 b hb).1;omega
   ·rcases List.mem_cons.1 h with h | h
    ·have:=xu h6 b hb;omega
    ·exact h4.blobs.row h6 (by decide) b hb h)
  have s17:=hx17.1
  refine zvz (i:=zk5 (zf5 S (m+1)) me.f) rfl hm17 (by omega) (by rw [z9p];simp;omega) fun xi2 w19 hm19 hx19 hs19=>?_
  have hn19:=hx19.get hn17 (fun h=>by have:=xu h6 _ h;omega)
  refine za9 rfl hn19 (by simp [zca]) fun w20 hw20=>?_
  have hx20:Ext [w1.heap.size] w19.heap w20.heap:=by rw [hw20];exact Ext.set _ (by simp)
  have s19:=hx19.1
  have s20:=hx20.1
  have hacc2:(zaw (zf5 S (m+1)) ((kids S p).take (i+1))).2=(zaw (zf5 S (m+1)) ((kids S p).take i)).2++[zk5 (zf5 S (m+1)) me.f]:=by
   rw [htk,zi7,zi7,List.map_append];rfl
  have hx1720:Ext (w1.heap.size :: jf xi) W17.heap w20.heap:=(hx19.mono fun c hc=>by simp [hc]).trans (hx20.mono (by simp))
  have tag:∀ m'∈w1.heap.size :: jf xi,m' < W17.heap.size->m'≠0/\∃ c T fr,W17.heap[m']?=some (.cells c T fr)/\(T=jq\/T=zi\/T=zx\/T=zh\/T=zf):=by
   intro m' hm _
   rcases List.mem_cons.1 hm with rfl | hm
   ·exact⟨by omega,_,_,_,hn17,.inr (.inr (.inr (.inl rfl)))⟩
   ·refine⟨fun h=>by have:=xu h6 _ hm;omega,?_⟩
    rcases hm17 with⟨h',_⟩ | ⟨b',c2,hx1',_,hg,_⟩
    ·rw [h'] at hm;simp [jf] at hm
    ·simp [jf,hx1'] at hm;subst hm
     exact⟨_,_,_,hg,.inr (.inr (.inl rfl))⟩
  have hbb20:=hx1720.get hS17.b (fun h=>by
   rcases List.mem_cons.1 h with h | h
   ·omega
   ·have:=xu h6 _ h;omega)
  refine⟨x2,xi2,?_,by omega,?_,?_,?_,fun c hc=>?_,?_⟩
  ·have a1:Ext (bb :: jf x) H w8.heap:=h1.trans (hx08.mono (by simp))
   have a2:Ext (bb :: jf x) H W17.heap:=a1.own hx17 (fun c hc hlt=>by
    rcases List.mem_cons.1 hc with h | h
    ·omega
    ·rcases List.mem_cons.1 h with h | h
     ·simp [h]
     ·rcases h5 c h with h | h
      ·simp [h]
      ·omega)
   exact a2.own hx1720 (fun c hc hlt=>by
    rcases List.mem_cons.1 hc with h | h
    ·omega
    ·have:=xu h6 c h;omega)
  ·rw [hw20,hacc2];exact qg hn19
  ·exact hx1720.get (hx17.get (hx08.get h3d (by simp)) (hni (Nat.le_refl _) (by omega))) (fun h=>by
    rcases List.mem_cons.1 h with h | h
    ·omega
    ·have:=xu h6 _ h;omega)
  ·refine hS17.keep hx1720 hB0 tag hbb20 (hS17.blobs.keep hx1720 fun m' hm c T fr hc=>?_)
   obtain⟨_,c',T',fr',hc',ht⟩:=tag m' hm (lt_of_get hc)
   rcases List.mem_cons.1 hm with rfl | hm
   ·rw [hn17] at hc
    simp only [Option.some.injEq,Obj.cells.injEq] at hc
    rw [<-hc.2.1];exact⟨by decide,by decide⟩
   ·rcases hm17 with⟨h',_⟩ | ⟨b',c2,hx1',_,hg,_⟩
    ·rw [h'] at hm;simp [jf] at hm
    ·simp [jf,hx1'] at hm;subst hm
     rw [hc] at hg
     simp only [Option.some.injEq,Obj.cells.injEq] at hg
     rw [hg.2.1];exact⟨by decide,by decide⟩
  ·rcases hs17 c hc with h | h
   ·exact h5 c h
   ·right;omega
  ·rw [hacc2]
   exact hm19.ext hx20 (fun b hb h=>by simp at h;subst h;have:=xu hm19 _ hb;omega)
 ·obtain rfl:i=r.2.length:=by omega
  have htk:(kids S p).take r.2.length=kids S p:=by rw [hkl,List.take_length]
  rw [htk] at h3 h4 h6
  have h32:=qhd (S:=S) hn hkm
  have hsm:=qaz (rec:=zf5 S n) (fun f hf=>(hkm f hf).1) (show (kids S p).length<=65536 by omega)
  have hel:=qdj hsm h32
  have hright:zar (zgl (zaw (zf5 S n) (kids S p)).2)=true:=by rw [zi7];exact z9k hSR hk64
  refine jv rfl fun w23 hw23=>?_
  have hx23:Ext [] W.heap w23.heap:=by rw [hw23];exact .push _
  have hd23:w23.heap[W.heap.size]?=some (.cells (zc P zf) zf (0,0)):=by rw [hw23];exact zn
  have s23:W.heap.size < w23.heap.size:=lt_of_get hd23
  have hS23:DirSt w23.heap bk bd bb mk B S x' (Ls++(zaw (zf5 S n) (kids S p)).1):=h4.keep hx23 hB0 (by simp) (hx23.get h4.b (by simp)) (h4.blobs.ext hx23 (by simp))
  refine je (s:=.slc) (t:=x') rfl hS23.b rfl ?_
  refine qx rfl (hx23.get h3 (by simp)) rfl ?_
  have hli:xi.2.1=(zaw (zf5 S n) (kids S p)).2.length:=by
   have:=h6.len
   rw [zu zcy zai] at this
   omega
  have hNW:NodW w23.heap (zgl (zaw (zf5 S n) (kids S p)).2) (none,0,0) xi:=⟨.inl rfl,rfl,(h6.ext hx23 (by simp)).cells,hli,by simp [zgl],h32⟩
  refine zk (qbe rfl hS23.blobs hB0 (by omega) hNW hright hS23.rounds (by simp only [List.length_append];omega) (by omega)) ?_
  rintro e w24 ⟨x2,rfl,hB24,hx24,hs24⟩
  refine⟨(x2,arr (zf5 S (n+1) p).2),rfl,?_⟩
  have hbx':bb∉jf x':=by
   obtain⟨ys,q1,_⟩:=h4.blobs
   intro h
   rcases q1 with⟨h',_⟩ | ⟨b',c2,hx1',_,hg,_⟩
   ·rw [h'] at h;simp [jf] at h
   ·simp [jf,hx1'] at h;subst h
    rw [h4.b] at hg
    simp only [Option.some.injEq,Obj.cells.injEq] at hg
    exact absurd hg.2.1 (by decide)
  have hbb24:=hx24.get hS23.b hbx'
  refine za9 rfl hbb24 (by simp) fun w25 hw25=>?_
  have hx25:Ext [bb] w24.heap w25.heap:=by rw [hw25];exact Ext.set _ (by simp)
  have hbb25:w25.heap[bb]?=some (.cells #[zbv x2] jq (0,0)):=by rw [hw25];exact qg hbb24
  have hd25:=hx25.get (hx24.get hd23 (fun h=>by have:=(x'lt _ h).1;omega)) (by simp;omega)
  refine z2t zmg rfl hd25 zcD fun w26 hw26=>?_
  have hx26:Ext [W.heap.size] w25.heap w26.heap:=by rw [hw26];exact Ext.set _ (by simp)
  have hd26:w26.heap[W.heap.size]?=some (.cells (byteCells (zf5 S (n+1) p).2).toArray zf (0,0)):=by rw [hw26];exact qg hd25
  refine qx rfl hd26 (by simp [zmg]) ?_
  have hr26:=hx26.get (hx25.get (hx24.get (hx23.get h3d (by simp)) (hHx' (Nat.le_refl _) (by omega))) (by simp;omega)) (by simp;omega)
  refine z2t (k:=(zf5 S (n+1) p).2) zmg rfl hr26 zcD fun w27 hw27=>?_
  have hx27:Ext [H.size] w26.heap w27.heap:=by rw [hw27];exact Ext.set _ (by simp)
  have hr27:w27.heap[H.size]?=some (.cells (byteCells (zf5 S (n+1) p).2).toArray zf (0,0)):=by rw [hw27];exact qg hr26
  refine qx rfl hr27 (by simp [zmg]) ?_
  have hx2327:Ext (W.heap.size :: H.size :: bb :: jf x') w23.heap w27.heap:=(hx24.mono fun c hc=>by simp [hc]).trans ((hx25.mono (by simp)).trans ((hx26.mono (by simp)).trans (hx27.mono (by simp))))
  have hbb27:=hx27.get (hx26.get hbb25 (by simp;omega)) (by simp;omega)
  refine⟨x2,rfl,?_,?_,fun c hc=>?_⟩
  ·refine hS23.keep hx2327 hB0 (fun m' hm hlt=>?_) hbb27 ?_
   ·simp only [List.mem_cons] at hm
    rcases hm with rfl | rfl | rfl | hm
    ·exact⟨by omega,_,_,_,hd23,.inr (.inr (.inr (.inr rfl)))⟩
    ·exact⟨by omega,_,_,_,hx23.get h3d (by simp),.inr (.inr (.inr (.inr rfl)))⟩
    ·exact⟨fun h=>h4.r0 h.symm,_,_,_,hS23.b,.inl rfl⟩
    ·refine⟨fun h=>by have:=h4.blobs.ge _ hm;omega,?_⟩
     obtain⟨ys,q1,_⟩:=hS23.blobs
     rcases q1 with⟨h',_⟩ | ⟨b',c2,hx1',_,hg,_⟩
     ·rw [h'] at hm;simp [jf] at hm
     ·simp [jf,hx1'] at hm;subst hm
      exact⟨_,_,_,hg,.inr (.inl rfl)⟩
   ·have hB27:=((hB24.keep hx25 fun m' hm c T fr hc=>by
     simp at hm;subst hm
     rw [hbb24] at hc
     simp only [Option.some.injEq,Obj.cells.injEq] at hc
     rw [<-hc.2.1];exact⟨by decide,by decide⟩).keep hx26 fun m' hm c T fr hc=>by
     simp at hm;subst hm
     rw [hd25] at hc
     simp only [Option.some.injEq,Obj.cells.injEq] at hc
     rw [<-hc.2.1];exact⟨by decide,by decide⟩).keep hx27 fun m' hm c T fr hc=>by
     simp at hm;subst hm
     rw [hr26] at hc
     simp only [Option.some.injEq,Obj.cells.injEq] at hc
     rw [<-hc.2.1];exact⟨by decide,by decide⟩
    rw [List.append_assoc] at hB27
    exact hB27
  ·have a1:Ext (bb :: jf x) H w23.heap:=h1.trans (hx23.mono (by simp))
   exact a1.own hx2327 (fun c hc hlt=>by
    simp only [List.mem_cons] at hc
    rcases hc with h | h | h | h
    ·omega
    ·omega
    ·simp [h]
    ·rcases h5 c h with h | h
     ·simp [h]
     ·omega)
  ·rcases hs24 c hc with h | h
   ·rcases h5 c h with h | h
    ·exact .inl h
    ·right;omega
   ·right;omega
theorem zcF:(zc P zbd).size=3:=by kernel_rfl
theorem szF:P.cellsOf zbd=3:=by kernel_rfl
theorem qkb {w:World}{H:Heap}(f:Fil) (hw:w.heap=H){K:Nat->World->Prop}(hK:∀ w',w'.heap=H.push (.cells (zsx f).toArray zbd (0,0))->K H.size w') :
  zbk (zc P zbd) zbd w fun b w1=>zbz P (storeVar zbd (⟨b,0,none⟩:Addr) (.agg (zsx f).toArray)) w1 fun w2=>K b w2:=
 zui (v:=.agg (zsx f).toArray) szF zcF (by simp [Value.cells,zsx]) (by simpa [Value.cells] using qc8) hw hK
def qhc (f:Fil):Bool:=decide ((zd9 f.path).2≠0)
def znb (L:List Fil):Int:=match L.find? qhc with | some f=>(zd9 f.path).2 | none=>0
def qfe (f:Fil):Bool:=f.dir&&!decide (f.data=[])
def qd3 (f:Fil):Bool:=decide (1024 < f.data.length)
def zcw (L:List Fil):Int:=if znb L≠0 then znb L else if L.any qfe then 1 else if L.any qd3 then 134 else 0
theorem z2j {L:List Fil}{i:Nat}{f:Fil}(hi:L[i]?=some f) (hf:(zd9 f.path).2≠0) (hb:∀ g∈L.take i,(zd9 g.path).2=0):znb L=(zd9 f.path).2:=by
 have hil:=(List.getElem?_eq_some_iff.1 hi).1
 have e:L=L.take i++f :: L.drop (i+1):=by
  conv=>lhs;rw [<-List.take_append_drop i L]
  rw [List.drop_eq_getElem_cons hil,(List.getElem?_eq_some_iff.1 hi).2]
 unfold znb
 rw [e,List.find?_append,List.find?_eq_none.2 (fun g hg=>by simp [qhc,hb g hg]),Option.none_or,List.find?_cons]
 have:qhc f=true:=by simp [qhc,hf]
 rw [this]
theorem zyk {L:List Fil}(hb:∀ g∈L,(zd9 g.path).2=0):znb L=0:=by
 unfold znb
 rw [List.find?_eq_none.2 (fun g hg=>by simp [qhc,hb g hg])]
theorem zpz {L:List Fil}{i:Nat}{f:Fil}(hi:L[i]?=some f){q:Fil->Prop}(h:∀ g∈L.take i,q g) (hf:q f):∀ g∈L.take (i+1),q g:=by
 intro g hg
 rw [List.take_add_one,hi] at hg
 rcases List.mem_append.1 hg with hg | hg
 ·exact h g hg
 ·simp at hg;rw [hg];exact hf
theorem z9q {w:World}{H:Heap}{a:Option Addr}{n nc F:Nat}{L:List Fil}{g:Fil->Bool}(hw:w.heap=H) (hL:Cells H a (L.flatMap zsx)) (hn:n=L.length) (hm:L.length<=1099511627776)
  (hg:∀ (f:Fil) (w:World),qc P F #[.agg (zsx f).toArray] w fun e w'=>e=.returned (.bool (g f))/\Ext [] w.heap w'.heap) :
  qc P zav #[.slice a n nc,.func (.func F) #[] #[]] w fun e w'=>e=.returned (.bool (L.any g))/\Ext [] H w'.heap:=by
 subst hn
 refine zez ?_
 unfold zco
 have h:qc P zbu #[.slice a L.length nc,.func (.func F) #[] #[]] w fun e w'=>∃ k:Int,e=.returned (.int .i64 k)/\(0<=k ↔ L.any g=true)/\Ext [] H w'.heap:=by
  refine zfi ?_
  unfold zc1
  refine jg (fun (s:Int) W=>∃ i:Nat,s=(i:Int)/\i<=L.length/\(∀ f∈L.take i,g f=false)/\Ext [] H W.heap) (fun s _=>(L.length-s).toNat) ⟨0,rfl,Nat.zero_le _,by simp,by rw [hw];exact .refl _ _⟩ ?_
  rintro _ W ⟨i,rfl,hi,hno,hxW⟩
  refine zq (fun hlt=>?_) (fun hge=>?_)
  ·have hil:i < L.length:=by omega
   have hget:=List.getElem?_eq_getElem hil
   have hmem:L[i]∈L:=List.getElem_mem hil
   generalize L[i]=f at hget hmem
   refine zce (i:=i) z4u (by omega) rfl (hL.ext hxW (by simp)) rfl hget rfl ?_
   refine zho (args:=#[.agg (zsx f).toArray]) (cap:=#[]) ?_
   refine (hg f W).mono ?_
   rintro e w2 ⟨rfl,hx2⟩
   refine⟨g f,rfl,?_⟩
   cases hgf:g f with
   | true=>exact zah rfl ⟨_,rfl,⟨fun _=>List.any_eq_true.2 ⟨f,hmem,hgf⟩,fun _=>by omega⟩,hxW.trans hx2⟩
   | false=>
    refine jm rfl ?_
    refine jd ((i+1:Nat):Int) (by omega) (by omega) (by omega) ?_
    exact⟨⟨i+1,rfl,by omega,zpz (q:=fun f=>g f=false) hget hno hgf,hxW.trans hx2⟩,by omega⟩
  ·obtain rfl:i=L.length:=by omega
   rw [List.take_length] at hno
   refine⟨_,rfl,⟨fun h=>by omega,fun h=>?_⟩,hxW⟩
   obtain⟨f,hf,hgf⟩:=List.any_eq_true.1 h
   rw [hno f hf] at hgf;cases hgf
 refine zk h ?_
 rintro e w1 ⟨k,rfl,hk,hx⟩
 refine⟨k,rfl,?_⟩
 refine⟨?_,hx⟩
 congr 2
 rw [Bool.eq_iff_iff,<-hk]
 simp
theorem qko (f:Fil) (w:World):qc P zjv #[.agg (zsx f).toArray] w fun e w'=>e=.returned (.bool (qfe f))/\Ext [] w.heap w'.heap:=by
 refine zv2 ?_
 unfold zoi
 refine jv rfl fun w1 hw1=>?_
 have hx1:Ext [] w.heap w1.heap:=by rw [hw1];exact .push _
 have hb1:w1.heap[w.heap.size]?=some (.cells (zsx f).toArray zbd (0,0)):=by rw [hw1];exact zn
 refine je (s:=.bool) (t:=f.dir) rfl hb1 rfl ?_
 cases hd:f.dir with
 | false=>exact jm rfl ⟨by simp [qfe,hd],hx1⟩
 | true=>
  refine zah rfl ?_
  refine je (s:=.str) (t:=strOf f.data) rfl hb1 rfl ?_
  refine⟨?_,hx1⟩
  congr 2
  rw [qfe,hd,Bool.true_and]
  congr 1
  rw [Bool.eq_iff_iff,zjn,decide_eq_true_eq]
theorem qkw (f:Fil) (w:World):qc P zjw #[.agg (zsx f).toArray] w fun e w'=>e=.returned (.bool (qd3 f))/\Ext [] w.heap w'.heap:=by
 refine zv1 ?_
 unfold zn5
 refine jv rfl fun w1 hw1=>?_
 have hx1:Ext [] w.heap w1.heap:=by rw [hw1];exact .push _
 have hb1:w1.heap[w.heap.size]?=some (.cells (zsx f).toArray zbd (0,0)):=by rw [hw1];exact zn
 refine je (s:=.str) (t:=strOf f.data) rfl hb1 rfl ?_
 refine⟨?_,hx1⟩
 congr 2
 unfold qd3
 rw [Bool.eq_iff_iff]
 simp
 omega
theorem uSE:P.underlying za3=some (.slice ql):=by kernel_rfl
theorem EEn:Elem P ql 4 64:=zlc (z:=.agg (zic ⟨(none,0,0),⟨[],false,[]⟩⟩).toArray) (by kernel_rfl) rfl
theorem bE (x:Option Addr×Nat×Nat) (p d:ByteArray) (b:Bool) (w:World):(Instr.build ql #[(0,.slice x.1 x.2.1 x.2.2),(1,.agg #[.string p,.bool b,.string d])]).run P w=.ok (.agg #[.slice x.1 x.2.1 x.2.2,.string p,.bool b,.string d]) w:=by kernel_rfl
theorem z8u {w:World}{H:Heap}{B:Nat}{x:Option Addr×Nat×Nat}{T:List ME}{i:ME}(hw:w.heap=H) (hm:Mine H B ql 4 x (T.flatMap zic)) (hBs:B<=H.size) (hlen:T.length<=1073741824){K:(Option Addr×Nat×Nat)->World->Prop}
  (hK:∀ x' w',Mine w'.heap B ql 4 x' ((T++[i]).flatMap zic)->Ext (jf x) H w'.heap->(∀ c∈jf x',c∈jf x\/H.size<=c)->x'.2.1=T.length+1->K x' w') :
  zas P (Instr.buildSlice za3 1 #[(0,.agg (zic i).toArray)]) .slc w fun (t27:(Option Addr×Nat×Nat)) w_13=>
  zas P (Builtin.append_ #[za3,za3] za3 #[(Value.slice x.1 x.2.1 x.2.2),(Value.slice t27.1 t27.2.1 t27.2.2)]) .slc w_13 K:=by
 have hlx:x.2.1=T.length:=by
  have:=hm.len
  rw [zu zic zhr] at this
  omega
 refine zam (s:=.slc) (some ⟨w.heap.size,0,none⟩,1,1) _ (zd7 EEn uSE (v:=.agg (zic i).toArray) (by simp [Value.cells,zic]) (by omega) (by omega)) ?_
 subst hw
 have hxp:Ext [] w.heap (w.heap.push (.cells (Value.agg (zic i).toArray).cells ql)):=.push _
 refine zch (bts:=64) (n:=1) (us:=zic i) (H:=w.heap.push (.cells (Value.agg (zic i).toArray).cells ql)) EEn (by omega) uSE (zbf uSE) rfl (hm.ext hxp (by simp)) (by simp;omega)
  (Src.slc rfl (.inr ⟨w.heap.size,0,_,_,_,rfl,zn,by simp [zdx],by simp [zdx,List.take_of_length_le]⟩) (by rw [zhr])) zx2 (by omega) ?_
 intro x' w4 hm4 hl4 hx4 hs4
 have hm4':Mine w4.heap B ql 4 x' ((T++[i]).flatMap zic):=by rw [List.flatMap_append,List.flatMap_singleton];exact hm4
 refine hK x' w4 hm4' ((hxp.mono (by simp)).trans hx4) (fun c hc=>?_) ?_
 ·rcases hs4 c hc with h | h
  ·exact .inl h
  ·right;have:=hxp.1;omega
 ·have:=hm4'.len
  rw [zu zic zhr] at this
  simp at this;omega
set_option maxHeartbeats 4000000 in
theorem qb8 {w:World}{H:Heap}{a:Option Addr}{n nc:Nat}{L:List Fil}(hw:w.heap=H) (hL:Cells H a (L.flatMap zsx)) (hn:n=L.length) (hm:L.length<=65536) :
  qc P zmd #[.slice a n nc] w fun e w'=>∃ x,e=.returned (.tuple #[zbv x,.int .i64 (zcw L)])/\Ext [] H w'.heap/\(zcw L=0->∃ ms:List ME,ms.map (·.f)=L/\Mine w'.heap H.size ql 4 x (ms.flatMap zic)/\∀ m∈ms,zn4 w'.heap m):=by
 subst hn
 refine zy8 ?_
 unfold zsf
 refine jg (fun (s:(Option Addr×Nat×Nat)×Int) W=>∃ (i:Nat) (ms:List ME),s.2=(i:Int)/\i<=L.length/\(∀ f∈L.take i,(zd9 f.path).2=0)/\Ext [] H W.heap/\ms.map (·.f)=L.take i/\Mine W.heap H.size ql 4 s.1 (ms.flatMap zic)/\∀ m∈ms,zn4 W.heap m) (fun s _=>(L.length-s.2).toNat)
  ⟨0,[],rfl,Nat.zero_le _,by simp,by rw [hw];exact .refl _ _,by simp,.inl ⟨rfl,rfl⟩,by simp⟩ ?_
 rintro ⟨x,_⟩ W ⟨i,ms,rfl,hi,hok,hxW,hms,hmW,hnW⟩
 have hml:ms.length=i:=by have:=congrArg List.length hms;simp at this;omega
 refine zq (fun hlt=>?_) (fun hge=>?_)
 ·have hil:i < L.length:=by simp only at hlt;omega
  have hget:=List.getElem?_eq_getElem hil
  generalize L[i]=f at hget
  refine zce (i:=i) z4u (by omega) rfl (hL.ext hxW (by simp)) rfl hget rfl ?_
  refine qkb f rfl fun w3 hw3=>?_
  have hx3:Ext [] W.heap w3.heap:=by rw [hw3];exact .push _
  have hb3:w3.heap[W.heap.size]?=some (.cells (zsx f).toArray zbd (0,0)):=by rw [hw3];exact zn
  refine je (s:=.str) (t:=strOf f.path) rfl hb3 rfl ?_
  refine zk (qff f.path rfl) ?_
  rintro e w4 ⟨y,rfl,hm4,hx4⟩
  refine⟨(y,(zd9 f.path).2),rfl,?_⟩
  have hx04:=hx3.trans hx4
  refine zay (fun hne=>?_) (fun hz=>?_)
  ·have hfb:=z2j hget hne hok
   have hpc:zcw L=(zd9 f.path).2:=by unfold zcw;rw [hfb,if_pos hne]
   exact⟨(none,0,0),by rw [hpc];rfl,hxW.trans hx04,fun h=>absurd (by rw [<-hpc,h]) hne⟩
  ·have hz:(zd9 f.path).2=0:=hz
   refine qx rfl (hx4.get hb3 (by simp)) rfl ?_
   refine qp (s:=.any) (.agg (zic ⟨y,f⟩).toArray) (bE _ _ _ _ _) ?_
   have s04:=hx04.1
   have s0W:=hxW.1
   refine z8u (i:=⟨y,f⟩) rfl (hmW.ext hx04 (by simp)) (by omega) (by omega) fun x' w6 hm6 hx6 hs6 _=>?_
   have hx06:Ext [] H w6.heap:=ziv (hxW.trans hx04) (hmW.ext hx04 (by simp)) (Nat.le_refl _) hx6
   refine jd ((i+1:Nat):Int) (by simp) (by omega) (by omega) ?_
   refine⟨⟨i+1,ms++[⟨y,f⟩],rfl,by omega,zpz (q:=fun f=>(zd9 f.path).2=0) hget hok hz,hx06,?_,hm6,fun m hm=>?_⟩,by simp only;omega⟩
   ·rw [List.map_append,hms,List.take_add_one,hget];rfl
   ·have hxx:=hmW.ext hx04 (by simp)
    rcases List.mem_append.1 hm with hm | hm
    ·exact ((hnW m hm).ext hx04 (by simp)).ext hx6 (zj8 ((hnW m hm).ext hx04 (by simp)) hxx (by decide))
    ·simp only [List.mem_singleton] at hm
     subst hm
     exact (hm4.ext hx6 (zj8 hm4 hxx (by decide))).mono (Nat.zero_le _)
 ·obtain rfl:i=L.length:=by simp only at hge;omega
  rw [List.take_length] at hok hms
  have hfb:=zyk hok
  refine zk (z9q (g:=qfe) rfl (hL.ext hxW (by simp)) rfl (by omega) qko) ?_
  rintro e w7 ⟨rfl,hx7⟩
  refine⟨L.any qfe,rfl,?_⟩
  cases h1:L.any qfe with
  | true=>
   have hpc:zcw L=1:=by unfold zcw;rw [hfb,h1];rfl
   exact zah rfl ⟨(none,0,0),by rw [hpc];rfl,hxW.trans hx7,fun h=>by rw [hpc] at h;cases h⟩
  | false=>
   refine jm rfl ?_
   refine zk (z9q (g:=qd3) rfl (hL.ext (hxW.trans hx7) (by simp)) rfl (by omega) qkw) ?_
   rintro e w8 ⟨rfl,hx8⟩
   refine⟨L.any qd3,rfl,?_⟩
   cases h2:L.any qd3 with
   | true=>
    have hpc:zcw L=134:=by unfold zcw;rw [hfb,h1,h2];rfl
    exact zah rfl ⟨(none,0,0),by rw [hpc];rfl,(hxW.trans hx7).trans hx8,fun h=>by rw [hpc] at h;cases h⟩
   | false=>
    have hpc:zcw L=0:=by unfold zcw;rw [hfb,h1,h2];rfl
    have hx78:=hx7.trans hx8
    exact jm rfl ⟨x,by rw [hpc];rfl,hxW.trans hx78,fun _=>⟨ms,hms,hmW.ext hx78 (by simp),fun m hm=>(hnW m hm).ext hx78 (by simp)⟩⟩
end Go.Proofs.YtbmegmbnlajbbaaGreatDoor
namespace Go.Fw
open Go Go.Proofs Go.Shelf Go.RowKit Go.Lib Go.Sort
variable {P:Program}{ρ:Ren}{α:Type} [Inhabited α]
theorem qfy (L:SlLaysF0.n6 P ρ){k:Nat}(aE:∀ w,(isAgg (ρ.t 24)).run P w=.ok true w) (zE:∀ w,(Go.sizeOf (ρ.t 24)).run P w=.ok k w) (enc:α->List Value) (hk:∀ x,(enc x).length=k) (h0:0 < k)
  (h1:∀ x,∀ v∈enc x,v.oneCell'=true) (cf:α->α->Int) (hO:SWO (ltOf cf)){g:Nat}(eg:∀ args w,(callFunc g args).run P w=.ok (.enter g args) w) (e6:∀ args w,(callFunc (ρ.f 6) args).run P w=.ok (.enter (ρ.f 6) args) w)
  {w:World}{H:Heap}(hw:w.heap=H){B:Nat}{T:TypeId}{x:Option Addr×Nat×Nat}{xs:List α}
  (hcmp:∀ (W:World) y z,Ext (jf x) H W.heap->qc P g #[.agg (enc y).toArray,.agg (enc z).toArray] W fun e W'=>e=.returned (.int .i64 (cf y z))/\Ext [] W.heap W'.heap) (hM:Mine H B T k x (xs.flatMap enc)) (hlen:xs.length < 4611686018427387904) :
  qc P (ρ.f 6) #[.slice x.1 x.2.1 x.2.2,.func (.func g) #[] #[]] w fun e w'=>e=.returned (.tuple #[])/\∃ ys:List α,ys.Perm xs/\ys.Pairwise (fun a b=>¬cf b a < 0)/\Mine w'.heap B T k x (ys.flatMap enc)/\Ext (jf x) H w'.heap:=by
 subst hw
 have hl:=hM.len
 rw [zu enc hk] at hl
 have hxl:x.2.1=xs.length:=(Nat.eq_of_mul_eq_mul_right h0 hl).symm
 refine⟨e6 _ _,?_⟩
 rcases hM with⟨rfl,hnil⟩ | ⟨b,c,hx1,hB,hb,hc,hl2,hle,he⟩
 ·clear hxl hl
  have hx0:xs=[]:=by
   have:=congrArg List.length hnil
   rw [zu enc hk,List.length_nil] at this
   rcases Nat.mul_eq_zero.1 this with h | h
   ·exact List.eq_nil_of_length_eq_zero h
   ·omega
  refine (AnyF.slices_SortFunc_none L none 0 _ w).mono ?_
  rintro e w' ⟨he,hw'⟩
  subst hw'
  exact⟨⟨he,[],by rw [hx0],.nil,.inl ⟨rfl,rfl⟩,.refl _ _⟩,.refl _⟩
 ·obtain⟨xa,xl,xc⟩:=x
  simp only at hx1 hxl hc hl2 hle
  subst hx1 hxl
  have hlt:b < w.heap.size:=lt_of_get hb
  have hcl:xs.length * k<=c.size:=by rw [hc];exact Nat.mul_le_mul_right k hle
  have hget:∀ t,t < xs.length * k->c[t]?=(xs.flatMap enc)[t]?:=by
   intro t ht
   rw [<-he,Array.getElem?_toList,Array.getElem?_extract]
   rw [if_pos (by rw [zu enc hk];omega)]
   simp
  have hH:HoldsK enc k w b 0 xs.toArray:=by
   intro j hj
   simp only [size_flatK,List.size_toArray] at hj
   have h2:=z0q enc hk h0 xs.toArray j (by simpa using hj)
   refine⟨?_,?_⟩
   ·rw [Nat.zero_add,zxr rfl hb,hget j hj]
    simpa using h2
   ·exact zyi rfl hb
  have hgen:∀ (m:Nat) (os:Array Obj) (dk:Array α),(sortWorldK enc k w b 0 m dk os).heap=(w.heap.setIfInBounds b (.cells (putCells id 0 (flatK enc k dk) c) T (0,0)))++os:=by
   intro m os dk
   unfold sortWorldK grow putRowK putRow mapBlock
   simp only [Sort.ahead]
   congr 1
   apply Array.ext_getElem?
   intro i
   rw [Array.getElem?_modify]
   by_cases hib:b=i
   ·subst hib
    simp only [if_pos,Array.getElem?_setIfInBounds_self_of_lt hlt,hb,Option.map_some]
    rfl
   ·rw [if_neg hib,Array.getElem?_setIfInBounds_ne hib]
  have hextg:∀ (m:Nat) (os:Array Obj) (dk:Array α),Ext (jf (some ⟨b,0,none⟩,xs.length,xc)) w.heap (sortWorldK enc k w b 0 m dk os).heap:=by
   intro m os dk
   rw [hgen]
   refine⟨by simp,fun i hi hn=>?_⟩
   rw [Array.getElem?_append_left (by simpa using hi)]
   exact Array.getElem?_setIfInBounds_ne (by rintro rfl;exact hn (by simp [jf]))
  have hcon:=AnyQ.slices_SortFunc L k aE zE enc hk h1 cf hO g #[] b 0 xc xs.toArray w eg (fun m os dk _ x y=>?_) hH hlt (by simpa using hlen)
  ·simp only [List.size_toArray] at hcon
   refine hcon.mono ?_
   rintro e w' ⟨rfl,d',n,os,hp,hs,rfl⟩
   obtain⟨hps,_,hpp⟩:=hp
   have hps':d'.size=xs.length:=by simpa using hps
   have hperm:d'.toList.Perm xs:=by
    have h3:(d'.extract 0 xs.length).toList=d'.toList:=by
     simp only [Array.toList_extract,List.extract_eq_take_drop,List.drop_zero,Nat.sub_zero]
     exact List.take_of_length_le (by simp [hps'])
    have h4:((xs.toArray).extract 0 xs.length).toList=xs:=by simp
    rw [h3,h4] at hpp
    exact hpp
   have hsort:d'.toList.Pairwise (fun a b=>¬cf b a < 0):=by
    rw [List.pairwise_iff_getElem]
    intro i j hi hj hij
    have:=hs i j (Nat.zero_le _) hij (by simpa [hps'] using hj)
    simp only [ltOf,decide_eq_false_iff_not] at this
    rw [getElem!_pos d' j (by simpa using hj),getElem!_pos d' i (by simpa using hi)] at this
    simpa using this
   have hheap:(sortWorldK enc k w b 0 n d' os).heap=(w.heap.setIfInBounds b (.cells (putCells id 0 (flatK enc k d') c) T (0,0)))++os:=by
    unfold sortWorldK grow putRowK putRow mapBlock
    simp only [Sort.ahead]
    congr 1
    apply Array.ext_getElem?
    intro i
    rw [Array.getElem?_modify]
    by_cases hib:b=i
    ·subst hib
     simp only [if_pos,Array.getElem?_setIfInBounds_self_of_lt hlt,hb,Option.map_some]
     rfl
    ·rw [if_neg hib,Array.getElem?_setIfInBounds_ne hib]
   have hsz:(putCells id 0 (flatK enc k d') c).size=c.size:=by simp [putCells]
   have hext:Ext (jf (some ⟨b,0,none⟩,xs.length,xc)) w.heap (sortWorldK enc k w b 0 n d' os).heap:=by
    rw [hheap]
    refine⟨by simp,fun i hi hn=>?_⟩
    rw [Array.getElem?_append_left (by simpa using hi)]
    exact Array.getElem?_setIfInBounds_ne (by rintro rfl;exact hn (by simp [jf]))
   refine⟨⟨rfl,d'.toList,hperm,hsort,.inr ⟨b,_,rfl,hB,?_,hsz.trans hc,?_,hle,?_⟩,hext⟩,?_⟩
   ·rw [hheap,Array.getElem?_append_left (by simpa using hlt),Array.getElem?_setIfInBounds_self_of_lt hlt]
   ·rw [zu enc hk];simp [hps']
   ·apply List.ext_getElem?
    intro t
    rw [Array.getElem?_toList,Array.getElem?_extract,zu enc hk]
    simp only [Array.length_toList,hps']
    by_cases ht:t < xs.length * k
    ·rw [if_pos (by omega)]
     have h5:=z0q enc hk h0 d' t (by rw [hps'];exact ht)
     rw [h5]
     have h6:t < c.size:=by omega
     simp only [putCells,Nat.zero_add,Array.getElem?_mapIdx,Array.getElem?_eq_getElem h6,Option.map_some]
     rw [if_pos ⟨Nat.zero_le _,by simp [hps',ht]⟩]
     rfl
    ·rw [if_neg (by omega),List.getElem?_eq_none (by rw [zu enc hk];simp [hps'];omega)]
   ·unfold sortWorldK grow putRowK putRow mapBlock
    exact⟨rfl,rfl,rfl,by simp [Sort.ahead]⟩
  ·have h:=(hcmp (sortWorldK enc k w b 0 m dk os) x y (hextg m os dk)).2
   exact h.mono fun e W' ⟨⟨he,hx⟩,hc⟩=>⟨he,grown_of hx hc⟩
end Go.Fw
namespace Go.Proofs.YtbmegmbnlajbbaaGreatDoor
open Go Go.Fw Go.Proofs Go.Sort
theorem qcq {W:World}{y z:ME}(hy:zn4 W.heap y) (hz:zn4 W.heap z):qc P zf0 #[.agg (zic y).toArray,.agg (zic z).toArray] W fun e W'=>e=.returned (.int .i64 (zhk (nm y.f) (nm z.f)))/\Ext [] W.heap W'.heap:=by
 refine zu6 ?_
 unfold zod
 refine jv rfl fun w1 hw1=>?_
 have hx1:Ext [] W.heap w1.heap:=by rw [hw1];exact .push _
 have hb1:w1.heap[W.heap.size]?=some (.cells (zic y).toArray ql (0,0)):=by rw [hw1];exact zn
 refine jv rfl fun w2 hw2=>?_
 have hx2:Ext [] w1.heap w2.heap:=by rw [hw2];exact .push _
 have hb2:w2.heap[w1.heap.size]?=some (.cells (zic z).toArray ql (0,0)):=by rw [hw2];exact zn
 have hx:=hx1.trans hx2
 have hyl:y.hdr.2.1=(nm y.f).length:=by have:=Mine.len hy;simp at this;omega
 have hzl:z.hdr.2.1=(nm z.f).length:=by have:=Mine.len hz;simp at this;omega
 have h8:=(znr y.f).2
 refine je (s:=.slc) (t:=y.hdr) rfl (hx2.get hb1 (by simp)) rfl ?_
 refine je (s:=.slc) (t:=z.hdr) rfl hb2 rfl ?_
 refine zk (zzr rfl (Mine.ext hy hx (by simp)).cells hyl (Mine.ext hz hx (by simp)).cells hzl (by omega)) ?_
 rintro e w3 ⟨rfl,hw3⟩
 refine⟨zhk (nm y.f) (nm z.f),rfl,?_⟩
 exact⟨rfl,by rw [hw3];exact hx⟩
theorem qfz {w:World}{H:Heap}{B:Nat}{x:Option Addr×Nat×Nat}{ms:List ME}(hw:w.heap=H) (hM:Mine H B ql 4 x (ms.flatMap zic)) (hn:∀ m∈ms,zn4 H m) (hne:ms≠[]) (hlen:ms.length < 4611686018427387904) :
  qc P zck #[.slice x.1 x.2.1 x.2.2,.func (.func zf0) #[] #[]] w fun e w'=>e=.returned (.tuple #[])/\∃ ys:List ME,ys.Perm ms/\ys.Pairwise (fun a b=>¬zhk (nm b.f) (nm a.f) < 0)/\Mine w'.heap B ql 4 x (ys.flatMap zic)/\Ext (jf x) H w'.heap:=by
 obtain⟨m0,hm0⟩:=List.exists_mem_of_ne_nil _ hne
 let α:={ m:ME // m∈ms }
 haveI:Inhabited α:=⟨⟨m0,hm0⟩⟩
 have hflat:ms.flatMap zic=ms.attach.flatMap fun (m:α)=>zic m.1:=by
  conv=>lhs;rw [<-List.attach_map_subtype_val ms]
  rw [List.flatMap_map]
 rw [hflat] at hM
 have h:=qfy (α:=α) Tryz.sortE (k:=4) (fun w=>by kernel_rfl) (fun w=>by kernel_rfl) (fun m=>zic m.1) (fun m=>zhr m.1) (by omega) (fun m=>zx2) (fun a b=>zhk (nm a.1.f) (nm b.1.f)) (qc9 (α:=α) (fun m=>nm m.1.f)) (g:=zf0) (fun args w=>by kernel_rfl) (fun args w=>by kernel_rfl)
  (w:=w) (H:=H) (x:=x) (xs:=ms.attach) hw (fun W y z hx=>by
   have hk:∀ m:α,zn4 W.heap m.1:=fun m=>Mine.ext (hn m.1 m.2) hx (zj8 (hn m.1 m.2) hM (by decide))
   exact qcq (hk y) (hk z)) hM (by rw [List.length_attach];exact hlen)
 refine h.mono ?_
 rintro e w' ⟨rfl,ys,hp,hs,hm,hx⟩
 refine⟨rfl,ys.map Subtype.val,?_,?_,?_,hx⟩
 ·have:=hp.map Subtype.val
  rw [List.attach_map_subtype_val] at this
  exact this
 ·rw [List.pairwise_map];exact hs
 ·rw [List.flatMap_map];exact hm
def z3z (L:List Fil):Prop:=∃ i,∃ h:i < L.length,nm L[i]=[]\/∃ g∈L.take i,nm g=nm L[i]
def qce (L:List Fil):Prop:=∃ f∈L,(nm f).dropLast≠[]/\∀ g∈L,nm g≠(nm f).dropLast
def z0j (L:List Fil):Prop:=∃ f∈L,∃ g∈L,nm g=(nm f).dropLast/\g.dir=false
def qdf (L:List Fil):Prop:=∃ f∈L,64 < (kids L (nm f).dropLast).length
open Classical in
noncomputable def zcn (L:List Fil):Int:=if z3z L then 5 else if qce L then 4 else if z0j L then 70 else if qdf L then 8 else 0
theorem z9g {L:List Fil}(h:z3z L):zcn L=5:=by unfold zcn;rw [if_pos h]
theorem qai {L:List Fil}(h5:¬z3z L) (h:qce L):zcn L=4:=by unfold zcn;rw [if_neg h5,if_pos h]
theorem z4q {L:List Fil}(h5:¬z3z L) (h4:¬qce L) (h:z0j L):zcn L=70:=by unfold zcn;rw [if_neg h5,if_neg h4,if_pos h]
theorem qa7 {L:List Fil}(h5:¬z3z L) (h4:¬qce L) (h70:¬z0j L) (h:qdf L):zcn L=8:=by unfold zcn;rw [if_neg h5,if_neg h4,if_neg h70,if_pos h]
theorem z8n {L:List Fil}(h5:¬z3z L) (h4:¬qce L) (h70:¬z0j L) (h:¬qdf L):zcn L=0:=by unfold zcn;rw [if_neg h5,if_neg h4,if_neg h70,if_neg h]
theorem ztn {L:List Fil}(h:¬z3z L):(L.map nm).Nodup/\∀ f∈L,nm f≠[]:=by
 constructor
 ·rw [List.nodup_iff_pairwise_ne,List.pairwise_map,List.pairwise_iff_getElem]
  intro i j hi hj hij e
  exact h ⟨j,hj,.inr ⟨L[i],List.mem_take_iff_getElem.2 ⟨i,by omega,rfl⟩,e⟩⟩
 ·intro f hf e
  obtain⟨i,hi,rfl⟩:=List.getElem_of_mem hf
  exact h ⟨i,hi,.inl e⟩
theorem zuw {A B:List Fil}(h:A.Perm B) (p:Path):(kids A p).Perm (kids B p):=h.filter _
theorem qb4 {L:List Fil}(h5:¬z3z L) (h8:¬qdf L) (p:Path):(kids (zs7 L) p).length<=64:=by
 rw [(zuw (zkr (ztn h5).1).1 p).length_eq]
 by_cases hk:kids L p=[]
 ·rw [hk];simp
 ·obtain⟨f,hf⟩:=List.exists_mem_of_ne_nil _ hk
  obtain⟨h1,h2,h3⟩:=zil hf
  rw [<-h3]
  exact Nat.le_of_not_lt fun h=>h8 ⟨f,h1,h⟩
end Go.Proofs.YtbmegmbnlajbbaaGreatDoor
