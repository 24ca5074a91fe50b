/- Part 6 of the texts below the card, joined. -/
import Derived.Test.YthaaekcaaecdeaaGreatDoorTMne
import Derived.Test.YthaaekcaaecdeaaGreatDoorTMnc
import Derived.Test.YthaaekcaaecdeaaGreatDoorTMna
import Derived.WalkKit
import Derived.ProofKit
import Derived.OpenShut
import Derived.Deep.DeepHandedRow
import Derived.Lib.LaidTab
import Derived.Carry
import Derived.Test.YthaaekcaaecdeaaGreatDoorCards
import Derived.Test.YthaaekcaaecdeaaGreatDoorTie
namespace Go.Proofs.YthaaekcaaecdeaaGreatDoor
open Go Go.Fw Go.Proofs Go.Sort
def Se0:List Seat:=List.replicate 8 seat0
def pk (c:Nat):List UInt8:=zhr c false 0 []
def Se1:List Seat:=zy7 Se0 1 1 1 (pk 0)
def Se2:List Seat:=zy7 Se1 1 2 3 (pk 5)
theorem nb (n:Nat) (h:n<=127):zkx n=[UInt8.ofNat n]:=zgk h
theorem pk_len (c:Nat) (h:c<=60):(pk c).length=5:=by
 unfold pk zhr zno zoi
 rw [nb _ (show 2 * c<=127 by omega),nb _ (show (2 * 0:Nat)<=127 by omega),nb _ (show (if false=true then 1 else 0:Nat)<=127 by decide),nb ([]:List UInt8).length (by simp)]
 rfl
theorem seat1:Se1=[⟨1,1,1,true,pk 0⟩,seat0,seat0,seat0,seat0,seat0,seat0,seat0]:=rfl
theorem seat2:Se2=[⟨1,2,3,true,pk 5⟩,seat0,seat0,seat0,seat0,seat0,seat0,seat0]:=rfl
theorem ap1:ApR [] 9 99 [] qa Se0 99 0 1 1 (zkv 0) Se1 [ina]:=by
 refine .inl ⟨by decide,0,by rw [do0];rfl,by decide,?_,rfl,rfl,by rw [do0]⟩
 show (zfe Se1:Int)<=99
 rw [seat1]
 simp [zfe,pk_len,seat0]
theorem z5a:zf7 Se1 1 1=(2,pk 0):=by rw [seat1];rfl
theorem ap2:ApR [] 9 99 [ina] qa Se1 99 1 1 1 (zkv 0) Se1 [ina]:=.inr (.inl ⟨by rw [z5a],0,0,false,[],by rw [z5a];rfl,by decide,by decide,by decide,rfl,rfl,rfl⟩)
theorem ap3:ApR [] 9 99 [ina] qa Se1 99 2 1 2 (zkv 5) Se2 [ina]:=by
 refine .inl ⟨by rw [seat1];rfl,5,by rw [do1];rfl,by decide,?_,rfl,rfl,by rw [do1]⟩
 show (zfe Se2:Int)<=99
 rw [seat2]
 simp [zfe,pk_len,seat0]
theorem ap4:ApR [] 9 99 [ina] qa Se2 99 3 9 1 (zkv 1) Se2 [ina]:=.inr (.inr ⟨by rw [seat2];rfl,rfl,rfl,rfl⟩)
theorem z99 (w:World):(Instr.build xg #[(0,.int .i64 1),(1,.string (ByteArray.mk #[47,97]))]).run P w=.ok (opV (zl3 qa)) w:=by kernel_rfl
theorem bEn (cl nu:Int) (o:OpR) (w:World):(Instr.build zaq #[(0,.int .i64 cl),(1,.int .i64 nu),(2,.agg (opC o).toArray)]).run P w=.ok (.agg (zx2 cl nu o).toArray) w:=by kernel_rfl
theorem z7z {w:World}{H:Heap}(o:OpR) (hw:w.heap=H){K:Nat->World->Prop}(hK:∀ w',w'.heap=H.push (.cells (opC o).toArray xg (0,0))->K H.size w') :
  zam (zc P xg) xg w fun b w1=>jy P (storeVar xg (⟨b,0,none⟩:Addr) (opV o)) w1 fun w2=>K b w2:=
 zqr (v:=opV o) z7p (by rw [z6k];rfl) (by simp [Value.cells,opV,opC]) (by simpa [Value.cells,opV] using z1s) hw hK
theorem z2x {w:World}{H:Heap}(cl nu:Int) (r:ResR) (hw:w.heap=H){K:Nat->World->Prop}(hK:∀ w',w'.heap=H.push (.cells (zi7 cl nu r).toArray ql (0,0))->K H.size w') :
  zam (zc P ql) ql w fun b w1=>jy P (storeVar ql (⟨b,0,none⟩:Addr) (zxx cl nu r)) w1 fun w2=>K b w2:=
 zqr (v:=zxx cl nu r) z9a (by rw [z6l];rfl) (by simp [Value.cells,zxx,zi7,zff]) (by simpa [Value.cells,zxx] using zz2) hw hK
def z4k (H:Heap) (mb u tb:Nat) (t:Int) (S:List Seat) (L:List Ino):Prop:=zv9 H mb t u tb/\TabW H tb 99 S/\∃ p m,zid H u p m 9 99 [] L
theorem z4k.ext {H H':Heap}{mb u tb:Nat}{t:Int}{S:List Seat}{L:List Ino}(h:z4k H mb u tb t S L) (hx:Ext [] H H'):z4k H' mb u tb t S L:=by
 obtain⟨h1,h2,p,m,h3⟩:=h
 exact⟨hx.get h1 (by simp),h2.ext hx (by simp),p,m,h3.ext hx⟩
theorem z7r {w:World}{H:Heap}{mb u tb:Nat}{t:Int}(hw:w.heap=H) (hM:zv9 H mb t u tb):zx P zbh #[.pointer (some ⟨mb,0,none⟩)] w fun e w'=>e=.returned (.int .i64 t)/\w'=w:=by
 refine zfx ?_
 unfold zd3
 refine qg rfl ?_
 simp only [qo]
 exact jh (s:=.int .i64) (t:=t) hw hM rfl ⟨rfl,trivial⟩
theorem z2j {w:World}{H:Heap}{mb u tb p m:Nat}{t nn bb:Int}{ls:List (List Fil)}{L:List Ino}(hw:w.heap=H) (hM:zv9 H mb t u tb) (hU:zid H u p m nn bb ls L) (hls:LsOK ls):zx P za1 #[.pointer (some ⟨mb,0,none⟩)] w fun e w'=>∃ y,e=.returned (zhq y)/\y.2.1=(zhn ls L).length/\Ext [] H w'.heap:=by
 refine zfd ?_
 unfold zc8
 refine qg rfl ?_
 simp only [qo,Addr.add,Nat.zero_add,Option.map_none]
 refine jh (s:=.ptr) (t:=some ⟨u,0,none⟩) hw hM rfl ?_
 refine zl (zzp hw hU hls) ?_
 rintro e w1 ⟨y,rfl,hY,hx⟩
 exact⟨y,rfl,y,rfl,by have:=hY.len;rw [z3m] at this;omega,hx⟩
set_option maxHeartbeats 8000000 in
theorem zyu {w:World}{H:Heap}(hw:w.heap=H):zx P zlh #[] w fun e w'=>e=.returned (.bool true)/\Ext [] H w'.heap:=by
 refine zuj ?_
 unfold zp5
 refine zl (z1l 9 hw) ?_
 rintro e w1 ⟨s,rfl,hS,hx1⟩
 refine⟨_,rfl,?_⟩
 refine zl (zv3 (K:=fun c o w'=>c=0/\Ext [] w1.heap w'.heap/\∃ mb u tb,o=some ⟨mb,0,none⟩/\z4k w'.heap mb u tb 0 Se0 []/\w1.heap.size<=mb/\w1.heap.size<=u/\w1.heap.size<=tb) rfl (fun h=>absurd ⟨by unfold zqo;omega,by unfold zn0;omega⟩ h) ?_) ?_
 ·intro _ _ w2 p m tb hx2 hU hT htb
  refine zx.mono (z18 (s:=⟨s,0,none⟩) rfl hU) ?_
  rintro e w3 ⟨u,p',m',rfl,hUn,hx3,hu,_⟩
  refine⟨some ⟨u,0,none⟩,0,rfl,fun h=>absurd rfl h,fun _ w4 hw4=>?_⟩
  have hx4:Ext [] w3.heap w4.heap:=by rw [hw4];exact .push _
  exact⟨rfl,(hx2.trans hx3).trans hx4,w3.heap.size,u,tb,rfl,⟨by unfold zv9;rw [hw4];exact zn,(hT.ext hx3 (by simp)).ext hx4 (by simp),p',m',hUn.ext hx4⟩,by have:=hx2.1;have:=hx3.1;omega,by have:=hx2.1;omega,htb⟩
 rintro e w2 ⟨o,c,rfl,rfl,hx2,mb,u,tb,rfl,hM2,hmb,hub,htb⟩
 refine⟨(_,_),rfl,?_⟩
 refine ku (fun _ w'=>w'=w2) (qg rfl (qg rfl rfl)) ?_
 rintro _ w3 rfl
 refine qw (s:=.any) _ (z99 _) ?_
 refine z7z (zl3 qa) rfl fun w5 hw5=>?_
 have h3:w5.heap[w3.heap.size]?=some (.cells (opC (zl3 qa)).toArray xg (0,0)):=by rw [hw5];exact zn
 have hx5:Ext [] w3.heap w5.heap:=by rw [hw5];exact .push _
 obtain⟨B3,hB3⟩:∃ B3,B3=w3.heap.size:=⟨_,rfl⟩
 rw [<-hB3] at h3 |-
 have lts:mb < B3/\u < B3/\tb < B3:=by
  obtain⟨g1,g2,p,m,⟨_,_,g3,_⟩,_⟩:=hM2
  rw [hB3];exact⟨lt_of_get g1,lt_of_get g3,lt_of_get g2.cell⟩
 have req:∀ {W:World}{t cl nu:Int}{L L':List Ino}{S S':List Seat}{r:ResR},z4k W.heap mb u tb t S L->W.heap[B3]?=some (.cells (opC (zl3 qa)).toArray xg (0,0))->0<=t->t < 1099511627776->TreeF (zhn [] L)->ApR [] 9 99 L qa S 99 t cl nu r S' L' ->
   ∀ {Q:Nat->World->Prop},(∀ (b:Nat) (W':World),z4k W'.heap mb u tb (t+1) S' L'->W'.heap[b]?=some (.cells (zi7 cl nu r).toArray ql (0,0))->B3 < b->(∀ k o,B3<=k->W.heap[k]?=some o->W'.heap[k]?=some o)->Ext [mb,tb,u] W.heap W'.heap->Q b W') ->
   ldA P 6 (⟨B3,0,none⟩:Addr) W fun t21=>
   jv P (Instr.build zaq #[(0,(Value.int .i64 cl)),(1,(Value.int .i64 nu)),(2,(Value.agg t21))]) .any W fun (t22:Value)=>
   qc P jo #[(Value.pointer (some ⟨mb,0,none⟩)),t22] [.any] false W fun (t23:Value) w_6=>
   zam (zc P ql) ql w_6 fun b4 w_7=>
   jy P (storeVar ql (⟨b4,0,none⟩:Addr) t23) w_7 fun w_8=>Q b4 w_8:=by
  rintro W t cl nu L L' S S' r ⟨g1,g2,p,m,g3⟩ h3 ht0 ht hTr hA Q hQ
  refine xw rfl h3 rfl ?_
  refine qw (s:=.any) _ (bEn _ _ _ _) ?_
  refine zl (z3b rfl g1 g3 ls0 hTr zvi g2 ht0 ht (by omega) hA) ?_
  rintro e w6 ⟨rfl,k1,k2,⟨p',m',k3⟩,hx6⟩
  refine⟨_,rfl,?_⟩
  refine z2x cl nu r rfl fun w8 hw8=>?_
  have hx8:Ext [] w6.heap w8.heap:=by rw [hw8];exact .push _
  refine hQ _ _ ⟨hx8.get k1 (by simp),k2.ext hx8 (by simp),p',m',k3.ext hx8⟩ (by rw [hw8];exact zn) (by have:=hx6.1;have:=lt_of_get h3;omega) (fun k o hk ho=>?_) (hx6.trans (hx8.mono (by simp)))
  exact hx8.get (hx6.get ho (by simp;omega)) (by simp)
 refine req (hM2.ext hx5) h3 (by omega) (by omega) z8a ap1 fun b4 W1 m1 q4 l4 k1 e1=>?_
 refine req m1 (k1 _ _ (Nat.le_refl _) h3) (by omega) (by omega) z2r ap2 fun b5 W2 m2 q5 l5 k2 e2=>?_
 refine req m2 (k2 _ _ (Nat.le_refl _) (k1 _ _ (Nat.le_refl _) h3)) (by omega) (by omega) z2r ap3 fun b6 W3 m3 q6 l6 k3 e3=>?_
 refine req m3 (k3 _ _ (Nat.le_refl _) (k2 _ _ (Nat.le_refl _) (k1 _ _ (Nat.le_refl _) h3))) (by omega) (by omega) z2r ap4 fun b7 W4 m4 q7 l7 k4 e4=>?_
 have q44:=k4 _ _ (by omega) (k3 _ _ (by omega) (k2 _ _ (by omega) q4))
 have q54:=k4 _ _ (by omega) (k3 _ _ (by omega) q5)
 have q64:=k4 _ _ (by omega) q6
 refine jh (s:=.int .i64) (t:=0) rfl q44 rfl (jc rfl ?_)
 refine jh (s:=.int .i64) (t:=0) rfl q54 rfl (jc rfl ?_)
 refine jh (s:=.int .i64) (t:=5) rfl q64 rfl (jc rfl ?_)
 refine jh (s:=.int .i64) (t:=1) rfl q7 rfl (jc rfl ?_)
 obtain⟨g1,g2,p,m,g3⟩:=m4
 refine zl (z7r rfl g1) ?_
 rintro e w18 ⟨rfl,rfl⟩
 refine⟨_,rfl,?_⟩
 refine jc rfl ?_
 refine zl (z2j rfl g1 g3 ls0) ?_
 rintro e w19 ⟨y,rfl,hyl,hx19⟩
 refine⟨y,rfl,?_⟩
 rw [hyl,z6x]
 refine⟨rfl,?_⟩
 have hxa:Ext [mb,tb,u] w5.heap w19.heap:=(((e1.trans e2).trans e3).trans e4).trans (hx19.mono (by simp))
 exact (hx1.trans (hx2.trans hx5)).own hxa (fun k hk hlt=>by have:=hx1.1;simp at hk;omega)
theorem neB (b:Bool) (w:World):(eqM .neq z15 (.tmp 13) (.tmp 15) (.bool b) (.bool b)).run P w=.ok (.bool false) w:=by cases b <;> kernel_rfl
theorem z3d {w:World}{H:Heap}{r:ResR}(hw:w.heap=H):zx P znx #[resV r,resV r] w fun e w'=>e=.returned (.bool true)/\Ext [] H w'.heap:=by
 refine zus ?_
 unfold zq7
 refine jg hw fun w1 hw1=>?_
 refine jg rfl fun w2 hw2=>?_
 have e1:w1.heap.size=H.size+1:=by rw [hw1];simp
 have h2:w2.heap[H.size]?=some (.cells (zff r).toArray zf (0,0)):=by rw [hw2,hw1];exact zac zn
 have h3:w2.heap[H.size+1]?=some (.cells (zff r).toArray zf (0,0)):=by rw [hw2,<-e1];exact zn
 have hx2:Ext [] H w2.heap:=by rw [hw2,hw1];exact (Ext.push _).push_own
 rw [e1]
 refine ku (fun _ w'=>w'=w2) ?_ ?_
 ·refine jh (s:=.int .i64) (t:=r.code) rfl h2 rfl ?_
  refine jh (s:=.int .i64) (t:=r.code) rfl h3 rfl ?_
  refine zdk (fun h=>absurd rfl h) (fun _=>?_)
  refine jh (s:=.bool) (t:=r.dir) rfl h2 rfl ?_
  refine jh (s:=.bool) (t:=r.dir) rfl h3 rfl ?_
  refine qw (s:=.bool) false (neB _ _) ?_
  refine qg rfl ?_
  refine jh (s:=.int .i64) (t:=r.size) rfl h2 rfl ?_
  refine jh (s:=.int .i64) (t:=r.size) rfl h3 rfl ?_
  refine zdk (fun h=>absurd rfl h) (fun _=>?_)
  refine jh (s:=.str) (t:=strOf r.data) rfl h2 rfl ?_
  refine jh (s:=.str) (t:=strOf r.data) rfl h3 rfl ?_
  refine qg (by rw [z8x];simp) ?_
  refine jh (s:=.slc) (t:=(none,0,0)) rfl h2 rfl ?_
  refine jh (s:=.slc) (t:=(none,0,0)) rfl h3 rfl ?_
  exact qg rfl rfl
 rintro _ w3 rfl
 refine za3 (fun _ s W=>W=w3/\s=0) 0 ⟨rfl,rfl⟩ ?_
 rintro k s W ⟨rfl,rfl⟩ Q hQ
 refine jh (s:=.slc) (t:=(none,0,0)) rfl h2 rfl ?_
 exact qm (fun h=>absurd h (by decide)) (fun _=>⟨rfl,hx2⟩)
theorem z0g {w:World}{H:Heap}{cl nu:Int}{o:OpR}(hw:w.heap=H):zx P jo #[.pointer none,.agg (zx2 cl nu o).toArray] w fun e w'=>e=.returned (zxx cl nu (zkv 7))/\Ext [] H w'.heap:=by
 refine zej ?_
 unfold zcm
 refine jg hw fun w1 hw1=>?_
 refine jg rfl fun w2 hw2=>?_
 have e1:w1.heap.size=H.size+1:=by rw [hw1];simp
 have e2:w2.heap.size=H.size+2:=by rw [hw2];simp [e1]
 have h3:w2.heap[H.size]?=some (.cells (zx2 cl nu o).toArray zaq (0,0)):=by rw [hw2,hw1];exact zac zn
 have h4:w2.heap[H.size+1]?=some (.cells (zi7 0 0 res0).toArray ql (0,0)):=by rw [hw2,<-e1,z6l];exact zn
 have hx2:Ext [] H w2.heap:=by rw [hw2,hw1];exact (Ext.push _).push_own
 rw [e1]
 refine jh (s:=.int .i64) (t:=cl) rfl h3 rfl ?_
 refine jh (s:=.int .i64) (t:=nu) rfl h3 rfl ?_
 refine qw (s:=.any) _ (bRp _ _ _) ?_
 refine z2x cl nu res0 rfl fun w4 hw4=>?_
 have h44:w4.heap[H.size+1]?=some (.cells (zi7 0 0 res0).toArray ql (0,0)):=by rw [hw4];exact zac h4
 have h54:w4.heap[H.size+2]?=some (.cells (zi7 cl nu res0).toArray ql (0,0)):=by rw [hw4,<-e2];exact zn
 have hx4:Ext [] H w4.heap:=by rw [hw4];exact hx2.push_own
 rw [e2]
 refine jc rfl ?_
 refine zdj rfl h54 (by simp [zi7,zff]) fun w5 hw5=>?_
 have h55:w5.heap[H.size+2]?=some (.cells (zi7 cl nu (zkv 7)).toArray ql (0,0)):=by rw [hw5];exact xk h54
 have h45:w5.heap[H.size+1]?=some (.cells (zi7 0 0 res0).toArray ql (0,0)):=by rw [hw5];exact zeh h44 (by omega)
 refine xw rfl h55 rfl ?_
 refine z7t cl nu (zkv 7) rfl h45 rfl fun w6 hw6=>?_
 refine xw rfl (by rw [hw6];exact xk h45) rfl ?_
 exact⟨rfl,by rw [hw6,hw5];exact (hx4.set_own (.inl (by omega))).set_own (.inl (by omega))⟩
theorem z1d {w:World}{H:Heap}{cl nu:Int}(hw:w.heap=H):zx P zax #[.pointer none,.int .i64 cl,.int .i64 nu] w fun e w'=>e=.returned (.tuple #[.int .i64 0,resV res0])/\Ext [] H w'.heap:=by
 refine zen ?_
 unfold zcv
 refine jg hw fun w1 hw1=>?_
 have h7:w1.heap[H.size]?=some (.cells (zff res0).toArray zf (0,0)):=by rw [hw1,zx1];exact zn
 refine jc rfl ?_
 refine qw (s:=.any) _ (z7c _) ?_
 refine zvn res0 rfl h7 rfl fun w4 hw4=>?_
 refine xw rfl (by rw [hw4];exact xk h7) rfl ?_
 exact⟨rfl,by rw [hw4,hw1];exact (Ext.push _).set_own (.inl (Nat.le_refl _))⟩
def D0:List UInt8:=List.replicate 32 0
def D9:List UInt8:=9 :: List.replicate 31 0
theorem z8w (w:World):(Instr.build xq #[]).run P w=.ok (arr D0) w:=by kernel_rfl
theorem z9p (w:World):(Instr.build xq #[(0,.int .u8 9)]).run P w=.ok (arr D9) w:=by kernel_rfl
theorem z0u {w:World}{H:Heap}(hw:w.heap=H):zx P zco #[.pointer none] w fun e w'=>e=.returned (arr D0)/\Ext [] H w'.heap:=by
 refine zhy ?_
 unfold zeq
 refine jg hw fun w1 hw1=>?_
 have h2:w1.heap[H.size]?=some (.cells (byteCells D0).toArray xq (0,0)):=by rw [hw1,show zc P xq=(byteCells D0).toArray by kernel_rfl];exact zn
 refine jc rfl ?_
 refine qw (s:=.any) _ (z8w _) ?_
 refine zb0 (v:=arr D0) (by rw [z8s];rfl) (by decide) (by simpa [Value.cells,arr] using zcs) rfl h2 (by decide) fun w2 hw2=>?_
 have h22:w2.heap[H.size]?=some (.cells (byteCells D0).toArray xq (0,0)):=by rw [hw2,show (arr D0).cells.toList=byteCells D0 from rfl,zb3 (by simp)];exact xk h2
 refine xw rfl h22 rfl ?_
 exact⟨rfl,by rw [hw2,hw1];exact (Ext.push _).set_own (.inl (Nat.le_refl _))⟩
theorem gDg:P.eqGuardType P.depth xq=false:=by kernel_rfl
theorem EDg:Elem P xq 32 32:=znw (z:=arr D0) (by kernel_rfl) rfl
theorem z95:P.underlying zlb=some (.slice xq):=by kernel_rfl
theorem z7x {w:World}:zx P zbh #[.pointer none] w fun e w'=>e=.returned (.int .i64 0)/\w'=w:=by
 refine zfx ?_
 unfold zd3
 exact jc rfl ⟨rfl,rfl⟩
theorem z3u {w:World}:zx P za1 #[.pointer none] w fun e w'=>e=.returned (.slice none 0 0)/\w'=w:=by
 refine zfd ?_
 unfold zc8
 exact jc rfl ⟨rfl,rfl⟩
theorem z0e {w:World}:zx P zcu #[.pointer none] w fun e w'=>e=.returned (.slice none 0 0)/\w'=w:=by
 refine zhz ?_
 unfold zfa
 exact jc rfl ⟨rfl,rfl⟩
theorem z0h {w:World}:zx P zbj #[.pointer none] w fun e w'=>e=.returned (.slice none 0 0)/\w'=w:=by
 refine zhs ?_
 unfold ze3
 exact jc rfl ⟨rfl,rfl⟩
theorem z0z {w:World}:zx P zcw #[.pointer none] w fun e w'=>e=.returned (.pointer none)/\w'=w:=by
 refine zhu ?_
 unfold zeu
 exact jc rfl ⟨rfl,rfl⟩
set_option maxHeartbeats 16000000 in
theorem zxb {w:World}{H:Heap}{nodes bytes room cl nu:Int}{o:OpR}(hw:w.heap=H) :
  zx P zit #[.int .i64 nodes,.int .i64 bytes,.int .i64 room,.agg (zx2 cl nu o).toArray] w fun e w'=>e=.returned (.bool true)/\Ext [] H w'.heap:=by
 refine znr ?_
 unfold zix
 refine jg hw fun w1 hw1=>?_
 have h7:w1.heap[H.size]?=some (.cells (zx2 cl nu o).toArray zaq (0,0)):=by rw [hw1];exact zn
 have hx1:Ext [] H w1.heap:=by rw [hw1];exact .push _
 refine zl (zyu rfl) ?_
 rintro e w2 ⟨rfl,hx2⟩
 refine⟨_,rfl,?_⟩
 refine qg rfl ?_
 refine zl (z1l 1024 rfl) ?_
 rintro e w3 ⟨s,rfl,hS,hx3⟩
 refine⟨_,rfl,?_⟩
 refine qw (s:=.any) _ (z9p _) ?_
 refine z3r (us:=byteCells D9) EDg z95 rfl rfl (by omega) (by omega) rfl fun w4 hC4 hx4 _=>?_
 obtain⟨ok,hok⟩:∃ ok:Prop,ok=(zqo nodes bytes/\zn0 room):=⟨_,rfl⟩
 refine zl (zv3 (K:=fun c o w'=>Ext [] w4.heap w'.heap/\(¬ok->c=1)/\(ok->c=50)) rfl (fun h w' hx=>⟨hx,fun _=>rfl,fun h'=>absurd (hok▸h') h⟩) ?_) ?_
 ·intro h1 h2 w5 p m tb hx5 hU hT _
  refine zx.mono (z3f (D:=D9) rfl hU (hS.ext (hx4.trans hx5)) rfl (hC4.ext hx5 (by simp))) ?_
  rintro e w6 ⟨rfl,hx6⟩
  exact⟨none,50,rfl,fun _=>⟨hx5.trans hx6,fun h=>absurd (by rw [hok];exact⟨h1,h2⟩) h,fun _=>rfl⟩,fun h=>by cases h⟩
 rintro e w5 ⟨o1,c1,rfl,hx5,hc1,hc1'⟩
 refine⟨(_,_),rfl,?_⟩
 refine zl (zv3 (K:=fun c o w'=>Ext [] w5.heap w'.heap/\(¬ok->c=1)/\(ok->c=7)) rfl (fun h w' hx=>⟨hx,fun _=>rfl,fun h'=>absurd (hok▸h') h⟩) ?_) ?_
 ·intro h1 h2 w6 p m tb hx6 hU hT _
  refine zx.mono z1g ?_
  rintro e w7 ⟨rfl,rfl⟩
  exact⟨none,7,rfl,fun _=>⟨hx6,fun h=>absurd (by rw [hok];exact⟨h1,h2⟩) h,fun _=>rfl⟩,fun h=>by cases h⟩
 rintro e w6 ⟨o2,c2,rfl,hx6,hc2,hc2'⟩
 refine⟨(_,_),rfl,?_⟩
 refine zl (zv3 (K:=fun c o w'=>Ext [] w6.heap w'.heap/\(¬ok->c=1/\o=none)/\(ok->c=0/\o.isNone=false)) rfl (fun h w' hx=>⟨hx,fun _=>⟨rfl,rfl⟩,fun h'=>absurd (hok▸h') h⟩) ?_) ?_
 ·intro h1 h2 w7 p m tb hx7 hU hT _
  refine zx.mono (z18 (s:=⟨s,0,none⟩) rfl hU) ?_
  rintro e w8 ⟨u,p',m',rfl,_,hx8,_⟩
  refine⟨some ⟨u,0,none⟩,0,rfl,fun h=>absurd rfl h,fun _ w9 hw9=>⟨?_,fun h=>absurd (by rw [hok];exact⟨h1,h2⟩) h,fun _=>⟨rfl,rfl⟩⟩⟩
  rw [hw9];exact (hx7.trans hx8).push_own
 rintro e w7 ⟨o3,c3,rfl,hx7,hc3,hc3'⟩
 refine⟨(_,_),rfl,?_⟩
 have hx27:Ext [] w1.heap w7.heap:=((((hx2.trans hx3).trans hx4).trans hx5).trans hx6).trans hx7
 have h77:=hx27.get h7 (by simp)
 refine ku (fun b w'=>w'=w7/\(b=true ↔ ¬ok)) ?_ ?_
 ·have no:¬(0<=nodes/\nodes<=128/\0<=bytes/\bytes<=8192/\0<=room/\room<=8192)->(w7=w7/\(true=true ↔ ¬ok)):=fun h=>⟨rfl,by rw [hok];unfold zqo zn0;simp only [true_iff];exact fun h'=>h ⟨h'.1.1,h'.1.2.1,h'.1.2.2.1,h'.1.2.2.2,h'.2.1,h'.2.2⟩⟩
  refine qm (fun h=>no (by omega)) (fun h1=>?_)
  refine qm (fun h=>no (by omega)) (fun h2=>?_)
  refine qm (fun h=>no (by omega)) (fun h3=>?_)
  refine qm (fun h=>no (by omega)) (fun h4=>?_)
  refine qm (fun h=>no (by omega)) (fun h5=>?_)
  refine⟨rfl,?_⟩
  rw [hok,decide_eq_true_iff]
  unfold zqo zn0
  omega
 rintro b w8 ⟨rfl,hb⟩
 refine ku (fun _ w'=>w'=w8) ?_ ?_
 ·cases b with
  | true=>
   have hno:¬ok:=hb.1 rfl
   obtain⟨rfl,rfl⟩:=hc3 hno
   rw [hc1 hno,hc2 hno]
   exact jc rfl (qg rfl (qg rfl (qg rfl (qg rfl (qg rfl rfl)))))
  | false=>
   have hyes:ok:=Classical.byContradiction fun h=>by have:=hb.2 h;cases this
   obtain⟨rfl,h3⟩:=hc3' hyes
   rw [hc1' hyes,hc2' hyes]
   exact qg rfl (jc rfl (qg rfl (qg rfl (qg rfl (qg h3 rfl)))))
 rintro _ w9 rfl
 refine xw rfl h77 rfl ?_
 refine zl (z0g rfl) ?_
 rintro e w10 ⟨rfl,hx10⟩
 refine⟨_,rfl,?_⟩
 refine z2x cl nu (zkv 7) rfl fun w12 hw12=>?_
 have h18:w12.heap[w10.heap.size]?=some (.cells (zi7 cl nu (zkv 7)).toArray ql (0,0)):=by rw [hw12];exact zn
 have hx12:Ext [] w10.heap w12.heap:=by rw [hw12];exact .push _
 refine zl (z1d rfl) ?_
 rintro e w13 ⟨rfl,hx13⟩
 refine⟨(_,_),rfl,?_⟩
 refine zw3 res0 rfl fun w15 hw15=>?_
 have hx15:Ext [] w13.heap w15.heap:=by rw [hw15];exact .push _
 have hx1215:=hx13.trans hx15
 have h1815:=hx1215.get h18 (by simp)
 have h715:=((hx10.trans hx12).trans hx1215).get h77 (by simp)
 refine jh (s:=.int .i64) (t:=cl) rfl h1815 rfl ?_
 refine jh (s:=.int .i64) (t:=cl) rfl h715 rfl ?_
 refine jc (by simp) ?_
 refine jh (s:=.int .i64) (t:=nu) rfl h1815 rfl ?_
 refine jh (s:=.int .i64) (t:=nu) rfl h715 rfl ?_
 refine jc (by simp) ?_
 refine ztj (n:=5) rfl h1815 (by simp [zi7,zff]) ?_
 rw [z8o]
 refine qw (s:=.any) _ (z6s _ _) ?_
 refine zl (z3d (r:=zkv 7) rfl) ?_
 rintro e w16 ⟨rfl,hx16⟩
 refine⟨_,rfl,?_⟩
 refine jc rfl ?_
 refine zl z7x ?_
 rintro e w17 ⟨rfl,rfl⟩
 refine⟨_,rfl,?_⟩
 refine jc rfl (jc rfl ?_)
 refine zl (l:=[.slc]) z3u ?_
 rintro e w18 ⟨rfl,rfl⟩
 refine⟨(none,0,0),rfl,?_⟩
 refine jc rfl ?_
 refine zl (l:=[.slc]) z0e ?_
 rintro e w19 ⟨rfl,rfl⟩
 refine⟨(none,0,0),rfl,?_⟩
 refine jc rfl ?_
 refine zl (l:=[.slc]) z0h ?_
 rintro e w20 ⟨rfl,rfl⟩
 refine⟨(none,0,0),rfl,?_⟩
 refine jc rfl ?_
 refine zl (z0u rfl) ?_
 rintro e w21 ⟨rfl,hx21⟩
 refine⟨_,rfl,?_⟩
 refine qw (s:=.any) _ (z8w _) ?_
 refine qw (s:=.bool) true (by show (eqM .eql xq (.tmp 163) (.tmp 164) (arr D0) (arr D0)).run P w21=_;rw [z2s uDg u8d z88 gDg rfl rfl];simp;rfl) ?_
 refine jc rfl ?_
 refine zl z0z ?_
 rintro e w22 ⟨rfl,rfl⟩
 refine⟨none,rfl,rfl,?_⟩
 exact ((hx1.trans hx27).trans ((hx10.trans hx12).trans hx1215)).trans (hx16.trans hx21)
end Go.Proofs.YthaaekcaaecdeaaGreatDoor
namespace Go.Fw
open Go Go.ChangeShapes Go.WideShapes Go.ChangeAt Go.RowKit
theorem z4f {W W':World}(h:∀ i,i < W.heap.size->W'.heap[i]?=W.heap[i]?){p:MemPlace}(hp:p.block < W.heap.size):W.sameAt W' p:=by
 cases p with
 | cell b off=>simp only [World.sameAt,World.cell?];rw [h b hp]
 | map b=>exact h b hp
theorem zl4 {H:Type}{enc:TypeId×Value->H}{P:Program}(hl:laidOutB P=true){W W':World}{sp':Nat->Bool}(h:∀ i,i < W.heap.size->W'.heap[i]?=W.heap[i]?) :
  ∀ {ts:List TypeId}{vs:List Value}{ds:List (DataW H)}{ps:List MemPlace},(∀ t∈ts,P.readableRec t=true/\t < P.types.size)->(∀ p∈ps,p.block < W.heap.size/\sp' p.block=true) ->
  DataW.TrodAll enc P W 0 (fun _=>true) true ts vs ds ps->DataW.TrodAll enc P W' 0 sp' true ts vs ds ps
 | [],vs,ds,ps,_,_,ht=>by
  obtain⟨rfl,rfl,rfl⟩:=trodAll_nil ht
  rfl
 | t :: ts,vs,ds,ps,hr,hp,ht=>by
  obtain⟨v,vs',d,ds',p,q,rfl,rfl,rfl,h1,h2⟩:=trodAll_cons ht
  refine⟨p,q,?_,zl4 hl h (fun t ht=>hr t (by simp [ht])) (fun x hx=>hp x (by simp [hx])) h2,rfl⟩
  exact WideElems.Trod_stays hl (hr t (by simp)).1 (hr t (by simp)).2 h1 (fun x hx=>z4f h (hp x (by simp [hx])).1) fun x hx=>(hp x (by simp [hx])).2
theorem zyl {H:Type}{enc:TypeId×Value->H}{P:Program}{f:Func}{s:ChangeSpec}{apart fresh handsOn again:Bool}{W W':World}{args:Array Value}{v:Value}{ds gs:List (DataW H)}{before:List MemPlace}
  (hl:laidOutB P=true) (hpar:∀ t∈f.params.toList,P.readableRec t=true/\t < P.types.size) (hvars:s.vars=[])
  (hW:DataW.Whole enc P f.params.toList s.vars apart W args.toList ds gs before) (hfa:(s.fn H (ds++gs)).args=ds) (hfv:(s.fn H (ds++gs)).vars=[])
  (hres:∀ (b:Nat) (sp:Nat->Bool) (hd:Bool),DataW.TrodAll enc P W' b sp hd f.resultTypes.toList (v.resultList f.resultTypes.size) (s.fn H (ds++gs)).results [])
  (hx:Ext [] W.heap W'.heap) (hc:Calm W W')
  (hok:∀ (j:Nat) (t:TypeId) (r:Value),f.resultTypes[j]?=some t->(v.resultList f.resultTypes.size)[j]?=some r->Value.okWide P W' .any 0 t r) :
  s.post enc P f apart fresh handsOn again W args v W':=by
 have hsame:∀ i,i < W.heap.size->W'.heap[i]?=W.heap[i]?:=fun i hi=>hx.2 i hi (by simp)
 have hlt:∀ p∈before,p.block < W.heap.size:=fun p hp=>hW.lt p hp
 have hW0:=hW
 obtain⟨pa,pv,hA,hV,rfl,hz,hn⟩:=hW
 rw [hvars] at hV
 obtain⟨rfl,rfl⟩:=trodVars_none hV
 rw [List.append_nil] at hlt hz hn
 have hargs:∀ sp:Nat->Bool,(∀ p∈pa,sp p.block=true)->DataW.TrodAll enc P W' 0 sp true f.params.toList args.toList (s.fn H (ds++[])).args pa:=by
  intro sp hsp
  rw [hfa]
  exact zl4 hl hsame hpar (fun p hp=>⟨hlt p hp,hsp p hp⟩) hA
 have hvs:∀ sp:Nat->Bool,DataW.TrodVars enc P W' sp s.vars (s.fn H (ds++[])).vars []:=by
  intro sp
  rw [hvars,hfv]
  rfl
 refine⟨ds,[],pa++[],[],pa,[],hW0,hres _ _ _,hargs _ (fun p hp=>by simpa using hlt p hp),hvs _,⟨hc.1,hc.2.1,fun i hi=>?_⟩,fun _=>⟨hok,_,_,([]++pa)++[],⟨[]++pa,[],trodAll_append (hargs _ (fun _ _=>rfl)) (hres _ _ _),hvs _,rfl,?_,?_⟩,?_⟩⟩
 ·rw [hsame i hi]
  cases W.heap[i]? with
  | none=>rfl
  | some o=>cases o <;> first | exact⟨rfl,rfl,rfl,fun _ _=>rfl⟩ | exact .inr ⟨rfl,rfl⟩ | rfl
 ·intro b off hp
  have hp:MemPlace.cell b off∈pa:=by simpa using hp
  have h1:=hz b off (by simpa using hp)
  have h2:=hsame b (hlt _ hp)
  unfold World.frozen? at h1 |-
  rw [h2]
  exact h1
 ·intro ha
  simpa using hn ha
 ·intro p hp _
  simpa using hp
section
variable {H:Type}{enc:TypeId×Value->H}{P:Program}{W:World}
def shapeOf (P:Program) (t:TypeId):Option (List (TypeId×Nat)):=match P.underlying t with | some (.struct fs)=>some (fs.toList.map fun f=>(f.type,f.offset)) | _=>none
theorem zsz {t:TypeId}{L:List (TypeId×Nat)}(hs:shapeOf P t=some L){cs:List Value}{fuel:Nat}{x:DataW H×List MemPlace}(h:DataW.trod enc P W 0 (fun _=>true) true fuel t cs=some x) :
  ∃ ys:List (DataW H),x.1=.agg ys/\cs.length=P.cellsOf t/\ys.length=L.length/\∀ (i:Nat) (ti:TypeId) (off:Nat),L[i]?=some (ti,off)->∃ m ps y,ys[i]?=some y/\DataW.trod enc P W 0 (fun _=>true) true m ti ((cs.drop off).take (P.cellsOf ti))=some (y,ps):=by
 unfold shapeOf at hs
 split at hs
 ·rename_i fs hu
  injection hs with hs
  subst hs
  obtain⟨xs,n,_,rfl,hl,hlen,hf⟩:=DataW.trod_struct hu h
  refine⟨xs.map (·.1),rfl,hl,by simpa using hlen,fun i ti off hi=>?_⟩
  rw [List.getElem?_map,Option.map_eq_some_iff] at hi
  obtain⟨f,hfi,he⟩:=hi
  simp only [Prod.mk.injEq] at he
  obtain⟨rfl,rfl⟩:=he
  have h1:=hf i f (by simpa using hfi)
  have hil:i < xs.length:=by
   have:=(List.getElem?_eq_some_iff.1 hfi).1
   simp at this;omega
  rw [List.getElem?_eq_getElem hil] at h1
  exact⟨n,(xs[i]).2,(xs[i]).1,by simp [List.getElem?_eq_getElem hil],h1⟩
 ·cases hs
theorem zuk {t:TypeId}{k:IntKind}(ht:P.underlying t=some (.int k)){v:Value}{fuel:Nat}{x:DataW H×List MemPlace}(h:DataW.trod enc P W 0 (fun _=>true) true fuel t [v]=some x):∃ n,v=.int k n/\(Lit.int k n).wf=true:=by
 cases fuel with
 | zero=>simp [DataW.trod] at h
 | succ m=>
  unfold DataW.trod at h
  rw [ht] at h
  split at h <;> simp_all
end
end Go.Fw
namespace Go.Proofs.YthaaekcaaecdeaaGreatDoor
open Go Go.Fw Go.Proofs Go.ChangeShapes Go.WideShapes Go.ChangeAt Go.RowKit
theorem z7l {α:Type}{l:List α}(h:l.length=8):∃ a b c d e f g i,l=[a,b,c,d,e,f,g,i]:=by
 match l,h with
 | [a,b,c,d,e,f,g,i],_=>exact⟨a,b,c,d,e,f,g,i,rfl⟩
section
variable {Hh:Type}{enc:TypeId×Value->Hh}{W:World}
theorem zzw {t:TypeId}(ht:P.underlying t=some .string){v:Value}{fuel:Nat}{x:DataW Hh×List MemPlace}(h:DataW.trod enc P W 0 (fun _=>true) true fuel t [v]=some x):∃ L:List UInt8,v=.string (strOf L)/\L.length<=9223372036854775807:=by
 cases fuel with
 | zero=>simp [DataW.trod] at h
 | succ m=>
  unfold DataW.trod at h
  rw [ht] at h
  split at h <;> simp_all
  refine⟨_,zxy.symm,?_⟩
  have hm:maxLen=9223372036854775807:=by decide
  have h1:=h.1
  simp only [ByteArray.size] at h1
  rw [Array.length_toList]
  omega
theorem z9d:shapeOf P zaq=some [(zai,0),(zsl,1),(xg,2)]:=by kernel_rfl
theorem qag:shapeOf P xg=some [(zai,0),(qy,1),(qy,2),(qy,3),(zai,4),(zai,5)]:=by kernel_rfl
theorem cEn:P.cellsOf zaq=8:=by kernel_rfl
theorem z8k:P.cellsOf zai=1:=by kernel_rfl
theorem qab:P.cellsOf zsl=1:=by kernel_rfl
theorem cStr:P.cellsOf qy=1:=by kernel_rfl
theorem qan:P.underlying zsl=some (.int .i64):=by kernel_rfl
theorem zw1 {cs:List Value}{fuel:Nat}{x:DataW Hh×List MemPlace}(h:DataW.trod enc P W 0 (fun _=>true) true fuel zaq cs=some x):∃ (cl nu:Int) (o:OpR),cs=zx2 cl nu o:=by
 obtain⟨ys,_,hl,_,hf⟩:=zsz z9d h
 rw [cEn] at hl
 obtain⟨c0,c1,c2,c3,c4,c5,c6,c7,rfl⟩:=z7l hl
 obtain⟨a0,b0,e0,_,g0⟩:=hf 0 zai 0 rfl
 obtain⟨a1,b1,e1,_,g1⟩:=hf 1 zsl 1 rfl
 obtain⟨a2,b2,e2,_,g2⟩:=hf 2 xg 2 rfl
 rw [z8k] at g0
 rw [qab] at g1
 rw [z7p] at g2
 obtain⟨cl,rfl,_⟩:=zuk (v:=c0) zzb g0
 obtain⟨nu,rfl,_⟩:=zuk (v:=c1) qan g1
 obtain⟨zs,_,_,_,hg⟩:=zsz (cs:=[c2,c3,c4,c5,c6,c7]) qag g2
 obtain⟨p0,q0,r0,_,k0⟩:=hg 0 zai 0 rfl
 obtain⟨p1,q1,r1,_,k1⟩:=hg 1 qy 1 rfl
 obtain⟨p2,q2,r2,_,k2⟩:=hg 2 qy 2 rfl
 obtain⟨p3,q3,r3,_,k3⟩:=hg 3 qy 3 rfl
 obtain⟨p4,q4,r4,_,k4⟩:=hg 4 zai 4 rfl
 obtain⟨p5,q5,r5,_,k5⟩:=hg 5 zai 5 rfl
 rw [z8k] at k0 k4 k5
 rw [cStr] at k1 k2 k3
 obtain⟨kd,rfl,_⟩:=zuk (v:=c2) zzb k0
 obtain⟨s1,rfl,_⟩:=zzw (v:=c3) zv4 k1
 obtain⟨s2,rfl,_⟩:=zzw (v:=c4) zv4 k2
 obtain⟨s3,rfl,_⟩:=zzw (v:=c5) zv4 k3
 obtain⟨n4,rfl,_⟩:=zuk (v:=c6) zzb k4
 obtain⟨n5,rfl,_⟩:=zuk (v:=c7) zzb k5
 exact⟨cl,nu,⟨kd,s1,s2,s3,n4,n5⟩,rfl⟩
theorem zzn {Q:Program}{t:TypeId}{L:List (TypeId×Nat)}(hs:shapeOf Q t=some L){W:World}{r:Reach}{base:Nat}{v:Value}(h:Value.okWide Q W r base t v):∃ cs:Array Value,v=.agg cs:=by
 unfold shapeOf at hs
 split at hs
 ·rename_i fs hu
  unfold Value.okWide at h
  rw [hu] at h
  obtain⟨cs,hc,_⟩:=h
  exact⟨cs,hc⟩
 ·cases hs
end
namespace RowC
theorem own:ownKnob Tryz.prog.godebug=none:=by kernel_rfl
theorem laidOut:laidOutB Tryz.prog=true:=by kernel_rfl
def z3z:List Int:=[1116352408,1899447441,3049323471,3921009573,961987163,1508970993,2453635748,2870763221,3624381080,310598401,607225278,1426881987,1925078388,2162078206,2614888103,3248222580,3835390401,4022224774,264347078,604807628,770255983,1249150122,1555081692,1996064986,2554220882,2821834349,2952996808,3210313671,3336571891,3584528711,113926993,338241895,666307205,773529912,1294757372,1396182291,1695183700,1986661051,2177026350,2456956037,2730485921,2820302411,3259730800,3345764771,3516065817,3600352804,4094571909,275423344,430227734,506948616,659060556,883997877,958139571,1322822218,1537002063,1747873779,1955562222,2024104815,2227730452,2361852424,2428436474,2756734187,3204031479,3329325298]
noncomputable def qac (o:Obj):Obj:=match o with
 | .cells _ t frozen=>.cells ((z3z.map fun n=>Value.int .u32 n).toArray) t frozen
 | o=>o
noncomputable def z92 (o:Obj):Obj:=match o with
 | .cells _ t frozen=>.cells #[.iface zeg (.agg #[.pointer (some ⟨Tryz.prog.globals.size,za0,none⟩)])] t frozen
 | o=>o
noncomputable def laidWorld (os:Os):World:={ World.holding Tryz.prog os ⟨#[],#[],[]⟩ with heap:=((World.holding Tryz.prog os ⟨#[],#[],[]⟩).heap.modify 1 qac).modify 0 z92 }
end RowC
end Go.Proofs.YthaaekcaaecdeaaGreatDoor
