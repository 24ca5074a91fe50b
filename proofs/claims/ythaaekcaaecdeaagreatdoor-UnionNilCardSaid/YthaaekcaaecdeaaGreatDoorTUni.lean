/- Part 9 of the texts below the card, joined. -/
import Derived.Test.YthaaekcaaecdeaaGreatDoorTUnh
import Derived.Test.YthaaekcaaecdeaaGreatDoorTUnf
import Derived.Test.YthaaekcaaecdeaaGreatDoorTUng
import Derived.Test.YthaaekcaaecdeaaGreatDoorTUnd
import Derived.Test.YthaaekcaaecdeaaGreatDoorTUna
import Derived.WalkKit
import Derived.ProofKit
import Derived.OpenShut
import Derived.Deep.DeepHandedRow
import Derived.Lib.LaidTab
import Derived.Carry
import Derived.Test.YthaaekcaaecdeaaGreatDoorCards
import Derived.Test.YthaaekcaaecdeaaGreatDoorTie
import Derived.LaidHandle
namespace Go.Proofs.YthaaekcaaecdeaaGreatDoor
open Go Go.Fw Go.Proofs Go.Sort
def zj8 (g:List UInt8->Int->Nod×Int) (ct:Nod->List UInt8×Int) (rec:List Itm->Path->List Fil->List Fil×Int) (names:Path):List Itm->List Fil->List Fil×Int
 | [],out=>(out,0)
 | it :: its,out=>
  if out.length=512 then ([],8) else if 8 < names.length+1 then ([],42)
  else if (g it.sum it.kind).2≠0 then ([],(g it.sum it.kind).2)
  else if it.kind=3 then
   if (rec (g it.sum it.kind).1.items (names++[it.name]) (out++[⟨x9 (names++[it.name]),true,[]⟩])).2≠0 then ([],(rec (g it.sum it.kind).1.items (names++[it.name]) (out++[⟨x9 (names++[it.name]),true,[]⟩])).2)
   else zj8 g ct rec names its (rec (g it.sum it.kind).1.items (names++[it.name]) (out++[⟨x9 (names++[it.name]),true,[]⟩])).1
  else if (ct (g it.sum it.kind).1).2≠0 then ([],(ct (g it.sum it.kind).1).2)
  else zj8 g ct rec names its (out++[⟨x9 (names++[it.name]),false,(ct (g it.sum it.kind).1).1⟩])
def zo3 (g:List UInt8->Int->Nod×Int) (ct:Nod->List UInt8×Int):Nat->List Itm->Path->List Fil->List Fil×Int
 | 0,_,_,_=>([],42)
 | f+1,items,names,out=>zj8 g ct (zo3 g ct f) names items out
def zec (H:Heap) (B:Nat) (out:Option Addr×Nat×Nat) (res:List Fil×Int) (e:Ending) (w':World):Prop:=
 ∃ x',e=.returned (.tuple #[zdr x',.int .i64 res.2])/\Ext (jw out) H w'.heap/\(res.2=0->Mine w'.heap B zn 3 x' (res.1.flatMap zb6)/\res.1.length<=512)/\∀ c∈jw x',c∈jw out\/H.size<=c
def zmc (H:Heap) (B:Nat) (out:Option Addr×Nat×Nat) (res:List Fil×Int) (next:List Fil->List Fil×Int) (s:Option Addr×Nat×Nat) (w':World):Prop:=
 ∃ L,next L=res/\Ext (jw out) H w'.heap/\Mine w'.heap B zn 3 s (L.flatMap zb6)/\L.length<=512/\∀ c∈jw s,c∈jw out\/H.size<=c
theorem zyg {v:Option (List UInt8)}{k:List UInt8}{kind:Int}:(zq5 v k kind).1.items.length<=65/\(∀ i∈(zq5 v k kind).1.items,i.name.length<=16)/\(zq5 v k kind).1.size<=1025/\0<=(zq5 v k kind).1.size/\(zq5 v k kind).1.parts.length<=65536:=by
 have hd:∀ L,(zom L).1.items.length<=65/\(∀ i∈(zom L).1.items,i.name.length<=16)/\(zom L).1.size<=1025/\0<=(zom L).1.size/\(zom L).1.parts.length<=65536:=by
  intro L
  unfold zom
  split
  ·have:=ztm (s:=some L)
   refine⟨this.2.2,this.2.1,this.1,?_,?_⟩
   ·unfold zcu;repeat' split
    all_goals simp
   ·unfold zcu;repeat' split
    all_goals simp [zqm]
    all_goals omega
  ·simp [zh2]
 unfold zq5
 split
 ·simp [zh2]
 ·split
  ·simp [zh2]
  ·exact hd _
theorem qh5 {H:Heap}{B:Nat}{out:Option Addr×Nat×Nat}{res:List Fil×Int}{next:List Fil->List Fil×Int}{fp:List Nat}{p:Nat}{q:Int}{r:Bl.SM}{c:Nat}{rec:List Itm->Path->List Fil->List Fil×Int}{names':Path}{d:Bool}{D:Nod}{yp yi y28 o:Option Addr×Nat×Nat}{b13 b15:Nat}{L:List Fil}{w:World}
  (hS:Bl.Store w.heap fp p q r c) (hR:Bl.Rounds w.heap) (hfp:∀ b∈fp,b < B) (hB0:1 < B) (hBs:B<=H.size) (hlen:∀ k L,Bl.zcq r k=some L->L.length < 1099511627776)
  (hx:Ext (jw out) H w.heap) (h13:w.heap[b13]?=some (.cells (zfb D yp yi).toArray zu (0,0))) (h15:w.heap[b15]?=some (.cells (zb6 ⟨x9 names',d,[]⟩).toArray zn (0,0))) (hb15:H.size<=b15) (hb13:H.size<=b13)
  (hno:b15∉jw o) (hno13:b13∉jw o) (hD:NodM w.heap B D yp yi) (hDp:D.parts.length<=65536) (hDs:0<=D.size) (hDs2:D.size<=1025) (hY:Mine w.heap B qx 1 y28 (strRow names'))
  (hO:Mine w.heap B zn 3 o (L.flatMap zb6)) (hL:L.length < 512) (hoo:∀ c∈jw o,c∈jw out\/H.size<=c)
  (hdir:d=true->res=if (rec D.items names' (L++[(⟨x9 names',true,[]⟩:Fil)])).2≠0 then ([],(rec D.items names' (L++[(⟨x9 names',true,[]⟩:Fil)])).2) else next (rec D.items names' (L++[(⟨x9 names',true,[]⟩:Fil)])).1)
  (hfile:d=false->res=if (zf7 r D).2≠0 then ([],(zf7 r D).2) else next (L++[(⟨x9 names',false,(zf7 r D).1⟩:Fil)]))
  (hrec:d=true->∀ {w2:World}{o2:Option Addr×Nat×Nat},Ext (jw o) w.heap w2.heap->Mine w2.heap B zn 3 o2 ((L++[(⟨x9 names',true,[]⟩:Fil)]).flatMap zb6)->(∀ c∈jw o2,c∈jw o\/w.heap.size<=c)->NodM w2.heap B D yp yi->Mine w2.heap B qx 1 y28 (strRow names') ->
   qj P zcb #[.pointer (some ⟨p,0,none⟩),.agg (zfb D yp yi).toArray,.slice y28.1 y28.2.1 y28.2.2,.slice o2.1 o2.2.1 o2.2.2] w2 (zec w2.heap B o2 (rec D.items names' (L++[(⟨x9 names',true,[]⟩:Fil)])))) :
  Go.Fw.joinP Unit (fun k_2=>
  ld .bool (⟨b15,1,none⟩:Addr) w fun (t56:Bool)=>
  qw (!t56) (
  ldA P 5 (⟨b13,0,none⟩:Addr) w fun t60=>
  ql P zb9 #[(Value.pointer (some ⟨p,0,none⟩)),(Value.agg t60)] [.str,.int .i64] true w fun (t61:(ByteArray×Int)) w_16=>
  stC (⟨b15,2,none⟩:Addr) (Value.string t61.1) w_16 fun w_17=>
  qw (t61.2 != 0) (
  zec H B out res (.returned (Value.tuple #[(Value.slice none 0 0),(Value.int .i64 t61.2)])) w_17) (
  k_2 () w_17)) (
  k_2 () w)) (fun _ w_18=>
  ldA P 3 (⟨b15,0,none⟩:Addr) w_18 fun t69=>
  za2 P (Instr.buildSlice qm 1 #[(0,(Value.agg t69))]) .slc w_18 fun (t70:(Option Addr×Nat×Nat)) w_19=>
  za2 P (Builtin.append_ #[qm,qm] qm #[(Value.slice o.1 o.2.1 o.2.2),(Value.slice t70.1 t70.2.1 t70.2.2)]) .slc w_19 fun (t71:(Option Addr×Nat×Nat)) w_20=>
  ld .bool (⟨b15,1,none⟩:Addr) w_20 fun (t73:Bool)=>
  qw t73 (
  ldA P 5 (⟨b13,0,none⟩:Addr) w_20 fun t76=>
  ql P zcb #[(Value.pointer (some ⟨p,0,none⟩)),(Value.agg t76),(Value.slice y28.1 y28.2.1 y28.2.2),(Value.slice t71.1 t71.2.1 t71.2.2)] [.slc,.int .i64] true w_20 fun (t79:((Option Addr×Nat×Nat)×Int)) w_21=>
  qw (t79.2 != 0) (
  zec H B out res (.returned (Value.tuple #[(Value.slice none 0 0),(Value.int .i64 t79.2)])) w_21) (
  zmc H B out res next (t79.1.1,t79.1.2.1,t79.1.2.2) w_21)) (
  zmc H B out res next (t71.1,t71.2.1,t71.2.2) w_20)):=by
 have bs:=lt_of_get h15
 have sH:=hx.1
 refine Go.Fw.joinP_of (fun _ W=>Ext [b15] w.heap W.heap/\W.heap[b15]?=some (.cells (zb6 ⟨x9 names',d,if d then [] else (zf7 r D).1⟩).toArray zn (0,0))/\(d=true->W.heap=w.heap)/\(d=false->(zf7 r D).2=0)) ?_ ?_
 ·refine jg (s:=.bool) (t:=d) rfl h15 rfl ?_
  cases d with
  | true=>exact qp rfl ⟨.refl _ _,h15,fun _=>rfl,fun h=>by cases h⟩
  | false=>
   refine jh rfl ?_
   refine xw rfl h13 rfl ?_
   refine zh (qa8 rfl hS hR hlen hD.nodW hDp (by omega) (by omega)) ?_
   rintro e w16 ⟨rfl,hx16⟩
   refine⟨(strOf (zf7 r D).1,(zf7 r D).2),rfl,?_⟩
   have k15:=hx16.get h15 (by simp)
   refine zb8 rfl k15 (by simp [zb6]) fun w17 hw17=>?_
   have hx17:Ext [b15] w16.heap w17.heap:=by rw [hw17];exact Ext.set _ (by simp)
   refine zbr (fun h=>?_) (fun h=>?_)
   ·have h:(zf7 r D).2≠0:=h
    have hr:=hfile rfl
    rw [if_pos h] at hr
    refine⟨(none,0,0),by rw [hr];rfl,(hx.trans (hx16.mono (by simp))).own hx17 (fun c hc hlt=>by simp at hc;omega),fun h0=>?_,by simp [jw]⟩
    rw [hr] at h0;exact absurd h0 h
   ·exact⟨(hx16.mono (by simp)).trans hx17,by rw [hw17];exact qy k15,(fun h=>by cases h),fun _=>h⟩
 rintro _ W ⟨hxW,hbW,hWd,hok⟩
 have sW:=hxW.1
 refine xw rfl hbW rfl ?_
 have hOW:=hO.ext hxW (fun c hc h=>by simp at h;subst h;exact hno hc)
 refine qbi rfl hOW (by omega) (by omega) fun x71 w20 hm20 hx20 hs20=>?_
 have s20:=hx20.1
 refine jg (s:=.bool) (t:=d) rfl (hx20.get hbW hno) rfl ?_
 have hx020:Ext (jw out) H w20.heap:=(hx.own hxW (fun c hc hlt=>by simp at hc;omega)).own hx20 (fun c hc hlt=>by
  rcases hoo c hc with h | h
  ·exact h
  ·omega)
 have ho20:∀ c∈jw x71,c∈jw out\/H.size<=c:=fun c hc=>by
  rcases hs20 c hc with h | h
  ·exact hoo c h
  ·right;omega
 cases d with
 | false=>
  have h0:=hok rfl
  have hr:=hfile rfl
  rw [if_neg (by simpa using h0)] at hr
  exact qp rfl ⟨_,hr.symm,hx020,hm20,by simp;omega,ho20⟩
 | true=>
  refine jh rfl ?_
  have hWw:=hWd rfl
  rw [hWw] at hx20 hs20
  have k13:=hx20.get h13 hno13
  refine xw rfl k13 rfl ?_
  have hN:=hD.parts
  have ne1:=zf0 hD.parts hO (by decide)
  have ne2:=zf0 hD.items hO (by decide)
  have ne3:=zf0 hY hO (by decide)
  refine zh (hrec rfl hx20 hm20 hs20 ⟨hD.parts.ext hx20 ne1,hD.items.ext hx20 ne2,hD.p32,hD.i32⟩ (hY.ext hx20 ne3)) ?_
  rintro e w21 ⟨x79,rfl,hx21,hres,hs21⟩
  have hr:=hdir rfl
  generalize rec D.items names' (L++[(⟨x9 names',true,[]⟩:Fil)])=Z at *
  refine⟨(x79,Z.2),rfl,?_⟩
  have hx021:Ext (jw out) H w21.heap:=hx020.own hx21 (fun c hc hlt=>by
   rcases ho20 c hc with h | h
   ·exact h
   ·omega)
  have ho21:∀ c∈jw x79,c∈jw out\/H.size<=c:=fun c hc=>by
   rcases hs21 c hc with h | h
   ·exact ho20 c h
   ·right;omega
  refine zbr (fun h=>?_) (fun h=>?_)
  ·have h:Z.2≠0:=h
   rw [if_pos h] at hr
   refine⟨(none,0,0),by rw [hr];rfl,hx021,fun h0=>?_,by simp [jw]⟩
   rw [hr] at h0;exact absurd h0 h
  ·have h:Z.2=0:=h
   rw [if_neg (by simpa using h)] at hr
   exact⟨Z.1,hr.symm,hx021,(hres h).1,(hres h).2,ho21⟩
theorem bFd (s:ByteArray) (b:Bool) (w:World):(Instr.build zn #[(0,.string s),(1,.bool b)]).run P w=.ok (.agg #[.string s,.bool b,.string .empty]) w:=by kernel_rfl
theorem qic {i:Itm}:(zh3 i).toArray.extract 2 34=(Bl.zd7 i.sum).toArray:=by
 apply Array.toList_inj.1
 have:=Bl.zck i.sum
 simp [zh3,List.take_of_length_le,this]
theorem stF {w:World}{H:Heap}{b:Nat}{c:Array Value}{T:TypeId}(f:Fil) (hw:w.heap=H) (hb:H[b]?=some (.cells c T (0,0))) (hs:c.size=3){K:World->Prop}
  (hK:∀ w',w'.heap=H.setIfInBounds b (.cells (zb6 f).toArray T (0,0))->K w'):zah P (storeVar zn (⟨b,0,none⟩:Addr) (.agg (zb6 f).toArray)) w K:=by
 refine zbe (v:=.agg (zb6 f).toArray) (by rw [szF];rfl) (by simp [Value.cells,zb6]) (by simpa [Value.cells] using zr9) hw hb (by rw [hs];simp [Value.cells,zb6]) fun w5 hw5=>hK w5 ?_
 rw [zau (by rw [hs];simp [Value.cells,zb6])] at hw5
 simpa [Value.cells] using hw5
def gV (r:Bl.SM) (k:List UInt8) (kind:Int):Nod×Int:=zq5 (Bl.zcq r k) k kind
set_option maxHeartbeats 4000000 in
theorem qjo {H:Heap}{B:Nat}{out:Option Addr×Nat×Nat}{res:List Fil×Int}{fp:List Nat}{p:Nat}{q:Int}{r:Bl.SM}{c:Nat}{rec:List Itm->Path->List Fil->List Fil×Int}{names:Path}{it:Itm}{its:List Itm}{y28 o:Option Addr×Nat×Nat}{b11:Nat}{L:List Fil}{w:World}{next:List Fil->List Fil×Int}
  (hS:Bl.Store w.heap fp p q r c) (hR:Bl.Rounds w.heap) (hfp:∀ b∈fp,b < B) (hB0:1 < B) (hBs:B<=H.size) (hlen:∀ k L,Bl.zcq r k=some L->L.length < 1099511627776)
  (hx:Ext (jw out) H w.heap) (h11:w.heap[b11]?=some (.cells (zh3 it).toArray jl (0,0))) (h32:it.sum.length=32) (hno:b11∉jw o) (hsm:tlen (names++[it.name])+(names++[it.name]).length<=1099511627776)
  (hY:Mine w.heap B qx 1 y28 (strRow (names++[it.name])))
  (hO:Mine w.heap B zn 3 o (L.flatMap zb6)) (hL:L.length<=512) (hoo:∀ c∈jw o,c∈jw out\/H.size<=c)
  (hnx:next=zj8 (gV r) (zf7 r) rec names its) (hres:res=zj8 (gV r) (zf7 r) rec names (it :: its) L)
  (hrec:names.length+1<=8->∀ {w2:World}{o2:Option Addr×Nat×Nat}{D:Nod}{yp yi:Option Addr×Nat×Nat}{L2:List Fil},Bl.Store w2.heap fp p q r c->Bl.Rounds w2.heap->B<=w2.heap.size->NodM w2.heap B D yp yi->D.items.length<=65->(∀ i∈D.items,i.name.length<=16)->Mine w2.heap B qx 1 y28 (strRow (names++[it.name]))->Mine w2.heap B zn 3 o2 (L2.flatMap zb6)->L2.length<=512 ->
   qj P zcb #[.pointer (some ⟨p,0,none⟩),.agg (zfb D yp yi).toArray,.slice y28.1 y28.2.1 y28.2.2,.slice o2.1 o2.2.1 o2.2.2] w2 (zec w2.heap B o2 (rec D.items (names++[it.name]) L2))) :
  qw ((o.2.1:Int)==512) (
  zec H B out res (.returned (Value.tuple #[(Value.slice none 0 0),(Value.int .i64 8)])) w) (
  qw (decide ((y28.2.1:Int) > 8)) (
  zec H B out res (.returned (Value.tuple #[(Value.slice none 0 0),(Value.int .i64 42)])) w) (
  ldA P 32 (⟨b11,2,none⟩:Addr) w fun t40=>
  ld (.int .i64) (⟨b11,1,none⟩:Addr) w fun (t42:Int)=>
  ql P zia #[(Value.pointer (some ⟨p,0,none⟩)),(Value.agg t40),(Value.int .i64 t42)] [.any,.int .i64] true w fun (t43:(Value×Int)) w_9=>
  zat (zc P zu) zu w_9 fun b13 w_10=>
  zah P (storeVar zu (⟨b13,0,none⟩:Addr) t43.1) w_10 fun w_11=>
  qw (t43.2 != 0) (
  zec H B out res (.returned (Value.tuple #[(Value.slice none 0 0),(Value.int .i64 t43.2)])) w_11) (
  za5 w_11 fun w_12=>
  ld (.int .i64) (⟨b11,1,none⟩:Addr) w_12 fun (t52:Int)=>
  ((ql P vk #[(Value.slice y28.1 y28.2.1 y28.2.2)] [.str] false w_12 fun (t50:ByteArray) w_13=>
  ((ld (.int .i64) (⟨b11,1,none⟩:Addr) w_13 fun (t52_1:Int)=>
  (Value.int .i64 t52_1)=(Value.int .i64 t52)) /\
  zad P (Instr.build zn #[(0,(Value.string t50)),(1,(Value.bool (t52==3)))]) .any w_13 fun (t54:Value)=>
  zat (zc P zn) zn w_13 fun b15 w_14=>
  ((zad P (Instr.build zn #[(0,(Value.string t50)),(1,(Value.bool (t52==3)))]) .any w_14 fun (t54_1:Value)=>
  t54_1=t54) /\
  ((ld (.int .i64) (⟨b11,1,none⟩:Addr) w_14 fun (t52_2:Int)=>
  (Value.int .i64 t52_2)=(Value.int .i64 t52)) /\
  zah P (storeVar zn (⟨b15,0,none⟩:Addr) t54) w_14 fun w_15=>
  Go.Fw.joinP Unit (fun k_2=>
  ld .bool (⟨b15,1,none⟩:Addr) w_15 fun (t56:Bool)=>
  qw (!t56) (
  ldA P 5 (⟨b13,0,none⟩:Addr) w_15 fun t60=>
  ql P zb9 #[(Value.pointer (some ⟨p,0,none⟩)),(Value.agg t60)] [.str,.int .i64] true w_15 fun (t61:(ByteArray×Int)) w_16=>
  stC (⟨b15,2,none⟩:Addr) (Value.string t61.1) w_16 fun w_17=>
  qw (t61.2 != 0) (
  zec H B out res (.returned (Value.tuple #[(Value.slice none 0 0),(Value.int .i64 t61.2)])) w_17) (
  k_2 () w_17)) (
  k_2 () w_15)) (fun _ w_18=>
  ldA P 3 (⟨b15,0,none⟩:Addr) w_18 fun t69=>
  za2 P (Instr.buildSlice qm 1 #[(0,(Value.agg t69))]) .slc w_18 fun (t70:(Option Addr×Nat×Nat)) w_19=>
  za2 P (Builtin.append_ #[qm,qm] qm #[(Value.slice o.1 o.2.1 o.2.2),(Value.slice t70.1 t70.2.1 t70.2.2)]) .slc w_19 fun (t71:(Option Addr×Nat×Nat)) w_20=>
  ld .bool (⟨b15,1,none⟩:Addr) w_20 fun (t73:Bool)=>
  qw t73 (
  ldA P 5 (⟨b13,0,none⟩:Addr) w_20 fun t76=>
  ql P zcb #[(Value.pointer (some ⟨p,0,none⟩)),(Value.agg t76),(Value.slice y28.1 y28.2.1 y28.2.2),(Value.slice t71.1 t71.2.1 t71.2.2)] [.slc,.int .i64] true w_20 fun (t79:((Option Addr×Nat×Nat)×Int)) w_21=>
  qw (t79.2 != 0) (
  zec H B out res (.returned (Value.tuple #[(Value.slice none 0 0),(Value.int .i64 t79.2)])) w_21) (
  zmc H B out res next (t79.1.1,t79.1.2.1,t79.1.2.2) w_21)) (
  zmc H B out res next (t71.1,t71.2.1,t71.2.2) w_20)))))) /\
  (zat (zc P zn) zn w_12 fun b15_1 w_22=>
  ((ld (.int .i64) (⟨b11,1,none⟩:Addr) w_22 fun (t52_3:Int)=>
  (Value.int .i64 t52_3)=(Value.int .i64 t52)) /\
  ql P vk #[(Value.slice y28.1 y28.2.1 y28.2.2)] [.str] false w_22 fun (t50_1:ByteArray) w_23=>
  ((ld (.int .i64) (⟨b11,1,none⟩:Addr) w_23 fun (t52_4:Int)=>
  (Value.int .i64 t52_4)=(Value.int .i64 t52)) /\
  zad P (Instr.build zn #[(0,(Value.string t50_1)),(1,(Value.bool (t52==3)))]) .any w_23 fun (t54_2:Value)=>
  zah P (storeVar zn (⟨b15_1,0,none⟩:Addr) t54_2) w_23 fun w_24=>
  Go.Fw.joinP Unit (fun k_3=>
  ld .bool (⟨b15_1,1,none⟩:Addr) w_24 fun (t56_1:Bool)=>
  qw (!t56_1) (
  ldA P 5 (⟨b13,0,none⟩:Addr) w_24 fun t60_1=>
  ql P zb9 #[(Value.pointer (some ⟨p,0,none⟩)),(Value.agg t60_1)] [.str,.int .i64] true w_24 fun (t61_1:(ByteArray×Int)) w_25=>
  stC (⟨b15_1,2,none⟩:Addr) (Value.string t61_1.1) w_25 fun w_26=>
  qw (t61_1.2 != 0) (
  zec H B out res (.returned (Value.tuple #[(Value.slice none 0 0),(Value.int .i64 t61_1.2)])) w_26) (
  k_3 () w_26)) (
  k_3 () w_24)) (fun _ w_27=>
  ldA P 3 (⟨b15_1,0,none⟩:Addr) w_27 fun t69_1=>
  za2 P (Instr.buildSlice qm 1 #[(0,(Value.agg t69_1))]) .slc w_27 fun (t70_1:(Option Addr×Nat×Nat)) w_28=>
  za2 P (Builtin.append_ #[qm,qm] qm #[(Value.slice o.1 o.2.1 o.2.2),(Value.slice t70_1.1 t70_1.2.1 t70_1.2.2)]) .slc w_28 fun (t71_1:(Option Addr×Nat×Nat)) w_29=>
  ld .bool (⟨b15_1,1,none⟩:Addr) w_29 fun (t73_1:Bool)=>
  qw t73_1 (
  ldA P 5 (⟨b13,0,none⟩:Addr) w_29 fun t76_1=>
  ql P zcb #[(Value.pointer (some ⟨p,0,none⟩)),(Value.agg t76_1),(Value.slice y28.1 y28.2.1 y28.2.2),(Value.slice t71_1.1 t71_1.2.1 t71_1.2.2)] [.slc,.int .i64] true w_29 fun (t79_1:((Option Addr×Nat×Nat)×Int)) w_30=>
  qw (t79_1.2 != 0) (
  zec H B out res (.returned (Value.tuple #[(Value.slice none 0 0),(Value.int .i64 t79_1.2)])) w_30) (
  zmc H B out res next (t79_1.1.1,t79_1.1.2.1,t79_1.1.2.2) w_30)) (
  zmc H B out res next (t71_1.1,t71_1.2.1,t71_1.2.2) w_29))))))))):=by
 have hol:o.2.1=L.length:=by have:=hO.len;rw [z9b] at this;omega
 have hyl:y28.2.1=names.length+1:=by have:=hY.len;simp at this;omega
 have bad:∀ {W:World}{code:Int},res=([],code)->code≠0->Ext (jw out) H W.heap->zec H B out res (.returned (.tuple #[.slice none 0 0,.int .i64 code])) W:=by
  intro W code hr hc hxW
  refine⟨(none,0,0),by rw [hr];rfl,hxW,fun h0=>?_,by simp [jw]⟩
  rw [hr] at h0;exact absurd h0 hc
 rw [zj8] at hres
 refine zba (fun h=>?_) (fun h=>?_)
 ·exact bad (by rw [hres,if_pos (by omega)]) (by decide) hx
 rw [if_neg (by omega)] at hres
 refine zy (fun h8=>?_) (fun h8=>?_)
 ·exact bad (by rw [hres,if_pos (by omega)]) (by decide) hx
 rw [if_neg (by omega)] at hres
 refine z3s rfl h11 (by simp [zcc]) ?_
 rw [qic,Bl.zhq h32]
 refine jg (s:=.int .i64) (t:=it.kind) rfl h11 rfl ?_
 refine zh (z4a (k:=it.sum) (kind:=it.kind) rfl hS h32 hR (hlen it.sum)) ?_
 rintro e w9 ⟨yp,yi,rfl,hN9,hx9⟩
 refine⟨(.agg (zfb (gV r it.sum it.kind).1 yp yi).toArray,(gV r it.sum it.kind).2),rfl,?_⟩
 have hit:=zyg (v:=Bl.zcq r it.sum) (k:=it.sum) (kind:=it.kind)
 change NodM w9.heap w.heap.size (gV r it.sum it.kind).1 yp yi at hN9
 change (gV r it.sum it.kind).1.items.length<=65/\(∀ i∈(gV r it.sum it.kind).1.items,i.name.length<=16)/\(gV r it.sum it.kind).1.size<=1025/\0<=(gV r it.sum it.kind).1.size/\(gV r it.sum it.kind).1.parts.length<=65536 at hit
 generalize gV r it.sum it.kind=D at *
 refine qe3 D.1 yp yi rfl fun w11 hw11=>?_
 have hx11:Ext [] w9.heap w11.heap:=by rw [hw11];exact .push _
 have h13:w11.heap[w9.heap.size]?=some (.cells (zfb D.1 yp yi).toArray zu (0,0)):=by rw [hw11];exact zk
 have hxw11:=hx9.trans hx11
 have sH:=hx.1
 have s9:=hx9.1
 refine zbr (fun h=>?_) (fun h=>?_)
 ·have h:D.2≠0:=h
  exact bad (by rw [hres,if_pos h]) h (hx.trans (hxw11.mono (by simp)))
 have h:D.2=0:=h
 rw [if_neg (by simpa using h)] at hres
 refine vw rfl fun w12 hw12=>?_
 rw [<-hw12] at hx11 hxw11 h13
 have k11:=hxw11.get h11 (by simp)
 refine jg (s:=.int .i64) (t:=it.kind) rfl k11 rfl ?_
 have tail:∀ {w15:World}{b15:Nat},Ext [] w12.heap w15.heap->w12.heap.size<=b15->w15.heap[b15]?=some (.cells (zb6 ⟨x9 (names++[it.name]),it.kind==3,[]⟩).toArray zn (0,0))->Go.Fw.joinP Unit (fun k_2=>
  ld .bool (⟨b15,1,none⟩:Addr) w15 fun (t56:Bool)=>
  qw (!t56) (
  ldA P 5 (⟨w9.heap.size,0,none⟩:Addr) w15 fun t60=>
  ql P zb9 #[(Value.pointer (some ⟨p,0,none⟩)),(Value.agg t60)] [.str,.int .i64] true w15 fun (t61:(ByteArray×Int)) w_16=>
  stC (⟨b15,2,none⟩:Addr) (Value.string t61.1) w_16 fun w_17=>
  qw (t61.2 != 0) (
  zec H B out res (.returned (Value.tuple #[(Value.slice none 0 0),(Value.int .i64 t61.2)])) w_17) (
  k_2 () w_17)) (
  k_2 () w15)) (fun _ w_18=>
  ldA P 3 (⟨b15,0,none⟩:Addr) w_18 fun t69=>
  za2 P (Instr.buildSlice qm 1 #[(0,(Value.agg t69))]) .slc w_18 fun (t70:(Option Addr×Nat×Nat)) w_19=>
  za2 P (Builtin.append_ #[qm,qm] qm #[(Value.slice o.1 o.2.1 o.2.2),(Value.slice t70.1 t70.2.1 t70.2.2)]) .slc w_19 fun (t71:(Option Addr×Nat×Nat)) w_20=>
  ld .bool (⟨b15,1,none⟩:Addr) w_20 fun (t73:Bool)=>
  qw t73 (
  ldA P 5 (⟨w9.heap.size,0,none⟩:Addr) w_20 fun t76=>
  ql P zcb #[(Value.pointer (some ⟨p,0,none⟩)),(Value.agg t76),(Value.slice y28.1 y28.2.1 y28.2.2),(Value.slice t71.1 t71.2.1 t71.2.2)] [.slc,.int .i64] true w_20 fun (t79:((Option Addr×Nat×Nat)×Int)) w_21=>
  qw (t79.2 != 0) (
  zec H B out res (.returned (Value.tuple #[(Value.slice none 0 0),(Value.int .i64 t79.2)])) w_21) (
  zmc H B out res next (t79.1.1,t79.1.2.1,t79.1.2.2) w_21)) (
  zmc H B out res next (t71.1,t71.2.1,t71.2.2) w_20)):=by
  intro w15 b15 hx15 hb15 h15
  have hx015:=hxw11.trans hx15
  have s12:=hxw11.1
  refine qh5 (rec:=rec) (names':=names++[it.name]) (d:=it.kind==3) (D:=D.1) (L:=L) (hS.ext hx015 (by simp)) (hR.ext hx015 (by simp)) hfp hB0 hBs hlen (hx.trans (hx015.mono (by simp))) (hx15.get h13 (by simp)) h15 (by omega) (by omega)
   (fun hc=>by have:=(zgt hO _ hc).1;omega) (fun hc=>by have:=(zgt hO _ hc).1;omega) (((hN9.ext hx11 (by simp)).ext hx15 (by simp)).mono (by omega)) hit.2.2.2.2 hit.2.2.2.1 hit.2.2.1 (hY.ext hx015 (by simp)) (hO.ext hx015 (by simp)) (by omega) hoo ?_ ?_ ?_
  ·intro hd
   have hd:it.kind=3:=by simpa using hd
   rw [hres,if_pos hd,hnx]
  ·intro hd
   have hd:it.kind≠3:=by simpa using hd
   rw [hres,if_neg hd,hnx]
  ·intro _ w2 o2 hx2 hm2 ho2 hD2 hY2
   have hx12:=hx015.1
   refine hrec (by omega) ((hS.ext hx015 (by simp)).ext hx2 fun b hb h=>?_) ((hR.ext hx015 (by simp)).ext hx2 fun h=>?_) (by have:=hx2.1;omega) hD2 hit.1 hit.2.1 hY2 hm2 (by simp;omega)
   ·have:=jo hO b h;have:=hfp b hb;omega
   ·have:=jo hO 1 h;omega
 have re:∀ {W':World},Ext [] w12.heap W'.heap->ld (.int .i64) (⟨b11,1,none⟩:Addr) W' fun z=>Value.int .i64 z=Value.int .i64 it.kind:=fun h=>jg (s:=.int .i64) (o:=1) (t:=it.kind) (K:=fun z=>Value.int .i64 z=Value.int .i64 it.kind) rfl (h.get k11 (by simp)) rfl rfl
 have hb:∀ W,(Instr.build zn #[(0,.string (strOf (x9 (names++[it.name])))),(1,.bool (it.kind==3))]).run P W=.ok (.agg (zb6 ⟨x9 (names++[it.name]),it.kind==3,[]⟩).toArray) W:=fun W=>bFd _ _ W
 have hY12:=hY.ext hxw11 (by simp)
 have hyl2:y28.2.1=(names++[it.name]).length:=by simp;omega
 refine⟨?_,?_⟩
 ·refine zh (zgg (p:=names++[it.name]) rfl hY12.cells hyl2 (zhi hY12) hsm) ?_
  rintro e w13 ⟨rfl,hx13⟩
  refine⟨strOf (x9 (names++[it.name])),rfl,re hx13,?_⟩
  refine qc (s:=.any) _ (hb _) ?_
  refine ji rfl fun w14 hw14=>?_
  have hx14:Ext [] w13.heap w14.heap:=by rw [hw14];exact .push _
  have h14:w14.heap[w13.heap.size]?=some (.cells (zc P zn) zn (0,0)):=by rw [hw14];exact zk
  refine⟨qc (s:=.any) _ (hb _) rfl,re (hx13.trans hx14),?_⟩
  refine stF ⟨x9 (names++[it.name]),it.kind==3,[]⟩ rfl h14 zcF fun w15 hw15=>?_
  have s13:=hx13.1
  have hx15:Ext [w13.heap.size] w14.heap w15.heap:=by rw [hw15];exact Ext.set _ (by simp)
  exact tail ((hx13.trans hx14).own hx15 (fun c hc hlt=>by simp at hc;omega)) s13 (by rw [hw15];exact qy h14)
 ·refine ji rfl fun w22 hw22=>?_
  have hx22:Ext [] w12.heap w22.heap:=by rw [hw22];exact .push _
  have h22:w22.heap[w12.heap.size]?=some (.cells (zc P zn) zn (0,0)):=by rw [hw22];exact zk
  refine⟨re hx22,?_⟩
  have hY22:=hY12.ext hx22 (by simp)
  refine zh (zgg (p:=names++[it.name]) rfl hY22.cells hyl2 (zhi hY22) hsm) ?_
  rintro e w23 ⟨rfl,hx23⟩
  refine⟨strOf (x9 (names++[it.name])),rfl,re (hx22.trans hx23),?_⟩
  refine qc (s:=.any) _ (hb _) ?_
  have h23:=hx23.get h22 (by simp)
  refine stF ⟨x9 (names++[it.name]),it.kind==3,[]⟩ rfl h23 zcF fun w24 hw24=>?_
  have hx24:Ext [w12.heap.size] w23.heap w24.heap:=by rw [hw24];exact Ext.set _ (by simp)
  exact tail ((hx22.trans hx23).own hx24 (fun c hc hlt=>by simp at hc;omega)) (Nat.le_refl _) (by rw [hw24];exact qy h23)
set_option maxHeartbeats 8000000 in
theorem qjr {fp:List Nat}{p:Nat}{q:Int}{r:Bl.SM}{c:Nat}{B:Nat}(hfp:∀ b∈fp,b < B) (hB0:1 < B) (hlen:∀ k L,Bl.zcq r k=some L->L.length < 1099511627776):∀ (f:Nat){w:World}{H:Heap}{n:Nod}{xp xi nx out:Option Addr×Nat×Nat}{names:Path}{L:List Fil},w.heap=H->Bl.Store H fp p q r c->Bl.Rounds H->B<=H.size->NodM H B n xp xi->n.items.length<=65->(∀ i∈n.items,i.name.length<=16) ->
  Mine H B qx 1 nx (strRow names)->(∀ x∈names,x.length<=16)->names.length+f=9->names.length<=8->Mine H B zn 3 out (L.flatMap zb6)->L.length<=512 ->
  qj P zcb #[.pointer (some ⟨p,0,none⟩),.agg (zfb n xp xi).toArray,.slice nx.1 nx.2.1 nx.2.2,.slice out.1 out.2.1 out.2.2] w (zec H B out (zo3 (gV r) (zf7 r) f n.items names L)):=by
 intro f
 induction f with
 | zero=>intro w H n xp xi nx out names L _ _ _ _ _ _ _ _ _ h1 h2 _ _;omega
 | succ f ih=>
 intro w H n xp xi nx out names L hw hS hR hBs hN hil hinm hM hnm hf h8 hO hL
 refine z1z ?_
 unfold zv7
 refine ji hw fun w1 hw1=>?_
 have hx1:Ext [] H w1.heap:=by rw [hw1];exact .push _
 have hb1:w1.heap[H.size]?=some (.cells (zfb n xp xi).toArray zu (0,0)):=by rw [hw1];exact zk
 have s1:=lt_of_get hb1
 refine jg (s:=.slc) (t:=xi) rfl hb1 rfl ?_
 have hxil:xi.2.1=n.items.length:=hN.nodW.ilen
 rw [zo3]
 generalize hrs:zj8 (gV r) (zf7 r) (zo3 (gV r) (zf7 r) f) names n.items L=res
 refine zae (fun (s:(Option Addr×Nat×Nat)×Int) W=>∃ (i:Nat) (Lc:List Fil),s.2=(i:Int)/\i<=n.items.length/\zj8 (gV r) (zf7 r) (zo3 (gV r) (zf7 r) f) names (n.items.drop i) Lc=res/\Ext (jw out) H W.heap/\Mine W.heap B zn 3 s.1 (Lc.flatMap zb6)/\Lc.length<=512/\(∀ c∈jw s.1,c∈jw out\/H.size<=c)) (fun s _=>(n.items.length-s.2).toNat)
  ⟨0,L,rfl,Nat.zero_le _,hrs,hx1.mono (by simp),hO.ext hx1 (by simp),hL,fun c hc=>.inl hc⟩ ?_
 rintro ⟨o,_⟩ W ⟨i,Lc,rfl,hi,hres,hx,hmo,hLc,hoo⟩
 simp only at hmo hoo
 have sW:=hx.1
 refine zy (fun hlt=>?_) (fun hge=>?_)
 ·have hilt:i < n.items.length:=by simp only at hlt;omega
  have hget:=List.getElem?_eq_getElem hilt
  have hmem:n.items[i]∈n.items:=List.getElem_mem hilt
  rw [List.drop_eq_getElem_cons hilt] at hres
  generalize n.items[i]=it at hget hmem hres
  have h32:=hN.i32 _ hmem
  have h16:=hinm _ hmem
  refine Go.Fw.joinP_of (zmc H B out res (zj8 (gV r) (zf7 r) (zo3 (gV r) (zf7 r) f) names (n.items.drop (i+1)))) ?_ ?_
  rotate_left
  ·rintro s' W' ⟨L',g1,g2,g3,g4,g5⟩
   refine jr ((i+1:Nat):Int) (by simp) (by omega) (by omega) ?_
   exact⟨⟨i+1,L',rfl,by omega,g1,g2,g3,g4,g5⟩,by simp only;omega⟩
  have hNW:=hN.items.ext hx (zf0 hN.items hO (by decide))
  have hMW:=hM.ext hx (zf0 hM hO (by decide))
  have hSW:=hS.ext hx (fun b hb h=>by have:=jo hO b h;have:=hfp b hb;omega)
  have hRW:=hR.ext hx (fun h=>by have:=jo hO 1 h;omega)
  refine zff (i:=i) zcc (by omega) rfl hNW.cells hxil hget rfl ?_
  refine qj5 it rfl fun w4 hw4=>?_
  have hx4:Ext [] W.heap w4.heap:=by rw [hw4];exact .push _
  have hb4:w4.heap[W.heap.size]?=some (.cells (zh3 it).toArray jl (0,0)):=by rw [hw4];exact zk
  refine vw rfl fun w5 hw5=>?_
  rw [<-hw5] at hx4 hb4
  have s4:=hx4.1
  refine jg (s:=.str) (t:=strOf it.name) rfl hb4 rfl ?_
  have hM5:=hMW.ext hx4 (by simp)
  have hsm:tlen (names++[it.name])+(names++[it.name]).length<=1099511627776:=by
   have:∀ (l:Path),(∀ x∈l,x.length<=16)->tlen l<=16 * l.length:=by
    intro l
    induction l with
    | nil=>intro _;simp [tlen]
    | cons x l ihl=>
     intro h
     have h1:=h x (by simp)
     have h2:=ihl fun y hy=>h y (by simp [hy])
     simp only [tlen,List.map_cons,List.sum_cons,List.length_cons] at *
     omega
   have h2:=this (names++[it.name]) (fun x hx=>by
    rcases List.mem_append.1 hx with h | h
    ·exact hnm x h
    ·simp at h;subst h;exact h16)
   simp only [List.length_append,List.length_singleton] at *
   omega
  have mid:∀ {w8:World}{y28:Option Addr×Nat×Nat},Ext [] w5.heap w8.heap->Mine w8.heap B qx 1 y28 (strRow (names++[it.name]))->Bl.Store w8.heap fp p q r c->True:=fun _ _ _=>trivial
  have hyp:∀ {w8:World},Ext [] w5.heap w8.heap->Ext (jw out) H w8.heap:=fun h=>hx.trans ((hx4.trans h).mono (by simp))
  have recur:∀ {y28:Option Addr×Nat×Nat},names.length+1<=8->∀ {w2:World}{o2:Option Addr×Nat×Nat}{D:Nod}{yp yi:Option Addr×Nat×Nat}{L2:List Fil},Bl.Store w2.heap fp p q r c->Bl.Rounds w2.heap->B<=w2.heap.size->NodM w2.heap B D yp yi->D.items.length<=65->(∀ i∈D.items,i.name.length<=16)->Mine w2.heap B qx 1 y28 (strRow (names++[it.name]))->Mine w2.heap B zn 3 o2 (L2.flatMap zb6)->L2.length<=512 ->
   qj P zcb #[.pointer (some ⟨p,0,none⟩),.agg (zfb D yp yi).toArray,.slice y28.1 y28.2.1 y28.2.2,.slice o2.1 o2.2.1 o2.2.2] w2 (zec w2.heap B o2 (zo3 (gV r) (zf7 r) f D.items (names++[it.name]) L2)):=by
   intro y28 hl8 w2 o2 D yp yi L2 a1 a2 a3 a4 a5 a6 a7 a8 a9
   exact ih rfl a1 a2 a3 a4 a5 a6 a7 (fun x hx=>by
    rcases List.mem_append.1 hx with h | h
    ·exact hnm x h
    ·simp at h;subst h;exact h16) (by simp;omega) (by simp;omega) a8 a9
  refine⟨?_,?_⟩
  ·refine zh (zzc rfl hM5 (by omega)) ?_
   rintro e w6 ⟨y,rfl,hm6,hx6⟩
   refine⟨y,rfl,jg (s:=.str) (o:=0) (t:=strOf it.name) (K:=fun z=>Value.string z=Value.string (strOf it.name)) rfl (hx6.get hb4 (by simp)) rfl rfl,?_⟩
   refine z9u it.name rfl fun a7 w7 hx7 hc7=>?_
   refine qhi (ys:=[it.name]) rfl (hm6.ext hx7 (by simp)) (by have:=hx7.1;have:=hx6.1;omega) hc7 rfl (by simp;omega) fun y28 w8 hm8 hx8=>?_
   have g6:=jo hm6
   have hx58:Ext [] w5.heap w8.heap:=(hx6.trans hx7).own hx8 (fun c hc hlt=>by have:=g6 c hc;omega)
   have hxW8:=hx4.trans hx58
   exact qjo (rec:=zo3 (gV r) (zf7 r) f) (names:=names) (it:=it) (its:=n.items.drop (i+1)) (L:=Lc) (hSW.ext hxW8 (by simp)) (hRW.ext hxW8 (by simp)) hfp hB0 hBs hlen (hyp hx58) (hx58.get hb4 (by simp)) h32 (fun hc=>by have:=(zgt hmo _ hc).1;omega) hsm (hm8.mono (by omega)) (hmo.ext hxW8 (by simp)) hLc hoo rfl hres.symm recur
  ·refine z9u it.name rfl fun a7 w7 hx7 hc7=>?_
   refine zh (zzc rfl (hM5.ext hx7 (by simp)) (by omega)) ?_
   rintro e w6 ⟨y,rfl,hm6,hx6⟩
   refine⟨y,rfl,jg (s:=.str) (o:=0) (t:=strOf it.name) (K:=fun z=>Value.string z=Value.string (strOf it.name)) rfl ((hx7.trans hx6).get hb4 (by simp)) rfl rfl,?_⟩
   refine qhi (ys:=[it.name]) rfl hm6 (by have:=hx6.1;omega) (hc7.ext hx6 (by simp)) rfl (by simp;omega) fun y28 w8 hm8 hx8=>?_
   have g6:=jo hm6
   have s7:=hx7.1
   have hx58:Ext [] w5.heap w8.heap:=(hx7.trans hx6).own hx8 (fun c hc hlt=>by have:=g6 c hc;omega)
   have hxW8:=hx4.trans hx58
   exact qjo (rec:=zo3 (gV r) (zf7 r) f) (names:=names) (it:=it) (its:=n.items.drop (i+1)) (L:=Lc) (hSW.ext hxW8 (by simp)) (hRW.ext hxW8 (by simp)) hfp hB0 hBs hlen (hyp hx58) (hx58.get hb4 (by simp)) h32 (fun hc=>by have:=(zgt hmo _ hc).1;omega) hsm (hm8.mono (by omega)) (hmo.ext hxW8 (by simp)) hLc hoo rfl hres.symm recur
 ·obtain rfl:i=n.items.length:=by simp only at hge;omega
  rw [List.drop_length,zj8] at hres
  exact⟨o,by rw [<-hres];rfl,hx,fun _=>by rw [<-hres];exact⟨hmo,hLc⟩,hoo⟩
def zj3 (r:Bl.SM) (root:List UInt8):List Fil×Int:=if (gV r root 3).2≠0 then ([],(gV r root 3).2) else zo3 (gV r) (zf7 r) 9 (gV r root 3).1.items [] []
set_option maxHeartbeats 2000000 in
theorem qf3 {w:World}{H:Heap}{fp:List Nat}{p:Nat}{q:Int}{r:Bl.SM}{c:Nat}{root:List UInt8}(hw:w.heap=H) (hS:Bl.Store H fp p q r c) (hR:Bl.Rounds H) (hfp:∀ b∈fp,b < H.size) (h32:root.length=32) (hlen:∀ k L,Bl.zcq r k=some L->L.length < 1099511627776) :
  qj P zqh #[.pointer (some ⟨p,0,none⟩),arr root] w fun e w'=>∃ x',e=.returned (.tuple #[zdr x',.int .i64 (zj3 r root).2])/\Ext [] H w'.heap/\((zj3 r root).2=0->Mine w'.heap H.size zn 3 x' ((zj3 r root).1.flatMap zb6)):=by
 have hH0:1 < H.size:=by obtain⟨_,_,_,h,_⟩:=hR;exact lt_of_get h
 refine z0v ?_
 unfold zv3
 rw [show (arr root).cells=(byteCells root).toArray from rfl]
 refine ji hw fun w1 hw1=>?_
 have hx1:Ext [] H w1.heap:=by rw [hw1];exact .push _
 have hb1:w1.heap[H.size]?=some (.cells (byteCells root).toArray zf (0,0)):=by rw [hw1];exact zk
 have s1:=lt_of_get hb1
 refine qp rfl ?_
 refine xw rfl hb1 (by simp [h32]) ?_
 refine zh (z4a (k:=root) (kind:=3) rfl (hS.ext hx1 (by simp)) h32 (hR.ext hx1 (by simp)) (hlen root)) ?_
 rintro e w2 ⟨yp,yi,rfl,hN2,hx2⟩
 refine⟨(.agg (zfb (gV r root 3).1 yp yi).toArray,(gV r root 3).2),rfl,?_⟩
 have hit:=zyg (v:=Bl.zcq r root) (k:=root) (kind:=3)
 have hN2:NodM w2.heap w1.heap.size (gV r root 3).1 yp yi:=hN2
 have hit1:(gV r root 3).1.items.length<=65:=hit.1
 have hit2:∀ i∈(gV r root 3).1.items,i.name.length<=16:=hit.2.1
 unfold zj3
 generalize gV r root 3=D at *
 refine qe3 D.1 yp yi rfl fun w4 hw4=>?_
 have hx4:Ext [] w2.heap w4.heap:=by rw [hw4];exact .push _
 have hb4:w4.heap[w2.heap.size]?=some (.cells (zfb D.1 yp yi).toArray zu (0,0)):=by rw [hw4];exact zk
 have hx04:=(hx1.trans hx2).trans hx4
 refine zbr (fun h=>?_) (fun h=>?_)
 ·have h:D.2≠0:=h
  rw [if_pos h]
  exact⟨(none,0,0),rfl,hx04,fun h0=>absurd h0 h⟩
 have h:D.2=0:=h
 rw [if_neg (by simpa using h)]
 refine xw rfl hb4 rfl ?_
 have s2:=hx2.1
 refine zh (qjr (B:=H.size) (nx:=(none,0,0)) (out:=(none,0,0)) (names:=[]) (L:=[]) hfp hH0 hlen 9 rfl (hS.ext hx04 (by simp)) (hR.ext hx04 (by simp)) hx04.1 ((hN2.ext hx4 (by simp)).mono (by omega)) hit1 hit2 (.inl ⟨rfl,rfl⟩) (by simp) rfl (by simp) (.inl ⟨rfl,rfl⟩) (by simp)) ?_
 rintro e w5 ⟨x',rfl,hx5,hres,_⟩
 refine⟨(x',_),rfl,?_⟩
 exact⟨x',rfl,hx04.trans (hx5.mono (by simp [jw])),fun h0=>(hres h0).1⟩
end Go.Proofs.YthaaekcaaecdeaaGreatDoor
namespace Go.Proofs.YthaaekcaaecdeaaGreatDoor
open Go Go.Fw Go.Proofs Go.Sort
end Go.Proofs.YthaaekcaaecdeaaGreatDoor
namespace Go.Proofs.YthaaekcaaecdeaaGreatDoor
open Go Go.Fw Go.Proofs Go.Sort
structure Seat where
 cl:Int
 nu:Int
 tm:Int
 kept:Bool
 rep:List UInt8
def encS (s:Seat):List Value:=[.int .i64 s.cl,.int .i64 s.nu,.int .i64 s.tm,.bool s.kept,.string (strOf s.rep)]
@[simp] theorem qkc (s:Seat):(encS s).length=5:=rfl
def qn8 (room:Int) (S:List Seat):Array Value:=(.int .i64 room :: S.flatMap encS).toArray
structure TabW (H:Heap) (t:Nat) (room:Int) (S:List Seat):Prop where
 cell:H[t]?=some (.cells (qn8 room S) zv4 (0,0))
 len:S.length=8
theorem bUn (u:Option Addr) (w:World):(Instr.build zcw #[(1,.pointer u)]).run P w=.ok (.agg #[.slice none 0 0,.pointer u]) w:=by kernel_rfl
theorem qiz {w:World}{H:Heap}{m:Nat}{Ly:List Fil}{f:Fil}(hw:w.heap=H) (hm:qau H m Ly) (hf:zoz Ly f.path=none){K:World->Prop}(hK:∀ w',qau w'.heap m (Ly++[f])->Ext [m] H w'.heap->K w') :
  zah P (Instr.mapUpdate zca (.map (some m)) (.string (strOf f.path)) (qd0 f)) w K:=by
 obtain⟨M,c,h1,h2,h3,h4⟩:=hm
 have hg:zc6 M f.path=none:=by rw [zl7 h2 h3 h4];exact hf
 refine zm1 _ (zjn (ev:=qd0) z0j uLm hw h1 h2 (k:=f.path) trivial f rfl) ?_
 refine hK _ ⟨zl9 M f.path f c,zqn M f.path c,?_,h2.upd trivial f,?_,?_⟩ (Ext.set _ (by simp))
 ·exact qy h1
 ·rw [zho hg,List.map_append];exact h3.append_right _
 ·intro x hx
  rcases zkc hx with⟨h5,h6⟩ | ⟨_,h6⟩
  ·rw [h5,h6]
  ·exact h4 x h6
theorem qd8 {S:List Fil}(hn:(S.map (·.path)).Nodup){i:Nat}{f:Fil}(hf:S[i]?=some f):zoz (S.take i) f.path=none:=by
 refine z3e fun g hg e=>?_
 obtain⟨j,hj,hgj⟩:=List.mem_iff_getElem.1 hg
 rw [List.length_take] at hj
 rw [List.getElem_take] at hgj
 obtain⟨hi,hf⟩:=List.getElem?_eq_some_iff.1 hf
 rw [List.Nodup,List.pairwise_iff_getElem] at hn
 have:=hn j i (by simp;omega) (by simpa using hi) (by omega)
 simp only [List.getElem_map,hgj,hf] at this
 exact this e
theorem uSl:P.underlying zfq=some (.slice zca):=by kernel_rfl
theorem Ely:Elem P zca 1 8:=zii (z:=.map none) (by kernel_rfl) rfl
def zu4 (r:Bl.SM) (Ds:List (List UInt8)):Int:=((Ds.map fun d=>(zj3 r d).2).find? fun c=>c != 0).getD 0
def qgp (r:Bl.SM) (Ds:List (List UInt8)):List (List Fil):=Ds.map fun d=>(zj3 r d).1
theorem qfo {w:World}{s u a:Option Addr}{n nc:Nat}(h:s=none\/u=none):qj P zev #[.pointer s,.slice a n nc,.pointer u] w fun e w'=>e=.returned (.tuple #[.pointer none,.int .i64 7])/\w'=w:=by
 refine zn1 ?_
 unfold zmo
 refine joinP_of (fun b W=>b=true/\W=w) ?_ ?_
 ·cases s with
  | none=>exact jh rfl ⟨rfl,rfl⟩
  | some s=>
   obtain rfl:u=none:=by rcases h with h | h;cases h;exact h
   exact qp rfl ⟨rfl,rfl⟩
 rintro _ W ⟨rfl,rfl⟩
 exact jh rfl ⟨rfl,rfl⟩
theorem qf2 {w:World}{s u:Addr}{a:Option Addr}{n nc:Nat}(h:4 < n):qj P zev #[.pointer (some s),.slice a n nc,.pointer (some u)] w fun e w'=>e=.returned (.tuple #[.pointer none,.int .i64 8])/\w'=w:=by
 refine zn1 ?_
 unfold zmo
 refine jf ?_
 refine qp rfl ?_
 refine qp rfl ?_
 exact zy (fun _=>⟨rfl,rfl⟩) (fun h'=>absurd h' (by omega))
theorem z8v {r:Bl.SM}{Ds:List (List UInt8)}{i:Nat}{d:List UInt8}(hp:∀ x∈Ds.take i,(zj3 r x).2=0) (hd:Ds[i]?=some d) (h:(zj3 r d).2≠0):zu4 r Ds=(zj3 r d).2:=by
 obtain⟨hi,hd⟩:=List.getElem?_eq_some_iff.1 hd
 unfold zu4
 rw [<-List.take_append_drop i Ds,List.map_append,List.find?_append,List.find?_eq_none.2 ?_,List.drop_eq_getElem_cons hi,hd]
 ·simp [h]
 ·intro x hx
  obtain⟨y,hy,rfl⟩:=List.mem_map.1 hx
  simp [hp y hy]
theorem ztd {r:Bl.SM}{Ds:List (List UInt8)}(hp:∀ x∈Ds,(zj3 r x).2=0):zu4 r Ds=0:=by
 unfold zu4
 rw [List.find?_eq_none.2 (by simpa using hp)];rfl
set_option maxHeartbeats 8000000 in
theorem z4y {w:World}{H:Heap}{fp:List Nat}{sp:Nat}{qt:Int}{r:Bl.SM}{c:Nat}{p m:Nat}{nn bb:Int}{L:List Ino}{a:Option Addr}{n nc:Nat}{Ds:List (List UInt8)}(hw:w.heap=H) (hS:Bl.Store H fp sp qt r c) (hR:Bl.Rounds H) (hfp:∀ b∈fp,b < H.size) (hU:Up H p m nn bb L)
  (hD:Cells H a (Ds.flatMap Bl.zd7)) (hn:n=Ds.length) (h4:Ds.length<=4) (h32:∀ d∈Ds,d.length=32) (hlen:∀ k L,Bl.zcq r k=some L->L.length < 1099511627776) (hnd:∀ d∈Ds,((zj3 r d).1.map (·.path)).Nodup/\(zj3 r d).1.length<=1000000) :
  qj P zev #[.pointer (some ⟨sp,0,none⟩),.slice a n nc,.pointer (some ⟨p,0,none⟩)] w fun e w'=>Ext [] H w'.heap/\((zu4 r Ds≠0/\e=.returned (.tuple #[.pointer none,.int .i64 (zu4 r Ds)])) \/
   (zu4 r Ds=0/\∃ u p' m',e=.returned (.tuple #[.pointer (some ⟨u,0,none⟩),.int .i64 0])/\zw6 w'.heap u p' m' nn bb (qgp r Ds) L/\H.size<=u/\H.size<=p'/\H.size<=m')):=by
 refine zn1 ?_
 unfold zmo
 refine jf ?_
 refine qp rfl ?_
 refine qp rfl ?_
 refine zy (fun h=>absurd h (by omega)) (fun _=>?_)
 refine zh (zsn hw hU) ?_
 rintro e w2 ⟨p',m',rfl,hU2,hx2,hp',hm'⟩
 refine⟨_,rfl,?_⟩
 refine qc (s:=.any) _ (bUn _ _) ?_
 refine ji rfl fun w3 hw3=>?_
 obtain⟨u,hu⟩:∃ u,u=w2.heap.size:=⟨_,rfl⟩
 rw [<-hu]
 have hx3:Ext [] w2.heap w3.heap:=by rw [hw3];exact .push _
 have hx03:=hx2.trans hx3
 have hus:H.size<=u:=by rw [hu];exact hx2.1
 have hU3:=hU2.ext hx3 (by simp) (by simp)
 have h3:w3.heap[u]?=some (.cells #[zdr (none,0,0),upP p'] zcw (0,0)):=by rw [hw3,hu];exact zk
 have hu3:=lt_of_get h3
 refine zb3 (fun k s W=>∃ (i:Nat) (x:Option Addr×Nat×Nat) (ms:List Nat),s=(i:Int)/\k+i=Ds.length/\(∀ d∈Ds.take i,(zj3 r d).2=0)/\W.heap[u]?=some (.cells #[zdr x,upP p'] zcw (0,0))/\Mine W.heap H.size zca 1 x (ms.map qcq)/\u∉jw x/\ms.length=i /\
   (∀ j m,ms[j]?=some m->qau W.heap m ((qgp r Ds).getD j []))/\Up W.heap p' m' nn bb L/\Ext [] H W.heap) Ds.length
  ⟨0,(none,0,0),[],rfl,rfl,by simp,h3,.inl ⟨rfl,rfl⟩,by simp [jw],rfl,by simp,hU3,hx03⟩ ?_
 rintro k s W ⟨i,x,ms,rfl,hk,hok,hg,hM,hux,hml,hms,hUW,hx⟩ Q hQ
 refine zy (fun h=>?_) (fun h=>?_)
 rotate_left
 ·have hi:i=Ds.length:=by omega
  rw [hi,List.take_length] at hok
  have hxl:=hM.len
  refine⟨hx,.inr ⟨ztd hok,u,p',m',rfl,⟨⟨x,ms,hg,hM.cells,by simpa using hxl.symm,by rw [hml,hi];simp [qgp],hms⟩,hUW⟩,hus,hp',hm'⟩⟩
 have hi:i < Ds.length:=by omega
 obtain⟨d,hd⟩:∃ d,d=Ds[i]:=⟨_,rfl⟩
 have hdi:Ds[i]?=some d:=by rw [hd];exact List.getElem?_eq_getElem hi
 have hdD:d∈Ds:=by rw [hd];exact List.getElem_mem hi
 have hd32:=h32 d hdD
 refine zff (i:=i) Bl.zck (by omega) rfl (hD.ext hx (by simp)) hn hdi rfl ?_
 rw [Bl.zhq hd32]
 refine qhp hd32 rfl fun w5 hw5=>?_
 have hx5:Ext [] W.heap w5.heap:=by rw [hw5];exact .push _
 have hb5:w5.heap[W.heap.size]?=some (.cells (byteCells d).toArray zf (0,0)):=by rw [hw5];exact zk
 refine xw rfl hb5 (by simp [hd32]) ?_
 have hx05:=hx.trans hx5
 have s5:=hx05.1
 refine zh (qf3 (root:=d) rfl (hS.ext hx05 (by simp)) (hR.ext hx05 (by simp)) (fun b hb=>by have:=hfp b hb;omega) hd32 hlen) ?_
 rintro e w7 ⟨y,rfl,hx7,hY⟩
 refine⟨(y,(zj3 r d).2),rfl,?_⟩
 have hx07:=hx05.trans hx7
 refine zbr (fun h=>?_) (fun h=>?_)
 ·have h:(zj3 r d).2≠0:=h
  have hc:=z8v hok hdi h
  exact⟨hx07,.inl ⟨by rw [hc];exact h,by rw [hc]⟩⟩
 have h0w:(zj3 r d).2=0:=h
 have hY:=hY h0w
 obtain⟨hnd1,hsm⟩:=hnd d hdD
 obtain⟨S,hSd⟩:∃ S,S=(zj3 r d).1:=⟨_,rfl⟩
 rw [<-hSd] at hY hnd1 hsm
 have hyl:y.2.1=S.length:=by have:=hY.len;rw [z9b] at this;omega
 obtain⟨mk,hmk⟩:∃ mk,mk=w7.heap.size:=⟨_,rfl⟩
 refine zaf (s:=.map) (some w7.heap.size) _ (zkd rfl) ?_
 rw [<-hmk]
 have hxW7:=hx5.trans hx7
 have hmkn:({ w7 with heap:=w7.heap.push (.map #[] 0) }:World).heap[mk]?=some (.map #[] 0):=by rw [hmk];exact zk
 refine zb3 (fun k s W'=>∃ j:Nat,s=(j:Int)/\k+j=S.length/\qau W'.heap mk (S.take j)/\Ext [] w7.heap W'.heap/\mk < W'.heap.size) S.length ⟨0,rfl,rfl,⟨[],0,hmkn,.nil,by simp,by simp⟩,.push _,lt_of_get hmkn⟩ ?_
 rintro k' s W' ⟨j,rfl,hk',hML,hxW',hmlt⟩ Q' hQ'
 refine zy (fun h=>?_) (fun h=>?_)
 ·have hj:j < S.length:=by simp only at h;omega
  have hfj:=List.getElem?_eq_getElem hj
  have hno:=qd8 hnd1 hfj
  have htk:S.take (j+1)=S.take j++[S[j]]:=by rw [List.take_succ_eq_append_getElem hj]
  generalize S[j]=f at hfj hno htk
  refine zff (enc:=zb6) zdz (by omega) rfl (hY.ext hxW' (by simp)).cells hyl hfj rfl ?_
  refine qhj f rfl fun w8 hw8=>?_
  have hx8:Ext [] W'.heap w8.heap:=by rw [hw8];exact .push _
  have hb8:w8.heap[W'.heap.size]?=some (.cells (zb6 f).toArray zn (0,0)):=by rw [hw8];exact zk
  refine jg (s:=.str) (t:=strOf f.path) rfl hb8 rfl ?_
  refine xw rfl hb8 rfl ?_
  refine qiz rfl (hML.ext hx8 (by simp)) hno fun w9 hM9 hx9=>?_
  refine jr ((j+1:Nat):Int) (by omega) (by omega) (by omega) ?_
  have s8:=hx8.1
  have s9:=hx9.1
  have sW:=hxW'.1
  refine hQ' (k'-1) _ _ (by omega) ⟨j+1,rfl,by omega,by rw [htk];exact hM9,(hxW'.trans hx8).own hx9 (fun c hc hlt=>by simp at hc;omega),by omega⟩
 ·have hj:j=S.length:=by simp only at h;omega
  subst hj
  rw [List.take_length] at hML
  have hx0W:=hx07.trans hxW'
  have hxWW:=hxW7.trans hxW'
  have hg':=hxWW.get hg (by simp)
  refine jg (s:=.slc) (t:=x) rfl hg' rfl ?_
  refine z0y (us:=[qcq mk]) Ely uSl rfl rfl (by omega) (by omega) rfl fun w13 hc13 hx13 hs13=>?_
  have hml4:x.2.1=i:=by have:=hM.len;simp at this;omega
  refine zbx Ely (by omega) uSl (zar uSl) rfl ((hM.ext hxWW (by simp)).ext hx13 (by simp)) (by have:=hx0W.1;have:=hx13.1;omega) (Src.slc rfl hc13 rfl) (by intro v hv;simp at hv;subst hv;rfl) (by omega) fun x' w14 hm14 hl14 hx14 hs14=>?_
  have hM13:=(hM.ext hxWW (by simp)).ext hx13 (by simp)
  have hxb:∀ b∈jw x,H.size<=b:=jo hM
  have hg14:=hx14.get (hx13.get hg' (by simp)) hux
  refine zb8 rfl hg14 (by simp) fun w15 hw15=>?_
  refine jr ((i+1:Nat):Int) (by omega) (by omega) (by omega) ?_
  have hx15:Ext [u] w14.heap w15.heap:=by rw [hw15];exact Ext.set _ (by simp)
  have hu':u∉jw x':=fun hc=>by
   rcases hs14 u hc with hc | hc
   ·exact hux hc
   ·have:=lt_of_get hg';have:=hx13.1;omega
  have keepM:∀ {m:Nat}{Ly:List Fil},qau w13.heap m Ly->qau w15.heap m Ly:=fun {m Ly} hm=>by
   have hno:m∉jw x:=fun hc=>by
    obtain⟨_,c',hc'⟩:=zki hM13 m hc
    obtain⟨M,c,h1,_⟩:=hm
    rw [hc'] at h1;cases h1
   have hmu:m≠u:=fun e=>by
    obtain⟨M,c,h1,_⟩:=hm
    rw [e,hx13.get hg' (by simp)] at h1;cases h1
   exact (hm.ext hx14 hno).ext hx15 (by simp [hmu])
  have hx0_13:=hx0W.trans hx13
  have hx0_14:Ext [] H w14.heap:=hx0_13.own hx14 (fun b hb hlt=>by have:=hxb b hb;omega)
  have hU13:=(hUW.ext hxWW (by simp) (by simp)).ext hx13 (by simp) (by simp)
  have hUf:Up w15.heap p' m' nn bb L:=by
   have nb:∀ {b:Nat}{o:Obj},w13.heap[b]?=some o->(∀ c,o≠.cells c zca (0,0))->b∉jw x:=fun hb hne hc=>by
    obtain⟨_,c',hc'⟩:=zki hM13 _ hc
    rw [hb] at hc';exact hne _ (Option.some.inj hc')
   have hu13:=hx13.get hg' (by simp)
   obtain⟨M,c,g1,g2,g3⟩:=id hU13
   have e1:p'≠u:=fun e=>by
    rw [e,hu13] at g1
    simp only [Option.some.injEq,Obj.cells.injEq] at g1
    exact absurd g1.2.1 (by decide)
   have e2:m'≠u:=fun e=>by rw [e,hu13] at g2;cases g2
   exact (hU13.ext hx14 (nb g1 fun c h=>by simp only [Obj.cells.injEq] at h;exact absurd h.2.1 (by decide)) (nb g2 fun c h=>by cases h)).ext hx15 (by simp [e1]) (by simp [e2])
  refine hQ (k-1) _ _ (by omega) ⟨i+1,x',ms++[mk],rfl,by omega,?_,by rw [hw15];exact qy hg14,?_,hu',by simp [hml],?_,hUf,hx0_14.own hx15 (fun b hb hlt=>by simp at hb;omega)⟩
  ·intro z hz
   rw [List.take_succ_eq_append_getElem hi,List.mem_append] at hz
   rcases hz with hz | hz
   ·exact hok z hz
   ·simp at hz;rw [hz,<-hd];exact h0w
  ·have hmm:(ms++[mk]).map qcq=ms.map qcq++[qcq mk]:=by simp
   rw [hmm]
   exact hm14.ext hx15 (fun b hb hbm=>by simp at hbm;subst hbm;exact hu' hb)
  ·intro jj m hj
   rcases Nat.lt_or_ge jj ms.length with hlt | hge
   ·rw [List.getElem?_append_left hlt] at hj
    exact keepM (((hms jj m hj).ext hxWW (by simp)).ext hx13 (by simp))
   ·rw [List.getElem?_append_right hge] at hj
    obtain⟨hz,hj⟩:=List.getElem?_eq_some_iff.1 hj
    simp at hz
    have hji:jj=i:=by omega
    subst hji
    simp at hj
    subst hj
    have hgl:(qgp r Ds).getD jj []=S:=by
     unfold qgp
     rw [List.getD_eq_getElem?_getD,List.getElem?_map,hdi,hSd];rfl
    rw [hgl]
    exact keepM (hML.ext hx13 (by simp))
theorem qk4 {w:World}{H:Heap}{o:OpR}(hw:w.heap=H):qj P zgi #[.pointer none,opV o] w fun e w'=>e=.returned (resV (z2j 7))/\Ext [] H w'.heap:=by
 refine zls ?_
 unfold zi5
 refine ji hw fun w1 hw1=>?_
 refine ji rfl fun w2 hw2=>?_
 have e1:w1.heap.size=H.size+1:=by rw [hw1];simp
 have h4:w2.heap[H.size+1]?=some (.cells (zsg res0).toArray zq (0,0)):=by rw [hw2,<-e1,qar];exact zk
 have hx2:Ext [] H w2.heap:=by rw [hw2,hw1];exact (Ext.push _).push_own
 rw [e1]
 refine jh rfl ?_
 refine qc (s:=.any) _ (ql6 _ _) ?_
 refine qaw (z2j 7) rfl h4 rfl fun w3 hw3=>?_
 refine xw rfl (by rw [hw3];exact qy h4) rfl ?_
 exact⟨rfl,by rw [hw3];exact hx2.set_own (.inl (by omega))⟩
set_option maxHeartbeats 4000000 in
theorem qkm {w:World}{H:Heap}{o:OpR}(hw:w.heap=H):qj P zda #[.pointer none,opV o] w fun e w'=>∃ v,e=.returned (.tuple #[resV (z2j 7),v])/\qf9 w'.heap v 7/\Ext [] H w'.heap:=by
 refine zlm ?_
 unfold zi0
 refine ji hw fun w1 hw1=>?_
 refine ji rfl fun w2 hw2=>?_
 have e1:w1.heap.size=H.size+1:=by rw [hw1];simp
 have h3:w2.heap[H.size]?=some (.cells (opC o).toArray jk (0,0)):=by rw [hw2,hw1];exact za1 zk
 have h4:w2.heap[H.size+1]?=some (.cells (zsg res0).toArray zq (0,0)):=by rw [hw2,<-e1,qar];exact zk
 have hx2:Ext [] H w2.heap:=by rw [hw2,hw1];exact (Ext.push _).push_own
 rw [e1]
 refine xw rfl h3 rfl ?_
 refine zh (qk4 (o:=o) rfl) ?_
 rintro e w3 ⟨rfl,hx3⟩
 refine⟨_,rfl,?_⟩
 have h33:=hx3.get h3 (by simp)
 have h43:=hx3.get h4 (by simp)
 refine z8n (z2j 7) rfl fun w5 hw5=>?_
 have h6:w5.heap[w3.heap.size]?=some (.cells (zsg (z2j 7)).toArray zq (0,0)):=by rw [hw5];exact zk
 have hx35:Ext [] w3.heap w5.heap:=by rw [hw5];exact .push _
 refine vw rfl fun w6 hw6=>?_
 have hx36:Ext [] w3.heap w6.heap:=by rw [hw6];exact hx35
 rw [<-hw6] at h6
 refine xw rfl h6 rfl ?_
 refine jg (s:=.int .i64) (t:=o.k) rfl (hx36.get h33 (by simp)) rfl ?_
 refine jg (s:=.str) (t:=strOf o.p) rfl (hx36.get h33 (by simp)) rfl ?_
 refine jg (s:=.int .i64) (t:=7) rfl h6 rfl ?_
 refine zh (qfc o.k rfl) ?_
 rintro e w7 ⟨s,rfl,hx7⟩
 refine⟨_,rfl,?_⟩
 have h67:=hx7.get h6 (by simp)
 refine⟨jg (s:=.int .i64) (t:=7) rfl h67 rfl rfl,jg (s:=.str) (t:=strOf o.p) rfl ((hx36.trans hx7).get h33 (by simp)) rfl rfl,xw rfl h67 rfl rfl,?_⟩
 refine zh (qe6 s (strOf o.p) 7 rfl) ?_
 rintro e w8 ⟨v,rfl,hv,hx8⟩
 refine⟨v,rfl,?_⟩
 refine⟨xw rfl (hx8.get h67 (by simp)) rfl rfl,?_⟩
 have hx38:=(hx36.trans hx7).trans hx8
 have h48:=hx38.get h43 (by simp)
 refine qaw (z2j 7) rfl h48 rfl fun w9 hw9=>?_
 refine xw rfl (by rw [hw9];exact qy h48) rfl ?_
 have hx9:Ext [H.size+1] w8.heap w9.heap:=by rw [hw9];exact Ext.set _ (by simp)
 refine⟨v,rfl,?_,(hx2.trans (hx3.trans hx38)).own hx9 (fun c hc hlt=>by simp at hc;omega)⟩
 rcases hv with h | ⟨h,b,oo,pp,hvv,hb⟩
 ·exact .inl h
 ·refine .inr ⟨h,b,oo,pp,hvv,hx9.get hb ?_⟩
  simp only [List.mem_singleton]
  rintro rfl
  rw [h48] at hb
  simp only [Option.some.injEq,Obj.cells.injEq] at hb
  exact absurd hb.2.1 (by decide)
theorem qgw {w:World}:qj P zd1 #[.pointer none] w fun e w'=>e=.returned (.slice none 0 0)/\w'=w:=by
 refine zjy ?_
 unfold zhr
 exact jh rfl ⟨rfl,rfl⟩
theorem qda {w:World}{a:Option Addr}{n nc:Nat}:qj P zbj #[.pointer none,.slice a n nc] w fun e w'=>e=.returned (.bool false)/\w'=w:=by
 refine zjf ?_
 unfold zgy
 refine jf ?_
 exact jh rfl ⟨rfl,rfl⟩
theorem qez {w:World}:qj P zdk #[.pointer none] w fun e w'=>e=.returned (.pointer none)/\w'=w:=by
 refine zje ?_
 unfold zgx
 exact jh rfl ⟨rfl,rfl⟩
theorem qa4 {w:World}:qj P zgo #[.pointer none] w fun e w'=>e=.returned (.pointer none)/\w'=w:=by
 refine zo0 ?_
 unfold zj4
 exact jh rfl ⟨rfl,rfl⟩
theorem qg0 {w:World}{H:Heap}{u p m:Nat}{nn bb:Int}{ls:List (List Fil)}{L:List Ino}(hw:w.heap=H) (hU:zw6 H u p m nn bb ls L) :
  qj P zdk #[.pointer (some ⟨u,0,none⟩)] w fun e w'=>∃ p' m',e=.returned (.pointer (some ⟨p',0,none⟩))/\Up w'.heap p' m' nn bb L/\Ext [] H w'.heap:=by
 obtain⟨x,ms,h1,_⟩:=id hU.1
 refine zje ?_
 unfold zgx
 refine qp rfl ?_
 simp only [jc,Addr.add,Nat.zero_add,Option.map_none]
 refine jg (s:=.ptr) (t:=some ⟨p,0,none⟩) hw h1 rfl ?_
 refine zh (zsn hw hU.2) ?_
 rintro e w1 ⟨p',m',rfl,hU1,hx1,_⟩
 exact⟨_,rfl,p',m',rfl,hU1,hx1⟩
theorem qnh (n b:Int) (w:World):(Instr.build zqc #[(0,.int .i64 n),(1,.int .i64 b)]).run P w=.ok (.agg #[.int .i64 n,.int .i64 b,.slice none 0 0]) w:=by kernel_rfl
theorem qdo {w:World}{H:Heap}{n b:Int}(hw:w.heap=H) (h1:0<=n) (h2:n<=128) (h3:0<=b) (h4:b<=8192):qj P zvw #[.int .i64 n,.int .i64 b] w fun e w'=>∃ p,e=.returned (.tuple #[.pointer p,.int .i64 0])/\Ext [] H w'.heap:=by
 refine z7s ?_
 unfold z3f
 refine jf ?_
 refine zy (fun h=>absurd h (by omega)) (fun _=>?_)
 refine zy (fun h=>absurd h (by omega)) (fun _=>?_)
 refine zy (fun h=>absurd h (by omega)) (fun _=>?_)
 refine zy (fun h=>absurd h (by omega)) (fun _=>?_)
 refine qc (s:=.any) _ (qnh _ _ _) ?_
 refine ji hw fun w2 hw2=>?_
 exact⟨_,rfl,by rw [hw2];exact .push _⟩
theorem qne (n:Int) (m:Option Nat) (w:World):(Instr.build zg1 #[(0,.int .i64 n),(2,.map m)]).run P w=.ok (.agg #[.int .i64 n,.int .i64 0,.map m]) w:=by kernel_rfl
theorem qbk {w:World}{H:Heap}(q:Int) (hq:0<=q) (hw:w.heap=H):qj P zou #[.int .i64 q] w fun e w'=>∃ s fp,e=.returned (.pointer (some ⟨s,0,none⟩))/\Bl.Store w'.heap fp s q [] 0/\Ext [] H w'.heap/\(∀ b∈fp,H.size<=b/\b < w'.heap.size):=by
 refine z4l ?_
 unfold zym
 refine qc (s:=.int .i64) _ (qid _ _ _) ?_
 rw [show max q 0=q by omega]
 refine zaf (s:=.map) (some H.size) _ (zkd hw) ?_
 refine qc (s:=.any) _ (qne _ _ _) ?_
 refine ji (H:=H.push (.map #[] 0)) rfl fun w2 hw2=>?_
 refine⟨H.size+1,[H.size+1,H.size],by simp,⟨H.size,?_,by rw [hw2];exact za1 zk,.nil,by simp,by simp,by intro x hx;simp at hx,?_⟩,by rw [hw2];exact (Ext.push _).push_own,?_⟩
 ·have h:=@zk (H.push (.map #[] 0)) (.cells #[.int .i64 q,.int .i64 0,.map (some H.size)] zg1 (0,0))
  rw [hw2,show H.size+1=(H.push (.map #[] 0)).size by simp]
  exact h
 ·simp [Bl.Apart]
 ·intro b hb
  have:w2.heap.size=H.size+2:=by rw [hw2];simp
  simp at hb
  omega
def fB:Fil:=⟨[47,98],false,[]⟩
def fF:Fil:=⟨[47,97,47,102],false,[104,105]⟩
def fA:Fil:=⟨[47,97],true,[]⟩
theorem qn4:vg fB.path=([[98]],0):=by decide +kernel
theorem qnj:vg fF.path=([[97],[102]],0):=by decide +kernel
theorem qmo:vg fA.path=([[97]],0):=by decide +kernel
theorem nmb:nm fB=[[98]]:=by unfold nm;rw [qn4]
theorem nmf:nm fF=[[97],[102]]:=by unfold nm;rw [qnj]
theorem nma:nm fA=[[97]]:=by unfold nm;rw [qmo]
def L3:List Fil:=[fA,fF,fB]
theorem qli:zjl L3=[fA,fF,fB]:=by decide +kernel
theorem qh9:za3 L3=0:=by decide +kernel
theorem no5:¬zzu L3:=by
 rintro ⟨i,hi,h⟩
 match i,hi with
 | 0,_=>simp [L3,nma] at h
 | 1,_=>simp [L3,nma,nmf] at h
 | 2,_=>simp [L3,nmb,nmf,nma] at h
theorem no4:¬z9h L3:=by
 rintro ⟨f,hf,h1,h2⟩
 simp only [L3,List.mem_cons,List.not_mem_nil,or_false] at hf
 rcases hf with rfl | rfl | rfl
 ·simp [nma] at h1
 ·exact h2 fA (by simp [L3]) (by simp [nmf,nma])
 ·simp [nmb] at h1
theorem qns:¬zxx L3:=by
 rintro ⟨f,hf,g,hg,h1,h2⟩
 simp only [L3,List.mem_cons,List.not_mem_nil,or_false] at hf hg
 rcases hf with rfl | rfl | rfl <;> rcases hg with rfl | rfl | rfl <;> first | exact absurd h2 (by decide) | (rw [nmb] at h1;simp [nmb,nmf,nma] at h1;done) | (rw [nmf] at h1;simp [nmb,nmf,nma] at h1;done) | (simp [nmb,nmf,nma] at h1;done)
theorem no8:¬qcj L3:=by
 rintro ⟨f,hf,h⟩
 have:(kids L3 (nm f).dropLast).length<=3:=List.length_filter_le _ _
 omega
theorem qmj:ze0 L3=0:=by rw [zva qh9,zza no5 no4 qns no8]
def nC:Nod:=zwa [104,105]
def nF:Nod:=⟨2,[],2,[Sha.sum (zjb nC)],[]⟩
def nB:Nod:=⟨2,[],0,[],[]⟩
def nA:Nod:=⟨3,[],0,[],[⟨[102],2,Sha.sum (zjb nF)⟩]⟩
def nR:Nod:=⟨3,[],0,[],[⟨[97],3,Sha.sum (zjb nA)⟩,⟨[98],2,Sha.sum (zjb nB)⟩]⟩
theorem qjb:zix fF.data=[zjb nC,zjb nF]/\zkh fF.data=Sha.sum (zjb nF):=⟨rfl,rfl⟩
theorem qfn:zix fB.data=[zjb nB]/\zkh fB.data=Sha.sum (zjb nB):=⟨rfl,rfl⟩
theorem qk8:kids [fA,fF,fB] []=[fA,fB]:=by decide +kernel
theorem qi8:kids [fA,fF,fB] [[97]]=[fF]:=by decide +kernel
theorem qkh:zxg L3=([zjb nC,zjb nF,zjb nA,zjb nB,zjb nR],Sha.sum (zjb nR)):=by
 rw [zl3,qli]
 have hA:zf5 [fA,fF,fB] 8 [[97]]=([zjb nC,zjb nF,zjb nA],Sha.sum (zjb nA)):=by
  rw [show (8:Nat)=7+1 from rfl,zf5,qi8,zok,zit]
  simp only [List.map_cons,List.map_nil,znr,zll,nmf,show fF.dir=false from rfl,Bool.false_eq_true,if_false,qjb.1,qjb.2,List.flatten_cons,List.flatten_nil,List.append_nil]
  rfl
 rw [show (9:Nat)=8+1 from rfl,zf5,qk8,zok,zit]
 simp only [List.map_cons,List.map_nil,znr,zll,nma,nmb,hA,show fA.dir=true from rfl,show fB.dir=false from rfl,if_true,Bool.false_eq_true,if_false,qfn.1,qfn.2,List.flatten_cons,List.flatten_nil,List.append_nil]
 rfl
def bC:List UInt8:=[1,2,104,105]
def bF:List UInt8:=[2,2,186,81,103,170,37,105,73,247,1,63,208,174,227,219,246,57,189,176,202,216,218,247,80,137,209,38,248,218,146,140,20,63]
def bB:List UInt8:=[2,0]
def bA:List UInt8:=[3,1,1,102,2,88,201,251,13,17,115,155,159,107,201,198,214,238,62,38,149,172,205,218,103,124,157,8,238,7,125,57,221,65,183,132,18]
def bR:List UInt8:=[3,2,1,97,3,20,147,93,158,92,191,194,195,92,236,238,114,183,13,215,171,150,171,144,26,149,70,247,32,216,129,27,76,220,151,79,92,1,98,2,153,190,94,251,136,202,32,19,189,142,78,176,53,253,66,213,36,84,104,254,154,250,112,216,186,156,28,65,154,72,196,232]
def dC:List UInt8:=[186,81,103,170,37,105,73,247,1,63,208,174,227,219,246,57,189,176,202,216,218,247,80,137,209,38,248,218,146,140,20,63]
def dF:List UInt8:=[88,201,251,13,17,115,155,159,107,201,198,214,238,62,38,149,172,205,218,103,124,157,8,238,7,125,57,221,65,183,132,18]
def dB:List UInt8:=[153,190,94,251,136,202,32,19,189,142,78,176,53,253,66,213,36,84,104,254,154,250,112,216,186,156,28,65,154,72,196,232]
def dA:List UInt8:=[20,147,93,158,92,191,194,195,92,236,238,114,183,13,215,171,150,171,144,26,149,70,247,32,216,129,27,76,220,151,79,92]
def dR:List UInt8:=[52,50,156,43,141,118,195,80,238,81,90,166,160,182,217,191,49,81,234,133,70,6,243,41,212,153,138,165,168,182,90,51]
theorem sC:Sha.sum bC=dC:=by rw [Sha.sum_eq];kernel_rfl
theorem sF:Sha.sum bF=dF:=by rw [Sha.sum_eq];kernel_rfl
theorem sB:Sha.sum bB=dB:=by rw [Sha.sum_eq];kernel_rfl
theorem sA:Sha.sum bA=dA:=by rw [Sha.sum_eq];kernel_rfl
theorem sR:Sha.sum bR=dR:=by rw [Sha.sum_eq];kernel_rfl
theorem eC:zjb nC=bC:=by kernel_rfl
theorem eF:zjb nF=bF:=by
 rw [show nF=⟨2,[],2,[dC],[]⟩ from by unfold nF;rw [eC,sC]];kernel_rfl
theorem eB:zjb nB=bB:=by kernel_rfl
theorem eA:zjb nA=bA:=by
 rw [show nA=⟨3,[],0,[],[⟨[102],2,dF⟩]⟩ from by unfold nA;rw [eF,sF]];kernel_rfl
theorem eR:zjb nR=bR:=by
 rw [show nR=⟨3,[],0,[],[⟨[97],3,dA⟩,⟨[98],2,dB⟩]⟩ from by unfold nR;rw [eA,sA,eB,sB]];kernel_rfl
theorem qhy:zxg L3=([bC,bF,bA,bB,bR],dR):=by rw [qkh,eC,eF,eA,eB,eR,sR]
theorem vC:zom bC=(⟨1,[104,105],0,[],[]⟩,0):=by kernel_rfl
theorem vF:zom bF=(⟨2,[],2,[dC],[]⟩,0):=by kernel_rfl
theorem vB:zom bB=(⟨2,[],0,[],[]⟩,0):=by kernel_rfl
theorem vA:zom bA=(⟨3,[],0,[],[⟨[102],2,dF⟩]⟩,0):=by kernel_rfl
theorem vR:zom bR=(⟨3,[],0,[],[⟨[97],3,dA⟩,⟨[98],2,dB⟩]⟩,0):=by kernel_rfl
theorem qe1:Bl.fresh [bC,bF,bA,bB,bR]=[(dC,bC),(dF,bF),(dA,bA),(dB,bB),(dR,bR)]:=by
 have h1:(Bl.qcs [] dC).isSome=false:=by decide +kernel
 have h2:(Bl.qcs [(dC,bC)] dF).isSome=false:=by decide +kernel
 have h3:(Bl.qcs [(dC,bC),(dF,bF)] dA).isSome=false:=by decide +kernel
 have h4:(Bl.qcs [(dC,bC),(dF,bF),(dA,bA)] dB).isSome=false:=by decide +kernel
 have h5:(Bl.qcs [(dC,bC),(dF,bF),(dA,bA),(dB,bB)] dR).isSome=false:=by decide +kernel
 simp only [Bl.fresh,List.foldl_cons,List.foldl_nil,Bl.z8e,sC,sF,sA,sB,sR,h1,h2,h3,h4,h5,Bool.false_eq_true,if_false,List.nil_append,List.cons_append]
theorem qkx {code:Int}{r':Bl.SM}(h:Bl.z5p 16777216 [] [bC,bF,bA,bB,bR] code r'):code=0/\Bl.zcq r' dC=some bC/\Bl.zcq r' dF=some bF/\Bl.zcq r' dA=some bA/\Bl.zcq r' dB=some bB/\Bl.zcq r' dR=some bR:=by
 obtain⟨_,_,h3⟩:=h
 have hl:¬Bl.long [bC,bF,bA,bB,bR]:=by
  rintro ⟨L,hL,h⟩
  simp only [List.mem_cons,List.not_mem_nil,or_false] at hL
  rcases hL with rfl | rfl | rfl | rfl | rfl <;> revert h <;> decide +kernel
 have hx:¬(16777216:Int) < ((Bl.total []:Nat):Int)+((Bl.extra [] (Bl.fresh [bC,bF,bA,bB,bR]):Nat):Int):=by
  rw [qe1];decide +kernel
 obtain⟨h0,hv⟩:=h3 hl hx
 rw [qe1] at hv
 refine⟨h0,?_,?_,?_,?_,?_⟩ <;> rw [hv] <;> decide +kernel
theorem z7m {r:Bl.SM}{k b:List UInt8}{kind:Int}{n:Nod}(hv:Bl.zcq r k=some b) (hs:Sha.sum b=k) (hd:zom b=(n,0)) (hk:n.kind=kind):gV r k kind=(n,0):=by
 have hg:Bl.got (some b) k=0:=by unfold Bl.got;simp [hs]
 unfold gV zq5
 rw [hv,if_neg (by simp [hg])]
 simp only [Option.getD_some,hd]
 rw [if_neg (by simp [hk])]
theorem walk3 {r:Bl.SM}(h1:Bl.zcq r dC=some bC) (h2:Bl.zcq r dF=some bF) (h3:Bl.zcq r dA=some bA) (h4:Bl.zcq r dB=some bB) (h5:Bl.zcq r dR=some bR):zj3 r dR=([fA,fF,fB],0):=by
 have gC:=z7m (kind:=1) h1 sC vC rfl
 have gF:=z7m (kind:=2) h2 sF vF rfl
 have gA:=z7m (kind:=3) h3 sA vA rfl
 have gB:=z7m (kind:=2) h4 sB vB rfl
 have gR:=z7m (kind:=3) h5 sR vR rfl
 have cF:zf7 r ⟨2,[],2,[dC],[]⟩=([104,105],0):=by
  unfold zf7
  have gC':zq5 (Bl.zcq r dC) dC 1=(⟨1,[104,105],0,[],[]⟩,0):=gC
  simp [z3p,gC'];decide
 have cB:zf7 r ⟨2,[],0,[],[]⟩=([],0):=by simp [zf7,z3p]
 have p1:x9 [[97]]=[47,97]:=by decide +kernel
 have p2:x9 [[97],[102]]=[47,97,47,102]:=by decide +kernel
 have p3:x9 [[98]]=[47,98]:=by decide +kernel
 have wA:∀ {f:Nat},zo3 (gV r) (zf7 r) (f+1) [⟨[102],2,dF⟩] [[97]] [fA]=([fA,fF],0):=by
  intro f
  simp [zo3,zj8,gF,cF,p2,fF]
 have wA8:zo3 (gV r) (zf7 r) 8 [⟨[102],2,dF⟩] [[97]] [fA]=([fA,fF],0):=wA (f:=7)
 have w9:zo3 (gV r) (zf7 r) 9 [⟨[97],3,dA⟩,⟨[98],2,dB⟩] [] []=zj8 (gV r) (zf7 r) (zo3 (gV r) (zf7 r) 8) [] [⟨[97],3,dA⟩,⟨[98],2,dB⟩] []:=rfl
 have eA:(⟨[47,97],true,[]⟩:Fil)=fA:=rfl
 unfold zj3
 rw [gR]
 simp only [ne_eq,not_true_eq_false,if_false,w9]
 rw [zj8]
 simp only [gA,List.nil_append,p1,eA,wA8]
 simp [zj8,gB,cB,p3,fB]
def qF:Path:=[[97],[102]]
def qB:Path:=[[98]]
theorem qge:okP qF:=⟨fun L hL=>by simp [qF] at hL;rcases hL with rfl | rfl <;> decide,by decide⟩
theorem z9g:okP qB:=⟨fun L hL=>by simp [qB] at hL;subst hL;decide,by decide⟩
def LL:List Fil:=[fA,fF,fB]
def fF2:Fil:=⟨[47,97,47,102],false,[104,105,33]⟩
def La:List Ino:=[⟨[[97]],2,false,[]⟩,⟨qF,1,false,[104,105,33]⟩]
def Lb:List Ino:=[⟨[[97]],2,false,[]⟩,⟨qF,1,false,[104,105,33]⟩,⟨qB,3,false,[]⟩]
theorem z6j {ls:List (List Fil)}{L:List Ino}{s:Sn}{q K:Path}(h:(zzt ls L s q).foldl (zv6 q) []=K) (hs:K.Pairwise fun a b=>decide (a<=b)=true):zsu ls L s q=K:=by
 unfold zsu sortS
 rw [h]
 exact List.mergeSort_of_pairwise hs
theorem z5i {ls:List (List Fil)}{L:List Ino}{g:Sn->Path->List Fil}{s s':Sn}{q:Path}{k:List UInt8}(h:zgl ls L s (q++[k])=(s',true)):zsp ls L g s q k=s'.file :: (if s'.file.dir=true then g s' (q++[k]) else []):=by
 unfold zsp;rw [h];simp
theorem qim {ls:List (List Fil)}{L:List Ino}{g:Sn->Path->List Fil}{s s':Sn}{q:Path}{k:List UInt8}(h:zgl ls L s (q++[k])=(s',false)):zsp ls L g s q k=[]:=by
 unfold zsp;rw [h];simp
theorem qlb {L:List Ino}{sa sf:Sn}{R:List Fil}(hk:(zzt [LL] L (zlg [LL]) []).foldl (zv6 []) []=[[97],[98]]) (ha:zgl [LL] L (zlg [LL]) [[97]]=(sa,true)) (hd:sa.file.dir=true) (hk2:(zzt [LL] L sa [[97]]).foldl (zv6 [[97]]) []=[[102]])
  (hf:zgl [LL] L sa [[97],[102]]=(sf,true)) (hfd:sf.file.dir=false) (hb:zsp [LL] L (zlj [LL] L 8) (zlg [LL]) [] [98]=R):zni [LL] L=sa.file :: sf.file :: R:=by
 have h1:zlj [LL] L 8 sa [[97]]=[sf.file]:=by
  rw [show (8:Nat)=7+1 from rfl,zlj,z6j hk2 (by simp)]
  simp only [List.flatMap_cons,List.flatMap_nil,List.append_nil]
  rw [z5i (s':=sf) hf,if_neg (by simp [hfd])]
 unfold zni
 rw [show (9:Nat)=8+1 from rfl,zlj,z6j hk (by decide)]
 simp only [List.flatMap_cons,List.flatMap_nil,List.append_nil]
 rw [hb,z5i (s':=sa) ha,if_pos hd]
 show sa.file :: zlj [LL] L 8 sa [[97]]++R=_
 rw [h1];rfl
theorem sw0:zni [LL] []=[fA,fF,fB]:=
 qlb (sa:=⟨fA,[0],false⟩) (sf:=⟨fF,[],false⟩) (by kernel_rfl) (by kernel_rfl) rfl (by kernel_rfl) (by kernel_rfl) rfl ((z5i (s':=⟨fB,[],false⟩) (by kernel_rfl)).trans rfl)
theorem sw1:zni [LL] La=[fA,fF2,fB]:=
 qlb (sa:=⟨fA,[0],true⟩) (sf:=⟨fF2,[],false⟩) (by kernel_rfl) (by kernel_rfl) rfl (by kernel_rfl) (by kernel_rfl) rfl ((z5i (s':=⟨fB,[],false⟩) (by kernel_rfl)).trans rfl)
theorem sw2:zni [LL] Lb=[fA,fF2]:=
 qlb (sa:=⟨fA,[0],true⟩) (sf:=⟨fF2,[],false⟩) (by kernel_rfl) (by kernel_rfl) rfl (by kernel_rfl) (by kernel_rfl) rfl (qim (s':=sn0) (by kernel_rfl))
theorem pw1:qkg [LL] [] qF false [104,105,33] []=La:=by kernel_rfl
theorem cw2:qip [LL] La qB La=Lb:=by kernel_rfl
theorem ov1:z0o 9 99 La=false:=by kernel_rfl
theorem ov2:z0o 9 99 Lb=false:=by kernel_rfl
theorem bw2:ze2 Lb []=Lb:=by kernel_rfl
theorem lsL:LsOK [LL]:=⟨by decide,by intro Ly h;simp at h;subst h;decide⟩
theorem z4t {S:List Fil}(h:∀ f∈S,(vg f.path).2=0/\x9 (nm f)=f.path/\(f.dir=true->f.data=[])/\f.data.length<=1024/\f.path≠[47]/\((zoz (zib :: S) (upS f.path)).any (·.dir))=true) (hn:(S.map (·.path)).Nodup):TreeF S:=by
 refine⟨fun f hf=>?_,hn,fun f hf=>(h f hf).2.2.2.2.1,fun f hf=>?_⟩
 ·obtain⟨h1,h2,h3,h4,_⟩:=h f hf
  exact⟨h1,h2,h3,h4⟩
 ·obtain⟨_,_,_,_,_,h6⟩:=h f hf
  cases hg:zoz (zib :: S) (upS f.path) with
  | none=>rw [hg] at h6;cases h6
  | some g=>rw [hg] at h6;exact⟨g,rfl,by simpa using h6⟩
theorem tr0:TreeF (zni [LL] []):=by rw [sw0];exact z4t (by decide +kernel) (by decide +kernel)
theorem tr1:TreeF (zni [LL] La):=by rw [sw1];exact z4t (by decide +kernel) (by decide +kernel)
theorem tr2:TreeF (zni [LL] Lb):=by rw [sw2];exact z4t (by decide +kernel) (by decide +kernel)
theorem qbz {r:Bl.SM}{c:Nat}(h:MOk (fun L:List UInt8=>L.length=32) r c){k L:List UInt8}(hv:Bl.zcq r k=some L):L.length<=Bl.total r:=by
 have h1:=Bl.z2s h (k:=k) (c':=0) (v:=((none,0,0),[]))
 have h2:Bl.qco r k=L.length:=by unfold Bl.qco;rw [hv]
 simp only [List.length_nil] at h1
 omega
theorem EDg:Elem P zf 32 32:=zii (z:=arr Bl.nought) (by kernel_rfl) rfl
theorem qka:P.underlying jq=some (.slice zf):=by kernel_rfl
theorem qkd:P.underlying zfc=some (.slice qm):=by kernel_rfl
theorem EFs:Elem P qm 1 24:=zii (z:=.slice none 0 0) (by kernel_rfl) rfl
theorem qm8 (w:World):(Instr.build zgn #[]).run P w=.ok (.agg #[.slice none 0 0,.pointer none]) w:=by kernel_rfl
theorem zvb {D:List UInt8}(h:D.length=32):(arr D).cells=(Bl.zd7 D).toArray:=by rw [Bl.zhq h];rfl
theorem znp {D:List UInt8}(h:D.length=32):zbo (Bl.zd7 D):=by rw [Bl.zhq h];exact zay
theorem qfe {w:World}{H:Heap}{B:Nat}{x:Option Addr×Nat×Nat}{Ds:List (List UInt8)}{d:List UInt8}(h:d.length=32) (hw:w.heap=H) (hM:Mine H B zf 32 x (Ds.flatMap Bl.zd7)) (hB:B<=H.size) (hl:Ds.length<=1000){K:(Option Addr×Nat×Nat)->World->Prop}
  (hK:∀ x' w',Mine w'.heap B zf 32 x' ((Ds++[d]).flatMap Bl.zd7)->Ext (jw x) H w'.heap->K x' w') :
  za2 P (Instr.buildSlice jq 1 #[(0,arr d)]) .slc w fun (t:(Option Addr×Nat×Nat)) w1=>za2 P (Builtin.append_ #[jq,jq] jq #[.slice x.1 x.2.1 x.2.2,.slice t.1 t.2.1 t.2.2]) .slc w1 fun (t:(Option Addr×Nat×Nat)) w2=>K t w2:=by
 refine z0y (us:=Bl.zd7 d) EDg qka (zvb h) (Bl.zck d) (by omega) (by omega) hw fun w13 hc13 hx13 hs13=>?_
 have hxl:x.2.1=Ds.length:=by have:=hM.len;rw [xg Bl.zd7 Bl.zck] at this;omega
 refine zbx (n:=1) EDg (by omega) qka (zar qka) rfl (hM.ext hx13 (by simp)) (by have:=hx13.1;omega) (Src.slc rfl hc13 (by rw [Bl.zck])) (znp h) (by omega) fun x' w14 hm14 _ hx14 _=>?_
 refine hK x' w14 (by rw [List.flatMap_append];simpa using hm14) ?_
 exact (hx13.mono (by simp)).trans hx14
set_option maxHeartbeats 16000000 in
theorem qjc {w:World}{H:Heap}{a aa:Option Addr}(hw:w.heap=H) (hR:Bl.Rounds H) (hc0:Cells H a [.slice aa 3 3]) (hc:Cells H aa (L3.flatMap zb6)) :
  qj P zti #[.agg #[.slice a 1 1,.slice none 0 0,.int .i64 9,.int .i64 99]] w fun e w'=>∃ u p m r,e=.returned (.tuple #[.pointer (some ⟨u,0,none⟩),.pointer r,.bool true])/\zw6 w'.heap u p m 9 99 [LL] []/\Ext [] H w'.heap/\H.size<=u:=by
 have hH0:1 < H.size:=by obtain⟨_,_,_,h,_⟩:=hR;exact lt_of_get h
 refine z5c ?_
 unfold zy3
 refine ji hw fun w1 hw1=>?_
 have g1:w1.heap[H.size]?=some (.cells #[.slice a 1 1,.slice none 0 0,.int .i64 9,.int .i64 99] zgs (0,0)):=by rw [hw1];exact zk
 have hx1:Ext [] H w1.heap:=by rw [hw1];exact .push _
 refine zh (qbk 16777216 (by omega) rfl) ?_
 rintro e w2 ⟨sp,fp,rfl,hS2,hx2,hfp2⟩
 refine⟨some ⟨sp,0,none⟩,rfl,?_⟩
 refine qc (s:=.any) _ (qm8 _) ?_
 refine ji rfl fun w3 hw3=>?_
 obtain⟨rb,hrb⟩:∃ rb,rb=w2.heap.size:=⟨_,rfl⟩
 rw [<-hrb]
 have g3:w3.heap[rb]?=some (.cells #[.slice none 0 0,.pointer none] zgn (0,0)):=by rw [hw3,hrb];exact zk
 have hx3:Ext [] w2.heap w3.heap:=by rw [hw3];exact .push _
 have hx12:=hx1.trans hx2
 have hx03:=hx12.trans hx3
 have s1:=hx1.1
 have s2:=hx2.1
 have s3:=hx3.1
 have hlt3:rb < w3.heap.size:=lt_of_get g3
 have hHrb:H.size < rb:=by have:=lt_of_get g1;omega
 refine joinP_of (fun x W=>∃ r c fp',Mine W.heap H.size zf 32 x ([dR].flatMap Bl.zd7)/\Bl.Store W.heap fp' sp 16777216 r c/\(∀ b∈fp',b < W.heap.size)/\rb∉fp'/\Bl.zcq r dC=some bC/\Bl.zcq r dF=some bF/\Bl.zcq r dA=some bA/\Bl.zcq r dB=some bB/\Bl.zcq r dR=some bR/\(∀ k L,Bl.zcq r k=some L->L.length < 1099511627776)/\Ext [] H W.heap/\W.heap[H.size]?=some (.cells #[.slice a 1 1,.slice none 0 0,.int .i64 9,.int .i64 99] zgs (0,0))/\∃ v,W.heap[rb]?=some (.cells #[v,.pointer none] zgn (0,0))) ?_ ?_
 ·refine zb3 (fun k s W=>(k=1/\s=((none,0,0),0)/\W=w3)\/(k=0/\s.2=1/\∃ r c fp',Mine W.heap H.size zf 32 s.1 ([dR].flatMap Bl.zd7)/\Bl.Store W.heap fp' sp 16777216 r c/\(∀ b∈fp',b < W.heap.size)/\rb∉fp'/\Bl.zcq r dC=some bC/\Bl.zcq r dF=some bF/\Bl.zcq r dA=some bA/\Bl.zcq r dB=some bB/\Bl.zcq r dR=some bR/\(∀ k L,Bl.zcq r k=some L->L.length < 1099511627776)/\Ext [] H W.heap/\W.heap[H.size]?=some (.cells #[.slice a 1 1,.slice none 0 0,.int .i64 9,.int .i64 99] zgs (0,0))/\∃ v,W.heap[rb]?=some (.cells #[v,.pointer none] zgn (0,0)))) 1 (.inl ⟨rfl,rfl,rfl⟩) ?_
  rintro k s W (⟨rfl,rfl,rfl⟩ | ⟨rfl,hs,hJ⟩) Q hQ
  rotate_left
  ·obtain⟨x,i⟩:=s
   obtain rfl:i=1:=hs
   refine jf ?_
   obtain⟨r,c,fp',hJ1,hJ2,hJ3,hJ4,hJ5,hJ6,hJ7,hJ8,hJ9,hJ10,hJ11,hJ12,hJ13⟩:=hJ
   refine jg (s:=.slc) (t:=(a,1,1)) rfl hJ12 rfl ?_
   refine qp rfl ?_
   exact⟨r,c,fp',hJ1,hJ2,hJ3,hJ4,hJ5,hJ6,hJ7,hJ8,hJ9,hJ10,hJ11,hJ12,hJ13⟩
  have g13:=(hx2.trans hx3).get g1 (by simp)
  have hc03:=hc0.ext hx03 (by simp)
  have hc3:=hc.ext hx03 (by simp)
  have hS3:=hS2.ext hx3 (by simp)
  refine joinP_of (fun _ W'=>W'=W) ?_ ?_
  ·refine jg (s:=.slc) (t:=(a,1,1)) rfl g13 rfl ?_
   refine jh rfl ?_
   exact jh rfl rfl
  rintro _ W5 rfl
  refine joinP_of (fun x W=>∃ r c fp',Mine W.heap H.size zf 32 x ([dR].flatMap Bl.zd7)/\Bl.Store W.heap fp' sp 16777216 r c/\(∀ b∈fp',b < W.heap.size)/\rb∉fp'/\Bl.zcq r dC=some bC/\Bl.zcq r dF=some bF/\Bl.zcq r dA=some bA/\Bl.zcq r dB=some bB/\Bl.zcq r dR=some bR/\(∀ k L,Bl.zcq r k=some L->L.length < 1099511627776)/\Ext [] H W.heap/\W.heap[H.size]?=some (.cells #[.slice a 1 1,.slice none 0 0,.int .i64 9,.int .i64 99] zgs (0,0))/\∃ v,W.heap[rb]?=some (.cells #[v,.pointer none] zgn (0,0))) ?_ ?_
  rotate_left
  ·rintro x W6 hJ
   refine jr 1 (by rfl) (by omega) (by omega) ?_
   exact hQ 0 _ _ (by omega) (.inr ⟨rfl,rfl,hJ⟩)
  refine jg (s:=.slc) (t:=(a,1,1)) rfl g13 rfl ?_
  refine ix1 (s:=.slc) (t:=(aa,3,3)) (i:=0) rfl hc03 rfl rfl rfl ?_
  refine zh (z8c (L:=L3) rfl hc3 rfl (by decide)) ?_
  rintro e w6 ⟨x6,rfl,hx6,_⟩
  rw [qmj]
  refine⟨(x6,0),rfl,?_⟩
  have g16:=hx6.get g13 (by simp)
  refine jg (s:=.slc) (t:=(a,1,1)) rfl g16 rfl ?_
  refine ix1 (s:=.slc) (t:=(aa,3,3)) (i:=0) rfl (hc03.ext hx6 (by simp)) rfl rfl rfl ?_
  have s6:=hx6.1
  have hx06:=hx03.trans hx6
  refine zh (z6n (L:=L3) rfl (hS3.ext hx6 (by simp)) (fun b hb=>by have:=(hfp2 b hb).2;omega) (hR.ext hx06 (by simp)) (fun h=>by have:=(hfp2 1 h).1;omega) (hc3.ext hx6 (by simp)) rfl (by decide) (by simp [Bl.total]) (by decide) (by decide) (by intro k L h;simp [Bl.zcq,zc6] at h)) ?_
  rintro e w7 ⟨c1,d1,r7,k7,fp7,rfl,hd1,hS7,hx7,hf7a,hf7b,hP7,ht7⟩
  obtain⟨hP,hd⟩:=hP7.2 qmj
  rw [qhy] at hP hd
  obtain⟨rfl,v1,v2,v3,v4,v5⟩:=qkx hP
  rw [if_pos rfl] at hd
  have hd:d1=dR:=hd
  subst hd
  refine⟨(arr dR,0),rfl,?_⟩
  have s7:=hx7.1
  have hnw1:H.size∉fp:=fun h=>by have:=(hfp2 _ h).1;have:=lt_of_get g1;omega
  have hrbn:rb∉fp:=fun h=>by have:=(hfp2 _ h).2;omega
  have g17:=hx7.get g16 hnw1
  have g37:=hx7.get (hx6.get g3 (by simp)) hrbn
  have hx07:Ext [] H w7.heap:=hx06.own hx7 (fun b hb hlt=>by have:=(hfp2 b hb).1;omega)
  have tot7:Bl.total r7<=225280:=by
   have tz:Bl.total ([]:Bl.SM)=0:=rfl
   have l3:L3.length=3:=rfl
   rw [tz,l3] at ht7
   omega
  have hok7:MOk (fun L:List UInt8=>L.length=32) r7 k7:=by obtain⟨m,_,_,h,_⟩:=hS7;exact h
  have hlen7:∀ k L,Bl.zcq r7 k=some L->L.length < 1099511627776:=fun k L hv=>by
   have:=qbz hok7 hv
   omega
  refine qhp hd1 rfl fun w9 hw9=>?_
  have hx9:Ext [] w7.heap w9.heap:=by rw [hw9];exact .push _
  have hb9:w9.heap[w7.heap.size]?=some (.cells (byteCells dR).toArray zf (0,0)):=by rw [hw9];exact zk
  refine qp rfl ?_
  refine jh rfl ?_
  refine jg (s:=.slc) (t:=(none,0,0)) rfl (hx9.get g37 (by simp)) rfl ?_
  refine z0y (us:=[zdr x6]) EFs qkd rfl rfl (by omega) (by omega) rfl fun w10 hc10 hx10 hs10=>?_
  refine zbx (n:=1) (B:=H.size) (vs:=[]) EFs (by omega) qkd (zar qkd) rfl (.inl ⟨rfl,rfl⟩) (by have:=hx07.1;have:=hx9.1;have:=hx10.1;omega) (Src.slc rfl hc10 rfl) (by intro v hv;simp at hv;subst hv;rfl) (by simp) fun x11 w11 _ _ hx11 _=>?_
  have hx711:Ext [] w7.heap w11.heap:=(hx9.trans hx10).trans hx11
  have g311:=hx711.get g37 (by simp)
  refine zb8 rfl g311 (by simp) fun w12 hw12=>?_
  have hx12:Ext [rb] w11.heap w12.heap:=by rw [hw12];exact Ext.set _ (by simp)
  have hrb7:=lt_of_get g37
  refine xw rfl (hx12.get ((hx10.trans hx11).get hb9 (by simp)) (by simp;omega)) (by simp [hd1]) ?_
  have s12:=hx12.1
  have s711:=hx711.1
  refine qfe (Ds:=[]) (x:=(none,0,0)) (B:=H.size) hd1 rfl (.inl ⟨rfl,rfl⟩) (by have:=hx07.1;omega) (by simp) fun x14 w14 hm14 hx14=>?_
  have hx14:Ext [] w12.heap w14.heap:=hx14
  have hx714:Ext [rb] w7.heap w14.heap:=((hx711.mono (by simp)).trans hx12).trans (hx14.mono (by simp))
  have hspn:∀ b∈fp7,b≠rb:=fun b hb e=>by
   rcases hf7b b hb with h | h
   ·rw [e] at h;exact hrbn h
   ·omega
  refine⟨r7,k7,fp7,hm14,hS7.ext hx714 (fun b hb h=>hspn b hb (by simpa using h)),fun b hb=>by have:=hf7a b hb;have:=hx714.1;omega,fun h=>hspn _ h rfl,v1,v2,v3,v4,v5,hlen7,hx07.own hx714 (fun b hb hlt=>by simp at hb;omega),hx714.get g17 (by simp;omega),_,hx14.get (by rw [hw12];exact qy g311) (by simp)⟩
 rintro x W ⟨r,c,fp',hM,hS,hfp',hrbf,v1,v2,v3,v4,v5,hlen,hx,g1W,v,gW⟩
 refine jg (s:=.int .i64) (t:=9) rfl g1W rfl ?_
 refine zsh (by omega) (by omega) ?_
 refine qai 9 129 rfl rfl (by omega) ?_
 refine zp6 (by omega) (by omega) ?_
 refine jg (s:=.int .i64) (t:=99) rfl g1W rfl ?_
 refine zsh (by omega) (by omega) ?_
 refine qai 99 8193 rfl rfl (by omega) ?_
 refine zp6 (by omega) (by omega) ?_
 refine zh (new_c 9 99 rfl) ?_
 rintro e w17 (⟨h,_⟩ | ⟨_,p,m,rfl,hU17,hx17,_⟩)
 ·exact absurd (by unfold z8m;omega) h
 refine⟨(some ⟨p,0,none⟩,0),rfl,?_⟩
 refine zh (qdo rfl (by omega) (by omega) (by omega) (by omega)) ?_
 rintro e w18 ⟨rp,rfl,hx18⟩
 refine⟨(rp,0),rfl,?_⟩
 refine joinP_of (fun _ W'=>W'=w18) (qp rfl (qp rfl rfl)) ?_
 rintro _ w19 rfl
 have hxW:=hx17.trans hx18
 have g119:=hxW.get g1W (by simp)
 have g319:=hxW.get gW (by simp)
 refine zb3 (fun _ s W'=>s=0/\W'=w19) 0 ⟨rfl,rfl⟩ ?_
 rintro k s W' ⟨rfl,rfl⟩ Q hQ
 refine jg (s:=.slc) (t:=(none,0,0)) rfl g119 rfl ?_
 refine qp rfl ?_
 refine zb8 rfl g319 (by simp) fun w24 hw24=>?_
 have hx24:Ext [rb] W'.heap w24.heap:=by rw [hw24];exact Ext.set _ (by simp)
 have hx019:=hx.trans hxW
 have hrbH:H.size<=rb:=by omega
 have hx024:Ext [] H w24.heap:=hx019.own hx24 (fun b hb hlt=>by simp at hb;omega)
 have hU19:=hU17.ext hx18 (by simp) (by simp)
 obtain⟨_,_,up1,up2,_⟩:=id hU19
 have npr:p≠rb:=fun e=>by
  rw [e,g319] at up1
  simp only [Option.some.injEq,Obj.cells.injEq] at up1
  exact absurd up1.2.1 (by decide)
 have nmr:m≠rb:=fun e=>by rw [e,g319] at up2;cases up2
 have hU24:=hU19.ext hx24 (by simpa using npr) (by simpa using nmr)
 have hS19:=hS.ext hxW (by simp)
 have hS24:=hS19.ext hx24 (fun b hb h=>by simp at h;subst h;exact hrbf hb)
 have hxl:x.2.1=1:=by have:=hM.len;rw [xg Bl.zd7 Bl.zck] at this;simp at this;omega
 have hwk:=walk3 v1 v2 v3 v4 v5
 have hxn:∀ b∈jw x,b≠rb:=fun b hb e=>by
  obtain⟨_,c',hc'⟩:=zki hM b hb
  rw [e,gW] at hc'
  simp only [Option.some.injEq,Obj.cells.injEq] at hc'
  exact absurd hc'.2.1 (by decide)
 have hM24:=((hM.ext hxW (by simp)).ext hx24 (fun b hb h=>hxn b hb (by simpa using h)))
 refine zh (z4y (Ds:=[dR]) rfl hS24 (hR.ext hx024 (by simp)) (fun b hb=>by have:=hfp' b hb;have:=hxW.1;have:=hx24.1;omega) hU24 hM24.cells hxl (by decide) (by intro d h;simp at h;subst h;decide) hlen (by intro d h;simp at h;subst h;rw [hwk];exact⟨by decide,by decide⟩)) ?_
 have hc0':zu4 r [dR]=0:=ztd (by intro d h;simp at h;subst h;rw [hwk])
 have hly:qgp r [dR]=[LL]:=by unfold qgp;simp only [List.map_cons,List.map_nil];rw [hwk];rfl
 rintro e w25 ⟨hx25,⟨h,_⟩ | ⟨_,u,p',m',rfl,hUn,hu,_,_⟩⟩
 ·exact absurd hc0' h
 rw [hly] at hUn
 refine⟨(some ⟨u,0,none⟩,0),rfl,?_⟩
 refine jh rfl ?_
 exact⟨u,p',m',_,rfl,hUn,hx024.trans hx25,by have:=hx024.1;omega⟩
def o1:OpR:=⟨3,x9 qF,[],[33],(2:Nat),0⟩
def o2:OpR:=⟨5,x9 qB,[],[],0,0⟩
def o3:OpR:=⟨10,x9 qB,[],[],0,0⟩
theorem pl1:z02 (zib :: zni [LL] []) o1 ⟨0,false,3,[]⟩ [zib,fA,fF2,fB]:=by
 intro w H b m hw hF hbm
 rw [sw0] at hF
 refine qd5 (M:=[m]) hw hF hbm qge ⟨⟨rfl,.inr (.inl ⟨rfl,rfl⟩)⟩,by simp,by simp,by simp,by simp,by simp⟩ (by simp) (.inl ⟨rfl,rfl⟩) fun hw hF=>?_
 have h:=qis (f:=fF) (d:=[33]) (n:=2) hw hF hbm qge (by kernel_rfl) rfl (by decide +kernel) (by decide) (by decide) (by decide)
 rw [show qj0 [zib,fA,fF,fB] ⟨x9 qF,false,wrD fF.data [33] 2⟩=[zib,fA,fF2,fB] by kernel_rfl] at h
 exact h
theorem ch1:zsk [LL] [] o1 [zib,fA,fF2,fB] La:=z6x (by decide) qge (.inl ⟨rfl,fF2,by kernel_rfl,rfl,by decide,pw1.symm⟩)
theorem pl2:z02 (zib :: zni [LL] La) o2 res0 [zib,fA,fF2]:=by
 intro w H b m hw hF hbm
 rw [sw1] at hF
 refine qd5 (M:=[m]) hw hF hbm z9g ⟨⟨rfl,.inl ⟨.inr (.inl rfl),rfl,rfl,rfl⟩⟩,by simp,by simp,by simp,by simp,by simp⟩ (by simp) (.inr (.inl ⟨rfl,rfl⟩)) fun hw hF=>?_
 have h:=qaa (f:=fB) hw hF hbm z9g (by kernel_rfl) rfl (by decide +kernel) (by decide +kernel) (by decide +kernel)
 rw [show qjd [zib,fA,fF2,fB] (x9 qB)=[zib,fA,fF2] by kernel_rfl] at h
 exact h
theorem ch2:zsk [LL] La o2 [zib,fA,fF2] Lb:=z6x (by decide) z9g (.inr ⟨rfl,cw2.symm⟩)
theorem pl3:z02 (zib :: zni [LL] Lb) o3 (z2j 4) [zib,fA,fF2]:=by
 intro w H b m hw hF hbm
 rw [sw2] at hF
 have h:=qd5 (M:=[]) (Th':=[zib,fA,fF2]) hw hF hbm z9g (k:=10) (d:=[]) (pos:=0) (size:=0) (r:=z2j 4) ⟨⟨rfl,.inl ⟨.inr (.inr rfl),rfl,rfl,rfl⟩⟩,by simp,by simp,by simp,by simp,by simp⟩ (by simp) (.inr (.inr ⟨.inr rfl,rfl⟩)) fun hw hF=>by
  refine (qgy (g:=zl8) (e0:=4) hw hF z9g rfl (by kernel_rfl) (by decide)).mono ?_
  rintro e W' ⟨he,hx⟩
  exact⟨he,hx,hF.ext hx⟩
 refine h.mono ?_
 rintro e W' ⟨he,hx,hF'⟩
 exact⟨he,hx.mono (by simp),hF'⟩
theorem bO1 (w:World):(Instr.build jk #[(0,.int .i64 3),(1,.string (ByteArray.mk #[47,97,47,102])),(4,.int .i64 2),(3,.string (ByteArray.mk #[33]))]).run P w=.ok (opV o1) w:=by kernel_rfl
theorem bO2 (w:World):(Instr.build jk #[(0,.int .i64 5),(1,.string (ByteArray.mk #[47,98]))]).run P w=.ok (opV o2) w:=by kernel_rfl
theorem bO3 (w:World):(Instr.build jk #[(0,.int .i64 10),(1,.string (ByteArray.mk #[47,98]))]).run P w=.ok (opV o3) w:=by kernel_rfl
theorem bFb (w:World):(Instr.build zn #[(0,.string (ByteArray.mk #[47,98]))]).run P w=.ok (.agg (zb6 fB).toArray) w:=by kernel_rfl
theorem bFf (w:World):(Instr.build zn #[(0,.string (ByteArray.mk #[47,97,47,102])),(2,.string (ByteArray.mk #[104,105]))]).run P w=.ok (.agg (zb6 fF).toArray) w:=by kernel_rfl
theorem bFa (w:World):(Instr.build zn #[(0,.string (ByteArray.mk #[47,97])),(1,.bool true)]).run P w=.ok (.agg (zb6 fA).toArray) w:=by kernel_rfl
theorem bs3 (f g h:Fil) (w:World):(Instr.buildSlice qm 3 #[(0,.agg (zb6 f).toArray),(1,.agg (zb6 g).toArray),(2,.agg (zb6 h).toArray)]).run P w=.ok (.slice (some ⟨w.heap.size,0,none⟩) 3 3) { w with heap:=w.heap.push (.cells ([f,g,h].flatMap zb6).toArray zn) }:=by kernel_rfl
theorem bWo (a:Option Addr) (w:World):(Instr.build zgs #[(0,.slice a 1 1),(2,.int .i64 9),(3,.int .i64 99)]).run P w=.ok (.agg #[.slice a 1 1,.slice none 0 0,.int .i64 9,.int .i64 99]) w:=by kernel_rfl
theorem bIb (w:World):(Instr.build zl #[(0,.string (ByteArray.mk #[47,98])),(1,.int .i64 3)]).run P w=.ok (.agg (encI ⟨qB,3,false,[]⟩).toArray) w:=by kernel_rfl
theorem qnk (w:World):(eqM .eql zl (.tmp 56) (.tmp 57) (.agg (encI ⟨qB,3,false,[]⟩).toArray) (.agg (encI ⟨qB,3,false,[]⟩).toArray)).run P w=.ok (.bool true) w:=by kernel_rfl
set_option maxHeartbeats 16000000 in
theorem qck {w:World}{H:Heap}(hw:w.heap=H) (hR:Bl.Rounds H) (hT:z2q H):qj P zqk #[] w fun e w'=>e=.returned (.bool true)/\Ext [] H w'.heap:=by
 have hH0:1 < H.size:=by obtain⟨_,_,_,h,_⟩:=hR;exact lt_of_get h
 refine z3a ?_
 unfold zvr
 refine qc (s:=.any) _ (bFa _) ?_
 refine qc (s:=.any) _ (bFf _) ?_
 refine qc (s:=.any) _ (bFb _) ?_
 refine zaf (s:=.slc) (some ⟨w.heap.size,0,none⟩,3,3) _ (bs3 fA fF fB w) ?_
 obtain⟨w1,hw1⟩:∃ w1,w1={ w with heap:=w.heap.push (.cells ([fA,fF,fB].flatMap zb6).toArray zn) }:=⟨_,rfl⟩
 rw [<-hw1]
 have hc1:Cells w1.heap (some ⟨w.heap.size,0,none⟩) (L3.flatMap zb6):=by rw [hw1];exact .inr ⟨w.heap.size,0,_,_,_,rfl,zk,by simp [L3],by simp [L3,zb6]⟩
 have hx1:Ext [] H w1.heap:=by rw [hw1,<-hw];exact .push _
 refine z0y (us:=[zdr (some ⟨w.heap.size,0,none⟩,3,3)]) EFs qkd rfl rfl (by omega) (by omega) rfl fun w2 hc2 hx2 _=>?_
 refine qc (s:=.any) _ (bWo _ _) ?_
 have hx02:=hx1.trans hx2
 refine zh (qjc rfl (hR.ext hx02 (by simp)) hc2 (hc1.ext hx2 (by simp))) ?_
 rintro e w3 ⟨u,p,m,r,rfl,hU3,hx3,hu⟩
 refine⟨(some ⟨u,0,none⟩,r,true),rfl,?_⟩
 have hx03:=hx02.trans hx3
 have huH:H.size<=u:=by have:=hx02.1;omega
 have hul:u < w3.heap.size:=by obtain⟨_,_,h,_⟩:=hU3.1;exact lt_of_get h
 refine qp rfl ?_
 refine qc (s:=.any) _ (bO1 _) ?_
 refine zh (qg9 (L':=La) rfl hU3 lsL tr0 pl1 (.inr ⟨rfl,.inl rfl,ov1,ch1⟩)) ?_
 rintro e w4 ⟨v4,rfl,_,hx4,p4,m4,hU4⟩
 refine⟨(resV ⟨0,false,3,[]⟩,v4),rfl,?_⟩
 refine z8n ⟨0,false,3,[]⟩ rfl fun w6 hw6=>?_
 have h6:w6.heap[w4.heap.size]?=some (.cells (zsg ⟨0,false,3,[]⟩).toArray zq (0,0)):=by rw [hw6];exact zk
 have hx6:Ext [] w4.heap w6.heap:=by rw [hw6];exact .push _
 have s4:=hx4.1
 refine qc (s:=.any) _ (bO2 _) ?_
 refine zh (qg9 (L':=Lb) rfl (hU4.ext hx6) lsL tr1 pl2 (.inr ⟨rfl,.inr rfl,ov2,ch2⟩)) ?_
 rintro e w7 ⟨v7,rfl,_,hx7,p7,m7,hU7⟩
 refine⟨(resV res0,v7),rfl,?_⟩
 refine qc (s:=.any) _ (bO3 _) ?_
 refine zh (qg9 (L':=Lb) rfl hU7 lsL tr2 pl3 (.inl ⟨by decide,rfl⟩)) ?_
 rintro e w8 ⟨v8,rfl,hE8,hx8,p8,m8,hU8⟩
 refine⟨(resV (z2j 4),v8),rfl,?_⟩
 refine z8n (z2j 4) rfl fun w10 hw10=>?_
 have hx10:Ext [] w8.heap w10.heap:=by rw [hw10];exact .push _
 refine zh (qg0 rfl (hU8.ext hx10)) ?_
 rintro e w11 ⟨p11,m11,rfl,hU11,hx11⟩
 refine⟨_,rfl,?_⟩
 refine zh (z0g (q:=[]) (a:=none) rfl hU11 (.inl rfl) rfl (by simp)) ?_
 rintro e w12 ⟨x,rfl,hM12,hx12⟩
 refine⟨x,rfl,?_⟩
 rw [bw2] at hM12
 have hx812:=(hx10.trans hx11).trans hx12
 have h612:=hx812.get (hx8.get (hx7.get h6 (by simp;omega)) (by simp;omega)) (by simp)
 refine jg (s:=.int .i64) (t:=3) rfl h612 rfl ?_
 refine jh rfl ?_
 have hx38:Ext [u] w3.heap w8.heap:=((hx4.trans (hx6.mono (by simp))).trans hx7).trans hx8
 have hx08:Ext [] H w8.heap:=hx03.own hx38 (fun b hb hlt=>by simp at hb;omega)
 have hx012:=hx08.trans hx812
 refine zh (z9k rfl (hT.ext hx012 (by simp)) (hE8.ext hx812) (by decide)) ?_
 rintro e w13 ⟨rfl,hx13⟩
 refine⟨4,rfl,?_⟩
 refine jh rfl ?_
 have hxl:x.2.1=Lb.length:=by have:=hM12.len;rw [xg encI zed] at this;omega
 refine jh (by rw [hxl];rfl) ?_
 refine zff (enc:=encI) (i:=2) zed (by omega) rfl (hM12.ext hx13 (by simp)).cells hxl (v:=⟨qB,3,false,[]⟩) rfl rfl ?_
 refine qc (s:=.any) _ (bIb _) ?_
 refine qc (s:=.bool) true (qnk _) ?_
 exact⟨rfl,hx012.trans hx13⟩
def bZ:List UInt8:=[3,0]
def dZ:List UInt8:=[155,79,178,78,221,109,29,136,48,226,114,57,130,99,205,191,2,107,151,57,44,195,83,135,185,145,220,2,72,166,40,249]
def D1:List UInt8:=1 :: List.replicate 31 0
theorem sZ:Sha.sum bZ=dZ:=by rw [Sha.sum_eq];kernel_rfl
theorem vZ:zom bZ=(⟨3,[],0,[],[]⟩,0):=by kernel_rfl
theorem qnd:ze0 []=0:=by
 rw [zva (by decide +kernel),zza ?_ ?_ ?_ ?_]
 ·rintro ⟨i,hi,_⟩;simp at hi
 ·rintro ⟨f,hf,_⟩;simp at hf
 ·rintro ⟨f,hf,_⟩;simp at hf
 ·rintro ⟨f,hf,_⟩;simp at hf
theorem qkw:zxg []=([bZ],dZ):=by
 have e:zjb (zf9 (zaq (zf5 (zjl []) 8) (kids (zjl []) [])).2)=bZ:=by kernel_rfl
 rw [zl3,show (9:Nat)=8+1 from rfl,zf5,e,sZ]
 rfl
theorem qfg:Bl.fresh [bZ]=[(dZ,bZ)]:=by
 have h1:(Bl.qcs [] dZ).isSome=false:=by decide +kernel
 simp only [Bl.fresh,List.foldl_cons,List.foldl_nil,Bl.z8e,sZ,h1,Bool.false_eq_true,if_false,List.nil_append]
theorem qk6 {code:Int}{r':Bl.SM}(h:Bl.z5p 1024 [] [bZ] code r'):code=0/\Bl.zcq r' dZ=some bZ/\Bl.zcq r' D1=none:=by
 obtain⟨_,_,h3⟩:=h
 have hl:¬Bl.long [bZ]:=by
  rintro ⟨L,hL,h⟩
  simp only [List.mem_cons,List.not_mem_nil,or_false] at hL
  subst hL;revert h;decide +kernel
 have hx:¬(1024:Int) < ((Bl.total []:Nat):Int)+((Bl.extra [] (Bl.fresh [bZ]):Nat):Int):=by
  rw [qfg];decide +kernel
 obtain⟨h0,hv⟩:=h3 hl hx
 rw [qfg] at hv
 refine⟨h0,?_,?_⟩ <;> rw [hv] <;> decide +kernel
theorem qjz {r:Bl.SM}(h:Bl.zcq r dZ=some bZ):zj3 r dZ=([],0):=by
 have gR:=z7m (kind:=3) h sZ vZ rfl
 unfold zj3
 rw [gR]
 simp [zo3,zj8]
theorem qia {r:Bl.SM}(h:Bl.zcq r D1=none):zj3 r D1=([],50):=by
 have hg:Bl.got none D1=50:=rfl
 have gR:(gV r D1 3).2=50:=by
  unfold gV zq5
  rw [h,if_pos (by rw [hg];decide),hg]
 unfold zj3
 rw [gR,if_pos (by decide)]
theorem qnr (w:World):(Instr.build zf #[(0,.int .u8 1)]).run P w=.ok (arr D1) w:=by kernel_rfl
theorem qmg (x y:Operand) (a:Bool) (w:World):(eqM .eql z1v x y (.bool a) (.bool a)).run P w=.ok (.bool true) w:=by
 have h:(Op.equal z1v (.bool a) (.bool a)).run P w=.ok (a==a) w:=run_equalIn_bool' w 9999 z1v a a (by kernel_rfl)
 rw [beq_self_eq_true] at h
 simp [eqM,eqGuard,binOp,h]
set_option maxHeartbeats 16000000 in
theorem qdx {w:World}{H:Heap}{n:Nat}{o:OpR}(hw:w.heap=H) (hn:n < 256) (hR:Bl.Rounds H) (hT:z2q H) :
  qj P zpl #[.int .u8 (n:Int),opV o] w fun e w'=>e=.returned (.bool true)/\Ext [] H w'.heap:=by
 have hH0:1 < H.size:=by obtain⟨_,_,_,h,_⟩:=hR;exact lt_of_get h
 refine zu1 ?_
 unfold zpo
 refine ji hw fun w1 hw1=>?_
 have g3:w1.heap[H.size]?=some (.cells (opC o).toArray jk (0,0)):=by rw [hw1];exact zk
 have hx1:Ext [] H w1.heap:=by rw [hw1];exact .push _
 refine zh (qck rfl (hR.ext hx1 (by simp)) (hT.ext hx1 (by simp))) ?_
 rintro e w2 ⟨rfl,hx2⟩
 refine⟨true,rfl,?_⟩
 refine qp rfl ?_
 refine zh (qbk 1024 (by omega) rfl) ?_
 rintro e w3 ⟨sp,fp,rfl,hS3,hx3,hfp3⟩
 refine⟨some ⟨sp,0,none⟩,rfl,?_⟩
 refine zh (new_c 1 1 rfl) ?_
 rintro e w4 (⟨h,_⟩ | ⟨_,p,m,rfl,hU4,hx4,hpl,hpu,hml,hmu⟩)
 ·exact absurd (by unfold z8m;omega) h
 refine⟨(some ⟨p,0,none⟩,0),rfl,?_⟩
 have hx02:=hx1.trans hx2
 have hx03:=hx02.trans hx3
 have hx04:=hx03.trans hx4
 have s2:=hx02.1
 have s4:=hx4.1
 refine zh (z6n (L:=[]) rfl (hS3.ext hx4 (by simp)) (fun b hb=>by have:=(hfp3 b hb).2;omega) (hR.ext hx04 (by simp)) (fun h=>by have:=(hfp3 1 h).1;omega) (.inl rfl) rfl (by decide) (by simp [Bl.total]) (by decide) (by decide) (by intro k L h;simp [Bl.zcq,zc6] at h)) ?_
 rintro e w5 ⟨c1,d1,r,k5,fp5,rfl,hd1,hS5,hx5,hf5a,hf5b,hP5,ht5⟩
 obtain⟨hP,hd⟩:=hP5.2 qnd
 rw [qkw] at hP hd
 obtain⟨rfl,v1,v2⟩:=qk6 hP
 rw [if_pos rfl] at hd
 have hd:d1=dZ:=hd
 subst hd
 refine⟨(arr dZ,0),rfl,?_⟩
 have hx05:Ext [] H w5.heap:=hx04.own hx5 (fun b hb hlt=>by have:=(hfp3 b hb).1;omega)
 have hU5:Up w5.heap p m 1 1 []:=hU4.ext hx5 (fun h=>by have:=(hfp3 p h).2;omega) (fun h=>by have:=(hfp3 m h).2;omega)
 have tot5:Bl.total r<=8192:=by
  have tz:Bl.total ([]:Bl.SM)=0:=rfl
  rw [tz,List.length_nil] at ht5
  omega
 have hok5:MOk (fun L:List UInt8=>L.length=32) r k5:=by obtain⟨m,_,_,h,_⟩:=hS5;exact h
 have hlen5:∀ k L,Bl.zcq r k=some L->L.length < 1099511627776:=fun k L hv=>by
  have:=qbz hok5 hv
  omega
 have g35:=(hx04.trans (Ext.refl _ _)).1
 have h35:w5.heap[H.size]?=some (.cells (opC o).toArray jk (0,0)):=hx5.get (((hx2.trans hx3).trans hx4).get g3 (by simp)) (fun h=>by have:=(hfp3 _ h).1;have:=hx2.1;have:=lt_of_get g3;omega)
 refine qhp hd1 rfl fun w7 hw7=>?_
 have hx7:Ext [] w5.heap w7.heap:=by rw [hw7];exact .push _
 have hb7:w7.heap[w5.heap.size]?=some (.cells (byteCells dZ).toArray zf (0,0)):=by rw [hw7];exact zk
 have hx07:=hx05.trans hx7
 refine zb3 (fun k s W=>∃ i:Nat,s.2=(i:Int)/\k+i=n % 8/\Mine W.heap w7.heap.size zf 32 s.1 ((List.replicate i dZ).flatMap Bl.zd7)/\Ext [] w7.heap W.heap) (n % 8) ⟨0,rfl,rfl,.inl ⟨rfl,rfl⟩,.refl _ _⟩ ?_
 rintro k s W ⟨i,hi,hk,hM,hxW⟩ Q hQ
 refine qai n 8 rfl rfl (by omega) ?_
 refine zp6 (by omega) (by omega) ?_
 rw [hi]
 refine zy (fun h=>?_) (fun h=>?_)
 ·refine xw rfl (hxW.get hb7 (by simp)) (by simp [hd1]) ?_
  refine qfe (Ds:=List.replicate i dZ) (x:=s.1) hd1 rfl hM hxW.1 (by simp;omega) fun x' w10 hm10 hx10=>?_
  refine jr ((i+1:Nat):Int) (by omega) (by omega) (by omega) ?_
  refine hQ (k-1) _ _ (by omega) ⟨i+1,rfl,by omega,?_,hxW.own hx10 (fun b hb hlt=>by have:=jo hM b hb;omega)⟩
  rw [List.replicate_succ'];exact hm10
 have hin:i=n % 8:=by omega
 subst hin
 have hxl:s.1.2.1=n % 8:=by have:=hM.len;rw [xg Bl.zd7 Bl.zck,List.length_replicate] at this;omega
 have hx0W:=hx07.trans hxW
 have hx5W:=hx7.trans hxW
 refine zh (qfo (.inl rfl)) ?_
 rintro e w11 ⟨rfl,rfl⟩
 refine⟨(none,7),rfl,?_⟩
 refine zh (qfo (.inr rfl)) ?_
 rintro e w12 ⟨rfl,rfl⟩
 refine⟨(none,7),rfl,?_⟩
 have hS12:=hS5.ext hx5W (by simp)
 have hR12:=hR.ext hx0W (by simp)
 have hU12:=hU5.ext hx5W (by simp) (by simp)
 have hf12:∀ b∈fp5,b < w12.heap.size:=fun b hb=>by have:=hf5a b hb;have:=hx5W.1;omega
 refine zh (R:=fun e w'=>∃ (q:Option Addr) (c:Int),e=.returned (.tuple #[.pointer q,.int .i64 c])/\Ext [] w12.heap w'.heap/\(c==8)=decide ((s.1.2.1:Int) > 4)/\(!(Option.isNone q))=(c==0)) ?_ ?_
 ·rcases Nat.lt_or_ge 4 (n % 8) with h4 | h4
  ·refine qj.mono (qf2 (by omega)) ?_
   rintro e w' ⟨rfl,rfl⟩
   exact⟨none,8,rfl,.refl _ _,(decide_eq_true (by omega)).symm,rfl⟩
  ·refine qj.mono (z4y (Ds:=List.replicate (n % 8) dZ) rfl hS12 hR12 hf12 hU12 hM.cells (by simpa using hxl) (by simpa using h4) (by intro d hd;rw [(List.mem_replicate.1 hd).2];exact hd1) hlen5 (by intro d hd;rw [(List.mem_replicate.1 hd).2,qjz v1];exact⟨by simp,by simp⟩)) ?_
   have hc:zu4 r (List.replicate (n % 8) dZ)=0:=ztd (by intro d hd;rw [(List.mem_replicate.1 hd).2,qjz v1])
   rintro e w' ⟨hx',⟨h,_⟩ | ⟨_,u,_,_,rfl,_⟩⟩
   ·exact absurd hc h
   ·exact⟨some ⟨u,0,none⟩,0,rfl,hx',(decide_eq_false (by omega)).symm,rfl⟩
 rintro e w13 ⟨q,c,rfl,hx13,hq1,hq2⟩
 refine⟨(q,c),rfl,?_⟩
 refine qc (s:=.any) _ (qnr _) ?_
 refine z0y (us:=Bl.zd7 D1) EDg qka (zvb (by decide)) (Bl.zck _) (by omega) (by omega) rfl fun w14 hc14 hx14 _=>?_
 have hx1214:=hx13.trans hx14
 refine zh (z4y (Ds:=[D1]) rfl (hS12.ext hx1214 (by simp)) (hR12.ext hx1214 (by simp)) (fun b hb=>by have:=hf12 b hb;have:=hx1214.1;omega) (hU12.ext hx1214 (by simp) (by simp)) (by simpa using hc14) rfl (by decide) (by intro d h;simp at h;subst h;decide) hlen5 (by intro d h;simp at h;subst h;rw [qia v2];exact⟨by simp,by simp⟩)) ?_
 have hc1:zu4 r [D1]=50:=by unfold zu4;simp only [List.map_cons,List.map_nil];rw [qia v2];rfl
 rw [hc1]
 rintro e w15 ⟨hx15,⟨_,rfl⟩ | ⟨h,_⟩⟩
 rotate_left
 ·exact absurd h (by decide)
 refine⟨(none,50),rfl,?_⟩
 have hx1215:=hx1214.trans hx15
 have hx0_15:=hx0W.trans hx1215
 refine xw rfl ((hx5W.trans hx1215).get h35 (by simp)) rfl ?_
 refine zh (qkm (o:=o) rfl) ?_
 rintro e w16 ⟨v,rfl,hE16,hx16⟩
 refine⟨(resV (z2j 7),v),rfl,?_⟩
 refine z8n (z2j 7) rfl fun w18 hw18=>?_
 have h18:w18.heap[w16.heap.size]?=some (.cells (zsg (z2j 7)).toArray zq (0,0)):=by rw [hw18];exact zk
 have hx18:Ext [] w16.heap w18.heap:=by rw [hw18];exact .push _
 have hx0_18:=(hx0_15.trans hx16).trans hx18
 refine jh rfl (jh rfl ?_)
 rw [hq1]
 refine qc (s:=.bool) true (qmg _ _ _ _) ?_
 refine jh rfl ?_
 rw [hq2]
 refine qc (s:=.bool) true (qmg _ _ _ _) ?_
 refine jh rfl (jh rfl ?_)
 refine jg (s:=.int .i64) (t:=7) rfl h18 rfl ?_
 refine jh rfl ?_
 refine zh (z9k rfl (hT.ext hx0_18 (by simp)) (hE16.ext hx18) (by decide)) ?_
 rintro e w19 ⟨rfl,hx19⟩
 refine⟨7,rfl,?_⟩
 refine jh rfl ?_
 refine zh qgw ?_
 rintro e w20 ⟨rfl,rfl⟩
 refine⟨(none,0,0),rfl,?_⟩
 refine jh rfl ?_
 refine z0y (us:=[.string (ByteArray.mk #[97])]) qhb zj6 rfl rfl (by omega) (by omega) rfl fun w21 _ hx21 _=>?_
 refine zh qda ?_
 rintro e w22 ⟨rfl,rfl⟩
 refine⟨false,rfl,?_⟩
 refine jh rfl ?_
 refine zh qez ?_
 rintro e w23 ⟨rfl,rfl⟩
 refine⟨none,rfl,?_⟩
 refine jh rfl ?_
 refine zh qa4 ?_
 rintro e w24 ⟨rfl,rfl⟩
 exact⟨none,rfl,rfl,(hx0_18.trans hx19).trans hx21⟩
end Go.Proofs.YthaaekcaaecdeaaGreatDoor
namespace Go.Fw
open Go Go.ChangeShapes Go.WideShapes Go.ChangeAt Go.RowKit
theorem z0l {w:World}{b o:Nat}{s:Option _}{v:Value}(h:w.cell? ⟨b,o,s⟩=some v):s=none/\∃ c T fr,w.heap[b]?=some (.cells c T fr)/\c[o]?=some v:=by
 unfold World.cell? at h
 simp only at h
 split at h
 ·rename_i c T fr hc
  split at h
  ·cases h
  ·rename_i hs
   refine⟨by simpa using hs,c,T,fr,hc,h⟩
 ·cases h
theorem qgh {W W':World}(h:∀ i,i < W.heap.size->W'.heap[i]?=W.heap[i]?){p:MemPlace}(hp:p.block < W.heap.size):W.sameAt W' p:=by
 cases p with
 | cell b off=>simp only [World.sameAt,World.cell?];rw [h b hp]
 | map b=>exact h b hp
theorem zrq {H:Type}{enc:TypeId×Value->H}{P:Program}(hl:laidOutB P=true){W W':World}{sp':Nat->Bool}(h:∀ i,i < W.heap.size->W'.heap[i]?=W.heap[i]?) :
  ∀ {ts:List TypeId}{vs:List Value}{ds:List (DataW H)}{ps:List MemPlace},(∀ t∈ts,P.readableRec t=true/\t < P.types.size)->(∀ p∈ps,p.block < W.heap.size/\sp' p.block=true) ->
  DataW.TrodAll enc P W 0 (fun _=>true) true ts vs ds ps->DataW.TrodAll enc P W' 0 sp' true ts vs ds ps
 | [],vs,ds,ps,_,_,ht=>by
  obtain⟨rfl,rfl,rfl⟩:=trodAll_nil ht
  rfl
 | t :: ts,vs,ds,ps,hr,hp,ht=>by
  obtain⟨v,vs',d,ds',p,q,rfl,rfl,rfl,h1,h2⟩:=trodAll_cons ht
  refine⟨p,q,?_,zrq hl h (fun t ht=>hr t (by simp [ht])) (fun x hx=>hp x (by simp [hx])) h2,rfl⟩
  exact WideElems.Trod_stays hl (hr t (by simp)).1 (hr t (by simp)).2 h1 (fun x hx=>qgh h (hp x (by simp [hx])).1) fun x hx=>(hp x (by simp [hx])).2
theorem qcn {H:Type}{enc:TypeId×Value->H}{P:Program}{f:Func}{s:ChangeSpec}{apart fresh handsOn again:Bool}{W W':World}{args:Array Value}{v:Value}{ds gs:List (DataW H)}{before:List MemPlace}
  (hl:laidOutB P=true) (hpar:∀ t∈f.params.toList,P.readableRec t=true/\t < P.types.size) (hvars:s.vars=[])
  (hW:DataW.Whole enc P f.params.toList s.vars apart W args.toList ds gs before) (hfa:(s.fn H (ds++gs)).args=ds) (hfv:(s.fn H (ds++gs)).vars=[])
  (hres:∀ (b:Nat) (sp:Nat->Bool) (hd:Bool),DataW.TrodAll enc P W' b sp hd f.resultTypes.toList (v.resultList f.resultTypes.size) (s.fn H (ds++gs)).results [])
  (hx:Ext [] W.heap W'.heap) (hc:Calm W W')
  (hok:∀ (j:Nat) (t:TypeId) (r:Value),f.resultTypes[j]?=some t->(v.resultList f.resultTypes.size)[j]?=some r->Value.okWide P W' .any 0 t r) :
  s.post enc P f apart fresh handsOn again W args v W':=by
 have hsame:∀ i,i < W.heap.size->W'.heap[i]?=W.heap[i]?:=fun i hi=>hx.2 i hi (by simp)
 have hlt:∀ p∈before,p.block < W.heap.size:=fun p hp=>hW.lt p hp
 have hW0:=hW
 obtain⟨pa,pv,hA,hV,rfl,hz,hn⟩:=hW
 rw [hvars] at hV
 obtain⟨rfl,rfl⟩:=trodVars_none hV
 rw [List.append_nil] at hlt hz hn
 have hargs:∀ sp:Nat->Bool,(∀ p∈pa,sp p.block=true)->DataW.TrodAll enc P W' 0 sp true f.params.toList args.toList (s.fn H (ds++[])).args pa:=by
  intro sp hsp
  rw [hfa]
  exact zrq hl hsame hpar (fun p hp=>⟨hlt p hp,hsp p hp⟩) hA
 have hvs:∀ sp:Nat->Bool,DataW.TrodVars enc P W' sp s.vars (s.fn H (ds++[])).vars []:=by
  intro sp
  rw [hvars,hfv]
  rfl
 refine⟨ds,[],pa++[],[],pa,[],hW0,hres _ _ _,hargs _ (fun p hp=>by simpa using hlt p hp),hvs _,⟨hc.1,hc.2.1,fun i hi=>?_⟩,fun _=>⟨hok,_,_,([]++pa)++[],⟨[]++pa,[],trodAll_append (hargs _ (fun _ _=>rfl)) (hres _ _ _),hvs _,rfl,?_,?_⟩,?_⟩⟩
 ·rw [hsame i hi]
  cases W.heap[i]? with
  | none=>rfl
  | some o=>cases o <;> first | exact⟨rfl,rfl,rfl,fun _ _=>rfl⟩ | exact .inr ⟨rfl,rfl⟩ | rfl
 ·intro b off hp
  have hp:MemPlace.cell b off∈pa:=by simpa using hp
  have h1:=hz b off (by simpa using hp)
  have h2:=hsame b (hlt _ hp)
  unfold World.frozen? at h1 |-
  rw [h2]
  exact h1
 ·intro ha
  simpa using hn ha
 ·intro p hp _
  simpa using hp
section
variable {H:Type}{enc:TypeId×Value->H}{P:Program}{W:World}
def shapeOf (P:Program) (t:TypeId):Option (List (TypeId×Nat)):=match P.underlying t with | some (.struct fs)=>some (fs.toList.map fun f=>(f.type,f.offset)) | _=>none
theorem z9r {t:TypeId}{L:List (TypeId×Nat)}(hs:shapeOf P t=some L){cs:List Value}{fuel:Nat}{x:DataW H×List MemPlace}(h:DataW.trod enc P W 0 (fun _=>true) true fuel t cs=some x) :
  ∃ ys:List (DataW H),x.1=.agg ys/\cs.length=P.cellsOf t/\ys.length=L.length/\∀ (i:Nat) (ti:TypeId) (off:Nat),L[i]?=some (ti,off)->∃ m ps y,ys[i]?=some y/\DataW.trod enc P W 0 (fun _=>true) true m ti ((cs.drop off).take (P.cellsOf ti))=some (y,ps):=by
 unfold shapeOf at hs
 split at hs
 ·rename_i fs hu
  injection hs with hs
  subst hs
  obtain⟨xs,n,_,rfl,hl,hlen,hf⟩:=DataW.trod_struct hu h
  refine⟨xs.map (·.1),rfl,hl,by simpa using hlen,fun i ti off hi=>?_⟩
  rw [List.getElem?_map,Option.map_eq_some_iff] at hi
  obtain⟨f,hfi,he⟩:=hi
  simp only [Prod.mk.injEq] at he
  obtain⟨rfl,rfl⟩:=he
  have h1:=hf i f (by simpa using hfi)
  have hil:i < xs.length:=by
   have:=(List.getElem?_eq_some_iff.1 hfi).1
   simp at this;omega
  rw [List.getElem?_eq_getElem hil] at h1
  exact⟨n,(xs[i]).2,(xs[i]).1,by simp [List.getElem?_eq_getElem hil],h1⟩
 ·cases hs
theorem qbw {t:TypeId}{k:IntKind}(ht:P.underlying t=some (.int k)){v:Value}{fuel:Nat}{x:DataW H×List MemPlace}(h:DataW.trod enc P W 0 (fun _=>true) true fuel t [v]=some x):∃ n,v=.int k n/\(Lit.int k n).wf=true:=by
 cases fuel with
 | zero=>simp [DataW.trod] at h
 | succ m=>
  unfold DataW.trod at h
  rw [ht] at h
  split at h <;> simp_all
end
end Go.Fw
namespace Go.Proofs.YthaaekcaaecdeaaGreatDoor
open Go Go.Fw Go.Proofs Go.ChangeShapes Go.WideShapes Go.ChangeAt Go.RowKit
section
variable {Hh:Type}{enc:TypeId×Value->Hh}{W:World}
theorem qam {t:TypeId}(ht:P.underlying t=some .string){v:Value}{fuel:Nat}{x:DataW Hh×List MemPlace}(h:DataW.trod enc P W 0 (fun _=>true) true fuel t [v]=some x):∃ L:List UInt8,v=.string (strOf L):=by
 cases fuel with
 | zero=>simp [DataW.trod] at h
 | succ m=>
  unfold DataW.trod at h
  rw [ht] at h
  split at h <;> simp_all
  exact⟨_,z7d.symm⟩
theorem qly:shapeOf P jk=some [(zav,0),(qx,1),(qx,2),(qx,3),(zav,4),(zav,5)]:=by kernel_rfl
theorem qmx:P.cellsOf zav=1:=by kernel_rfl
theorem cStr:P.cellsOf qx=1:=by kernel_rfl
theorem qlr {α:Type}{l:List α}(h:l.length=6):∃ a b c d e f,l=[a,b,c,d,e,f]:=by
 match l,h with
 | [a,b,c,d,e,f],_=>exact⟨a,b,c,d,e,f,rfl⟩
theorem qgm {cs:List Value}{fuel:Nat}{x:DataW Hh×List MemPlace}(h:DataW.trod enc P W 0 (fun _=>true) true fuel jk cs=some x):∃ o:OpR,cs=opC o:=by
 obtain⟨zs,_,hl,_,hg⟩:=z9r qly h
 rw [qma] at hl
 obtain⟨c2,c3,c4,c5,c6,c7,rfl⟩:=qlr hl
 obtain⟨p0,q0,r0,_,k0⟩:=hg 0 zav 0 rfl
 obtain⟨p1,q1,r1,_,k1⟩:=hg 1 qx 1 rfl
 obtain⟨p2,q2,r2,_,k2⟩:=hg 2 qx 2 rfl
 obtain⟨p3,q3,r3,_,k3⟩:=hg 3 qx 3 rfl
 obtain⟨p4,q4,r4,_,k4⟩:=hg 4 zav 4 rfl
 obtain⟨p5,q5,r5,_,k5⟩:=hg 5 zav 5 rfl
 rw [qmx] at k0 k4 k5
 rw [cStr] at k1 k2 k3
 obtain⟨kd,rfl,_⟩:=qbw (v:=c2) qeg k0
 obtain⟨s1,rfl⟩:=qam (v:=c3) zzf k1
 obtain⟨s2,rfl⟩:=qam (v:=c4) zzf k2
 obtain⟨s3,rfl⟩:=qam (v:=c5) zzf k3
 obtain⟨n4,rfl,_⟩:=qbw (v:=c6) qeg k4
 obtain⟨n5,rfl,_⟩:=qbw (v:=c7) qeg k5
 exact⟨⟨kd,s1,s2,s3,n4,n5⟩,rfl⟩
theorem z94 {Q:Program}{t:TypeId}{L:List (TypeId×Nat)}(hs:shapeOf Q t=some L){W:World}{r:Reach}{base:Nat}{v:Value}(h:Value.okWide Q W r base t v):∃ cs:Array Value,v=.agg cs:=by
 unfold shapeOf at hs
 split at hs
 ·rename_i fs hu
  unfold Value.okWide at h
  rw [hu] at h
  obtain⟨cs,hc,_⟩:=h
  exact⟨cs,hc⟩
 ·cases hs
end
namespace RowC
theorem own:ownKnob Tryz.prog.godebug=none:=by kernel_rfl
theorem laidOut:laidOutB Tryz.prog=true:=by kernel_rfl
theorem gTab:Tryz.prog.globalNamed "veneer/sha.rounds"=some 1:=by kernel_rfl
theorem qm4:Tryz.prog.globalNamed "errors.errorType"=some 0:=by kernel_rfl
theorem qdp:(Tryz.prog.globals[1]?).map (·.type)=some zfr:=by kernel_rfl
theorem u66:Tryz.prog.underlying zfr=some (.array 64 zm6):=by kernel_rfl
theorem u64':Tryz.prog.underlying zm6=some (.int .u32):=by kernel_rfl
theorem qhd:Tryz.prog.cellsOf zfr=64:=by kernel_rfl
theorem qg2:Tryz.prog.cellsOf zm6=1:=by kernel_rfl
def kz:List Int:=Sha.kc.map fun n:Nat=>(n:Int)
theorem qjy:(Rows.laid_veneer_sha_rounds:DataW Unit)=Lib.tabData .u32 kz:=by kernel_rfl
theorem qlm:∀ i,i < 64->kz.getD i 0=((Sha.K i).toNat:Int):=by decide +kernel
theorem qcb {W:World}(h:Lib.TabIs Tryz.prog W "veneer/sha.rounds" .u32 kz):Bl.Rounds W.heap:=by
 have hc:∀ i,i < 64->W.cell? ⟨1,i,none⟩=some (.int .u32 ((Sha.K i).toNat:Int)):=by
  intro i hi
  rw [<-qlm i hi]
  exact h.cell gTab i (by simpa [kz,Sha.kc] using hi)
 obtain⟨_,c,T,fr,hb,_⟩:=z0l (hc 0 (by omega))
 refine⟨c,T,fr,hb,fun i hi=>?_⟩
 obtain⟨_,c2,T2,fr2,hb2,h2⟩:=z0l (hc i hi)
 rw [hb] at hb2
 cases hb2
 rw [Nat.zero_add]
 exact h2
def qet:List UInt8:=[101,114,114,111,114]
theorem qg8 {ty:TypeId}(h1:ty < Tryz.prog.types.size) (h2:Tryz.prog.rowNamed ty qet=true):ty=zfo:=by
 have h:(List.range Tryz.prog.types.size).all (fun t=>!Tryz.prog.rowNamed t qet || t==zfo)=true:=by kernel_rfl
 have h3:=List.all_eq_true.1 h ty (List.mem_range.2 h1)
 rw [h2] at h3
 simpa using h3
theorem qcw {W:World}(h:handlesMet Tryz.prog [("errors.errorType",Rows.laid_errors_errorType)] W):z2q W.heap:=by
 have h1:=h _ (List.mem_singleton.2 rfl)
 have hf:(Rows.laid_errors_errorType:DataW Unit).funcsIn?=none:=by kernel_rfl
 simp only [hf] at h1
 obtain⟨name,u,ty,e1,e2,e3,e4,e5⟩:=h1
 have hn:(Rows.laid_errors_errorType:DataW Unit).handleName?=some qet:=by kernel_rfl
 have hu:(Tryz.prog.cutTypes.find? (·.1== "internal/reflectlite.rtype")).map (·.2)=some za9:=by kernel_rfl
 obtain rfl:name=qet:=(Option.some.inj (hn.symm.trans e1)).symm
 obtain rfl:u=za9:=(Option.some.inj (hu.symm.trans e2)).symm
 obtain rfl:=qg8 e3 e4
 unfold World.var? at e5
 rw [qm4] at e5
 simp only [Option.bind_some] at e5
 split at e5
 ·rename_i cs T fr hb
  exact⟨T,fr,by rw [hb,Option.some.inj e5];rfl⟩
 ·cases e5
theorem qad {W:World}(h:laidMetH Tryz.prog Rows.unionNilRow.laid W):Bl.Rounds W.heap/\z2q W.heap:=by
 have h':laidMet Tryz.prog [("veneer/sha.rounds",(Rows.laid_veneer_sha_rounds:DataW Unit))] W/\handlesMet Tryz.prog [("errors.errorType",Rows.laid_errors_errorType)] W:=h
 refine⟨?_,qcw h'.2⟩
 have h1:=h'.1
 rw [qjy] at h1
 exact qcb (Lib.tabIs_of_head (rest:=[]) gTab qdp u66 u64' qg2 qhd h1)
noncomputable def qng (o:Obj):Obj:=match o with
 | .cells _ t frozen=>.cells ((kz.map fun n=>Value.int .u32 n).toArray) t frozen
 | o=>o
noncomputable def qnz (o:Obj):Obj:=match o with
 | .cells _ t frozen=>.cells #[.iface za9 (.agg #[.pointer (some ⟨Tryz.prog.globals.size,zfo,none⟩)])] t frozen
 | o=>o
noncomputable def laidWorld (os:Os):World:={ World.holding Tryz.prog os ⟨#[],#[],[]⟩ with heap:=((World.holding Tryz.prog os ⟨#[],#[],[]⟩).heap.modify 1 qng).modify 0 qnz }
theorem byte_of {n:Int}(h:(Lit.int .u8 n).wf=true):∃ m:Nat,n=(m:Int)/\m < 256:=by
 have h1:IntKind.u8.min=0:=rfl
 have h2:IntKind.u8.max=255:=rfl
 simp only [Lit.wf,Bool.and_eq_true,decide_eq_true_eq] at h
 exact⟨n.toNat,by omega,by omega⟩
end RowC
end Go.Proofs.YthaaekcaaecdeaaGreatDoor
