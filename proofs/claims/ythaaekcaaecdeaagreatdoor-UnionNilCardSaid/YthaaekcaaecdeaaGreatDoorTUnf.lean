/- Part 6 of the texts below the card, joined. -/
import Derived.Test.YthaaekcaaecdeaaGreatDoorTUne
import Derived.Test.YthaaekcaaecdeaaGreatDoorTUnc
import Derived.Laws.StructEq
import Derived.LaidEql
import Derived.Stop.Asserts
namespace Go.Proofs.YthaaekcaaecdeaaGreatDoor
open Go Go.Fw Go.Proofs Go.Sort
def zh7 (q:Path) (i:Ino):Bool:=decide (q.length < i.names.length)&&zbq i.names q
def ze2 (L:List Ino) (q:Path):List Ino:=L.filter (zh7 q)
theorem z06:∀ {b a:List Ino},a.Perm b->(a.Pairwise fun x y=>¬zeb y.names x.names < 0)->(b.Pairwise fun x y=>zeb x.names y.names < 0)->a=b
 | [],a,h,_,_=>List.Perm.eq_nil h
 | y :: b,[],h,_,_=>by have:=h.length_eq;simp at this
 | y :: b,x :: a,h,ha,hb=>by
  obtain⟨ha1,ha2⟩:=List.pairwise_cons.1 ha
  obtain⟨hb1,hb2⟩:=List.pairwise_cons.1 hb
  by_cases e:x=y
  ·subst e
   rw [z06 (List.Perm.cons_inv h) ha2 hb2]
  ·have h1:x∈b:=by
    rcases List.mem_cons.1 (h.mem_iff.1 (List.mem_cons_self (a:=x) (l:=a))) with h1 | h1
    ·exact absurd h1 e
    ·exact h1
   have h2:y∈a:=by
    rcases List.mem_cons.1 (h.mem_iff.2 (List.mem_cons_self (a:=y) (l:=b))) with h2 | h2
    ·exact absurd h2.symm e
    ·exact h2
   exact absurd (hb1 x h1) (ha1 y h2)
def nmI (i:Ino):Path:=(vg (x9 i.names)).1
theorem qhs (W:World) (x y:Ino):qj P zc4 #[.agg (encI x).toArray,.agg (encI y).toArray] W fun e W'=>e=.returned (.int .i64 (zeb (nmI x) (nmI y)))/\Ext [] W.heap W'.heap:=by
 refine znj ?_
 unfold ziy
 refine ji rfl fun w1 hw1=>?_
 refine ji hw1 fun w2 hw2=>?_
 have hx2:Ext [] W.heap w2.heap:=by rw [hw2];exact (Ext.push _).trans (Ext.push _)
 have ha:w2.heap[W.heap.size]?=some (.cells (encI x).toArray zl (0,0)):=by rw [hw2];exact za1 zk
 have hb:w2.heap[(W.heap.push (.cells (Value.agg (encI x).toArray).cells zl)).size]?=some (.cells (encI y).toArray zl (0,0)):=by rw [hw2];exact zk
 generalize (W.heap.push (.cells (Value.agg (encI x).toArray).cells zl)).size=b3 at *
 refine vw rfl fun w3 hw3=>?_
 have hx23:Ext [] w2.heap w3.heap:=by rw [hw3];exact .refl _ _
 refine jg (s:=.str) (t:=strOf (x9 x.names)) rfl (hx23.get ha (by simp)) rfl ?_
 refine jg (s:=.str) (t:=strOf (x9 y.names)) rfl (hx23.get hb (by simp)) rfl ?_
 refine zh (jm (x9 x.names) rfl) ?_
 rintro e w4 ⟨x4,rfl,hm4,hx4⟩
 refine⟨x4,rfl,?_⟩
 have hx24:=hx23.trans hx4
 refine⟨jg (s:=.str) (t:=strOf (x9 y.names)) rfl (hx24.get hb (by simp)) rfl rfl,?_⟩
 refine zh (jm (x9 y.names) rfl) ?_
 rintro e w5 ⟨x5,rfl,hm5,hx5⟩
 refine⟨x5,rfl,?_⟩
 have h45:=hm4.ext hx5 (by simp)
 have ok1:=(zmu (x9 x.names)).2
 refine zh (z0n rfl h45.cells (by have:=h45.len;simp at this;omega) hm5.cells (by have:=hm5.len;simp at this;omega) (by omega)) ?_
 rintro e w6 ⟨rfl,hw6⟩
 subst w6
 exact⟨_,rfl,rfl,hx2.trans (hx24.trans hx5)⟩
theorem qfv {w:World}{H:Heap}{B:Nat}{x:Option Addr×Nat×Nat}{xs:List Ino}(hw:w.heap=H) (hM:Mine H B zl 4 x (xs.flatMap encI)) (hlen:xs.length<=1099511627776) :
  qj P zc5 #[.slice x.1 x.2.1 x.2.2,.func (.func zc4) #[] #[]] w fun e w'=>e=.returned (.tuple #[])/\∃ ys:List Ino,ys.Perm xs/\(ys.Pairwise fun a b=>¬zeb (nmI b) (nmI a) < 0)/\Mine w'.heap B zl 4 x (ys.flatMap encI)/\Ext (jw x) H w'.heap:=
 qjf (α:=Ino) Tryz.sortD (k:=4) (fun w=>by kernel_rfl) (fun w=>by kernel_rfl) encI zed (by omega) (fun x=>zox) (fun x y=>zeb (nmI x) (nmI y)) (z5q nmI) (g:=zc4) (fun args w=>by kernel_rfl) (fun args w=>by kernel_rfl) qhs hw hM (by omega)
set_option maxHeartbeats 4000000 in
theorem z0g {w:World}{H:Heap}{p m:Nat}{nn bb:Int}{L:List Ino}{a:Option Addr}{n nc:Nat}{q:Path}(hw:w.heap=H) (hU:Up H p m nn bb L) (hL:Cells H a (strRow q)) (hn:n=q.length) (hq:q.length<=9223372036854775807) :
  qj P zcr #[.pointer (some ⟨p,0,none⟩),.slice a n nc] w fun e w'=>∃ x,e=.returned (zdr x)/\Mine w'.heap H.size zl 4 x ((ze2 L q).flatMap encI)/\Ext [] H w'.heap:=by
 obtain⟨M,c,h1,h2,h3,h4⟩:=hU
 have hml:M.length=L.length:=by have:=h4.perm.length_eq;rwa [List.length_map] at this
 have hmany:=h4.good.many
 refine zo4 ?_
 unfold zj7
 refine qp rfl ?_
 simp only [jc,zan,Nat.zero_add]
 refine jg (s:=.map) (t:=some m) hw h1 rfl ?_
 refine zaf (s:=.ptr) (some ⟨H.size,0,none⟩) _ (zwc uM hw h2) ?_
 have hmlt:=lt_of_get h2
 refine zb3 (fun k (s:Option Addr×Nat×Nat) W=>∃ (seen:Array Nat) (last:Nat) (xs:List Ino),Ext [] H W.heap/\W.heap[H.size]?=some (.mapIter (some m) c seen last)/\c<=last/\k=(M.filter fun y=>!seen.contains y.2.2).length/\Mine W.heap (H.size+1) zl 4 s (xs.flatMap encI) /\
  xs.Perm (((M.filter fun y=>seen.contains y.2.2).map (·.2.1)).filter (zh7 q))) (M.filter fun y=>!(#[]:Array Nat).contains y.2.2).length ?_ ?_
 ·exact⟨#[],c,[],.push _,zk,Nat.le_refl _,rfl,.inl ⟨rfl,rfl⟩,by simp⟩
 rintro k s W ⟨seen,last,xs,hxW,hrW,hcl,rfl,hmine,hperm⟩ K hK
 have hmW:=hxW.get h2 (by simp)
 have hxs:xs.length<=1024:=by
  rw [hperm.length_eq]
  have h5:=List.length_filter_le (zh7 q) ((M.filter fun y=>seen.contains y.2.2).map (·.2.1))
  rw [List.length_map] at h5
  have h6:=List.length_filter_le (fun y:List UInt8×Ino×Nat=>seen.contains y.2.2) M
  omega
 have hsl:s.2.1=xs.length:=by have:=hmine.len;rw [xg encI zed] at this;omega
 have hHW:=hxW.1
 have hrlt:=lt_of_get hrW
 rcases z0z (P:=P) (ty:=zbk) rfl hmW hrW (fun x hx=>h3.old x hx) hcl with⟨hall,W1,hnx,hc1,hh1⟩ | ⟨x,hx,hns,W1,hnx,hc1,hh1⟩
 ·refine zaf (s:=.any) _ W1 hnx ?_ hc1
  refine ziv (s:=.bool) false rfl rfl ?_
  refine qp rfl ?_
  have hall2:(M.filter fun y=>seen.contains y.2.2)=M:=by
   rw [List.filter_eq_self]
   intro y hy
   simpa using hall y hy
  rw [hall2] at hperm
  have hpL:xs.Perm (ze2 L q):=hperm.trans (h4.perm.filter _)
  refine zh (l:=[]) (qfv (H:=W.heap) hh1 hmine (by omega)) ?_
  rintro e w2 ⟨rfl,ys,hys,hso,hm2,hx2⟩
  refine⟨(),rfl,s,rfl,?_,hxW.own hx2 (by intro b hb hlt;have:=jo hmine b hb;omega)⟩
  have hnm:∀ i∈ys,nmI i=i.names:=by
   intro i hi
   have h7:i∈L:=(List.mem_filter.1 (hpL.mem_iff.1 (hys.mem_iff.1 hi))).1
   unfold nmI;rw [zf1 (h4.good.ok i h7).1]
  have heq:ys=ze2 L q:=by
   refine z06 (hys.trans hpL) ?_ (h4.good.rise.filter _)
   refine List.Pairwise.imp_of_mem (fun {a b} ha hb h=>?_) hso
   rw [hnm a ha,hnm b hb] at h;exact h
  rw [<-heq]
  exact hm2.mono (by omega)
 ·refine zaf (s:=.any) _ W1 hnx ?_ hc1
  refine ziv (s:=.bool) true rfl rfl ?_
  refine jh rfl ?_
  have hr1:W1.heap[H.size]?=some (.mapIter (some m) c (seen.push x.2.2) c):=by rw [hh1];exact Array.getElem?_setIfInBounds_self_of_lt hrlt
  have hx01:Ext [H.size] W.heap W1.heap:=by rw [hh1];exact Ext.set _ (by simp)
  have hm1:W1.heap[m]?=some (.map (ents keyS (vl qe2 M)) c):=hx01.get hmW (by simp;omega)
  have hxL:x.2.1∈L:=h4.perm.mem_iff.1 (List.mem_map.2 ⟨x,hx,rfl⟩)
  have hkey:=h4.key x hx
  have hok:=(h4.good.ok _ hxL).1
  have hx1:Ext [] H W1.heap:=hxW.own hx01 (by intro b hb hlt;simp at hb;omega)
  have hmine1:Mine W1.heap (H.size+1) zl 4 s (xs.flatMap encI):=hmine.ext hx01 (fun b hb=>by have:=jo hmine b hb;simp only [List.mem_singleton];omega)
  have hpn:∀ (zs:List Ino),zs.Perm (if zh7 q x.2.1=true then xs++[x.2.1] else xs)->zs.Perm (((M.filter fun y=>(seen.push x.2.2).contains y.2.2).map (·.2.1)).filter (zh7 q)):=by
   intro zs hz
   refine hz.trans ?_
   have h5:=((z1w h3.born hx hns).map (·.2.1)).filter (zh7 q)
   rw [List.map_append,List.filter_append] at h5
   refine List.Perm.trans ?_ h5.symm
   simp only [List.map_cons,List.map_nil,List.filter_cons,List.filter_nil]
   split
   ·exact hperm.append_right _
   ·rw [List.append_nil];exact hperm
  have endK:∀ {W2:World}{s':Option Addr×Nat×Nat}{zs:List Ino},Ext (jw s) W1.heap W2.heap->Mine W2.heap (H.size+1) zl 4 s' (zs.flatMap encI)->zs.Perm (if zh7 q x.2.1=true then xs++[x.2.1] else xs)->K (s'.1,s'.2.1,s'.2.2) W2:=by
   intro W2 s' zs hx2 hm2 hz
   have hn:∀ b,b < H.size+1->b∉jw s:=fun b hb h=>by have:=jo hmine1 b h;omega
   exact hK _ _ _ (zuw hx hns) ⟨seen.push x.2.2,c,zs,hx1.own hx2 (by intro b hb hlt;exact absurd hb (hn b (by omega))),hx2.get hr1 (hn _ (by omega)),Nat.le_refl _,rfl,hm2,hpn zs hz⟩
  refine joinP_of (fun (s':Option Addr×Nat×Nat) W2=>∃ zs:List Ino,Ext (jw s) W1.heap W2.heap/\Mine W2.heap (H.size+1) zl 4 s' (zs.flatMap encI)/\zs.Perm (if zh7 q x.2.1=true then xs++[x.2.1] else xs)) ?_ ?_
  rotate_left
  ·rintro s' W2 ⟨zs,g1,g2,g3⟩
   exact endK g1 g2 g3
  refine qc (s:=.any) _ (zwe (last:=c) rfl hm1 hr1 hx h3) ?_
  refine ziv (s:=.str) (strOf x.1) rfl rfl ?_
  refine ziv (s:=.any) (qe2 x.2.1) rfl rfl ?_
  rw [zcI]
  refine ji rfl fun W4 hW4=>?_
  have hx14:Ext [] W1.heap W4.heap:=by rw [hW4];exact .push _
  have hb4:W4.heap[W1.heap.size]?=some (.cells (raw [] 0 false []).toArray zl (0,0)):=by rw [hW4];exact zk
  refine stI rfl hb4 rfl (zed _) zox fun W5 hW5=>?_
  have hb5:W5.heap[W1.heap.size]?=some (.cells (encI x.2.1).toArray zl (0,0)):=by rw [hW5];exact qy hb4
  have hx15:Ext [] W1.heap W5.heap:=by rw [hW5];exact hx14.set_own (.inl (Nat.le_refl _))
  refine zh (jm x.1 rfl) ?_
  rintro e W6 ⟨t,rfl,hm6,hx56⟩
  refine⟨t,rfl,?_⟩
  rw [hkey,zf1 hok] at hm6
  have htl:t.2.1=x.2.1.names.length:=by have:=hm6.len;simp at this;omega
  have htc:t.2.1<=t.2.2:=by
   rcases hm6 with⟨rfl,_⟩ | ⟨_,_,_,_,_,_,_,h,_⟩
   ·exact Nat.le_refl _
   ·exact h
  have hx16:=hx15.trans hx56
  have hok8:=hok.2
  have skip:∀ {W2:World},Ext [] W1.heap W2.heap->zh7 q x.2.1=false->∃ zs:List Ino,Ext (jw s) W1.heap W2.heap/\Mine W2.heap (H.size+1) zl 4 (s.1,s.2.1,s.2.2) (zs.flatMap encI)/\zs.Perm (if zh7 q x.2.1=true then xs++[x.2.1] else xs):=by
   intro W2 h hb
   exact⟨xs,h.mono (by simp),hmine1.ext h (by simp),by rw [hb];exact .refl _⟩
  refine zy (fun hgt=>?_) (fun hle=>?_)
  ·have hgt':q.length < x.2.1.names.length:=by omega
   refine zh (z6z (p:=x.2.1.names) rfl hm6.cells htl htc ((hL.ext hx1 (by simp)).ext hx16 (by simp)) hn (by omega) (by omega)) ?_
   rintro e W7 ⟨rfl,hW7⟩
   refine⟨_,rfl,?_⟩
   have hx17:Ext [] W1.heap W7.heap:=by rw [hW7];exact hx16
   cases hwi:zbq x.2.1.names q with
   | false=>
    refine qp rfl ?_
    exact skip hx17 (by unfold zh7;rw [hwi];simp)
   | true=>
    refine jh rfl ?_
    have hbq:zh7 q x.2.1=true:=by unfold zh7;rw [hwi,decide_eq_true hgt'];rfl
    have hb7:W7.heap[W1.heap.size]?=some (.cells (encI x.2.1).toArray zl (0,0)):=by rw [hW7];exact hx56.get hb5 (by simp)
    refine xw rfl hb7 rfl ?_
    refine zaf (s:=.slc) (some ⟨W7.heap.size,0,none⟩,1,1) _ (zee EI uI (v:=.agg (encI x.2.1).toArray) rfl (by omega) (by omega)) ?_
    have hxp:Ext [] W7.heap (W7.heap.push (.cells (Value.agg (encI x.2.1).toArray).cells zl)):=.push _
    refine zbx (n:=1) (us:=encI x.2.1) (H:=W7.heap.push (.cells (Value.agg (encI x.2.1).toArray).cells zl)) EI (by omega) uI (zar uI) rfl ((hmine1.ext hx17 (by simp)).ext hxp (by simp)) (by have:=hx1.1;have:=hx17.1;have:=lt_of_get hr1;simp;omega)
     (Src.slc rfl (.inr ⟨W7.heap.size,0,_,_,_,rfl,zk,by simp [Value.cells,zed],by simp [Value.cells]⟩) (by rw [zed])) zox (by omega) ?_
    intro x' W9 hm9 hl9 hx9 _
    refine⟨xs++[x.2.1],(hx17.mono (by simp)).trans ((hxp.mono (by simp)).trans hx9),?_,by rw [hbq];exact .refl _⟩
    rw [List.flatMap_append,List.flatMap_singleton]
    exact hm9
  ·exact skip hx16 (by unfold zh7;rw [decide_eq_false (by omega)];rfl)
def zr4 (ls:List (List Fil)) (L:List Ino) (q:Path):Bool:=
 !decide (q=[])&&((zpx ls L (q.take (q.length-1)) (q.length-1) (zlg ls)).2&&!decide ((zc1 ls (x9 q) (zpx ls L (q.take (q.length-1)) (q.length-1) (zlg ls)).1.dirs sn0).file.path=[]))
set_option maxHeartbeats 4000000 in
theorem qaf {w:World}{H:Heap}{u p m n nc:Nat}{nn bb:Int}{ls:List (List Fil)}{L:List Ino}{a:Option Addr}{q:Path}(hw:w.heap=H) (hU:zw6 H u p m nn bb ls L) (hl:ls.length<=1000000)
  (hL:Cells H a (strRow q)) (hn:n=q.length) (hnc:n<=nc) (hq:okP q) :
  qj P zbj #[.pointer (some ⟨u,0,none⟩),.slice a n nc] w fun e w'=>e=.returned (.bool (zr4 ls L q))/\Ext [] H w'.heap:=by
 have hq8:=hq.2
 refine zjf ?_
 unfold zgy
 refine joinP_of (fun _ w'=>w'=w/\q≠[]) ?_ ?_
 ·refine qp rfl ?_
  refine zba (fun h=>?_) (fun h=>?_)
  ·have:q=[]:=List.eq_nil_of_length_eq_zero (by omega)
   exact⟨by simp [zr4,this],by rw [hw];exact .refl _ _⟩
  refine zh (z3o hw hL hn hq.fit (by omega)) ?_
  rintro e w1 ⟨rfl,rfl⟩
  refine⟨_,rfl,?_⟩
  refine qp (by simp [zum.2 hq]) ⟨rfl,fun h'=>h (by rw [hn,h'];rfl)⟩
 rintro _ w2 ⟨rfl,hne⟩
 have hpos:0 < q.length:=List.length_pos_iff.2 hne
 refine zdb ((q.length-1:Nat):Int) (by omega) (by omega) (by omega) ?_
 obtain⟨a',hcut,hLc⟩:=zrz (i:=q.length-1) (n:=((q.length-1:Nat):Int)) zj6 zs9 hL hnc (by omega) rfl
 rw [Nat.mul_one,zdi] at hLc
 refine qc (s:=.slc) (a',q.length-1,nc) (hcut _) ?_
 have hlt:(q.take (q.length-1)).length=q.length-1:=by rw [List.length_take,Nat.min_eq_left (by omega)]
 refine zh (qi4 hw hU hl hLc hlt.symm (show q.length-1<=nc by omega) (hq.take _)) ?_
 rintro e w3 ⟨y,rfl,hY,hx3⟩
 refine⟨(_,_),rfl,?_⟩
 have hd:=zyb (ls:=ls) (L:=L) (q:=q.take (q.length-1)) (q.take (q.length-1)).length _ (DirOK.root (ls:=ls))
 rw [hlt] at hY hd |-
 obtain⟨r,hr⟩:∃ r,r=zpx ls L (q.take (q.length-1)) (q.length-1) (zlg ls):=⟨_,rfl⟩
 have hsh:zr4 ls L q=(r.2&&!decide ((zc1 ls (x9 q) r.1.dirs sn0).file.path=[])):=by unfold zr4;rw [<-hr];simp [hne]
 rw [<-hr] at hY hd |-
 refine qaj _ _ rfl fun w5 hw5=>?_
 have hx5:Ext [] w3.heap w5.heap:=by rw [hw5];exact .push _
 have h5:w5.heap[w3.heap.size]?=some (.cells (snC r.1 y).toArray zi (0,0)):=by rw [hw5];exact zk
 have hx05:=hx3.trans hx5
 refine zbv (p:=r.2=false) (by simp) (fun h2=>⟨by rw [hsh,h2];rfl,hx05⟩) (fun h2=>?_)
 refine vw rfl fun w6 hw6=>?_
 rw [<-hw6] at h5 hx05
 refine jg (s:=.slc) (t:=y) rfl h5 rfl ?_
 refine zh (zgg rfl (hL.ext hx05 (by simp)) hn hnc (by have:=hq.small;omega)) ?_
 rintro e w7 ⟨rfl,hx7⟩
 refine⟨_,rfl,?_⟩
 refine⟨jg (s:=.slc) (t:=y) rfl (hx7.get h5 (by simp)) rfl rfl,?_⟩
 have hY6:Mine w6.heap H.size zav 1 y (intRow r.1.dirs):=by rw [hw6];exact hY.ext hx5 (by simp)
 have hyl:y.2.1=r.1.dirs.length:=by have:=hY.len;rw [len_intRow] at this;omega
 refine zh (z6y (x9 q) rfl (hU.1.ext (hx05.trans hx7)) (hY6.ext hx7 (by simp)).cells hyl hd.lt (by have:=hd.few;omega)) ?_
 rintro e w8 ⟨y',rfl,hY',hx8⟩
 refine⟨(_,_),rfl,?_⟩
 refine⟨?_,(hx05.trans hx7).trans hx8⟩
 rw [hsh]
 cases hr2:r.2 with
 | false=>exact absurd hr2 h2
 | true=>rfl
theorem z4w {w:World}{H:Heap}{a:Option Addr}{n nc:Nat}{K:Path}{v:List UInt8}(hw:w.heap=H) (hL:Cells H a (strRow K)) (hn:n=K.length) (hm:K.length<=1099511627776) :
  qj P zcf #[.slice a n nc,.string (strOf v)] w fun e w'=>e=.returned (.bool (decide (v∈K)))/\w'=w:=by
 refine zg7 ?_
 unfold zdx
 refine zh (l:=[.int .i64]) (R:=fun e w'=>w'=w/\((v∉K/\e=.returned (.int .i64 (-1)))\/∃ i:Nat,v∈K/\e=.returned (.int .i64 (i:Int)))) ?_ ?_
 ·refine zih ?_
  unfold zeq
  refine zae (fun s w'=>w'=w/\∃ i:Nat,s=(i:Int)/\i<=K.length/\v∉K.take i) (fun s _=>(K.length-s).toNat) ⟨rfl,0,rfl,Nat.zero_le _,by simp⟩ ?_
  rintro s w1 ⟨rfl,i,rfl,hi,hv⟩
  refine zy (fun h=>?_) (fun h=>?_)
  ·have hlt:i < K.length:=by omega
   refine zsv hw hL hn hlt rfl ?_
   refine zbv (p:=v=K[i]) z3r (fun he=>⟨rfl,.inr ⟨i,by rw [he];exact List.getElem_mem _,rfl⟩⟩) (fun he=>?_)
   refine jr ((i+1:Nat):Int) (by omega) (by omega) (by omega) ⟨⟨rfl,i+1,rfl,hlt,?_⟩,?_⟩
   ·intro hmem
    rw [List.take_add_one,List.getElem?_eq_getElem hlt] at hmem
    rcases List.mem_append.1 hmem with h' | h'
    ·exact hv h'
    ·simp at h';exact he h'
   ·show ((K.length:Int)-((i+1:Nat):Int)).toNat < ((K.length:Int)-(i:Int)).toNat
    omega
  ·have:i=K.length:=by omega
   subst this
   rw [List.take_length] at hv
   exact⟨rfl,.inl ⟨hv,rfl⟩⟩
 ·rintro e w1 ⟨rfl,⟨hv,rfl⟩ | ⟨i,hv,rfl⟩⟩
  ·exact⟨_,rfl,by simp [hv],rfl⟩
  ·exact⟨_,rfl,by simp [hv],rfl⟩
def zsa (q:Path) (path:List UInt8):Option (List UInt8):=if (vg path).1.length=q.length+1/\zbq (vg path).1 q=true then (vg path).1[q.length]? else none
def zv6 (q:Path) (K:Path) (path:List UInt8):Path:=match zsa q path with
 | some n=>if n∈K then K else K++[n]
 | none=>K
theorem z0c {q K:Path}{path n:List UInt8}:n∈zv6 q K path ↔ n∈K\/zsa q path=some n:=by
 unfold zv6
 cases h:zsa q path with
 | none=>simp
 | some m=>
  dsimp only
  split
  ·rename_i hm
   constructor
   ·exact .inl
   ·rintro (h | h)
    ·exact h
    ·cases h;exact hm
  ·simp [eq_comm]
theorem zsr {q K:Path}{path:List UInt8}(h:K.Nodup):(zv6 q K path).Nodup:=by
 unfold zv6
 split
 ·split
  ·exact h
  ·rename_i n _ hn
   exact List.nodup_append.2 ⟨h,by simp,fun a ha b hb e=>by simp at hb;subst hb e;exact hn ha⟩
 ·exact h
theorem z6q {q K:Path}{path:List UInt8}:(zv6 q K path).length<=K.length+1:=by
 unfold zv6
 split
 ·split
  ·omega
  ·simp
 ·omega
def zke (H:Heap) (b5 b7:Nat) (a:Option Addr) (n nc:Nat) (K:Path) (W:World):Prop:=
 ∃ x,W.heap[b5]?=some (.cells #[.slice a n nc] zx (0,0))/\W.heap[b7]?=some (.cells #[zdr x] zx (0,0))/\Mine W.heap H.size qx 1 x (strRow K)/\Ext [b7] H W.heap
def z1x (b7:Nat) (H H':Heap):Prop:=∀ r o,H[r]?=some o->r≠b7->(∀ c,o≠.cells c qx (0,0))->H'[r]?=some o
theorem z1x.ext {b7:Nat}{H H':Heap}(h:Ext [] H H'):z1x b7 H H':=fun _ _ hr _ _=>h.get hr (by simp)
theorem zke.ext {H:Heap}{b5 b7 n nc:Nat}{a:Option Addr}{K:Path}{W W':World}(h:zke H b5 b7 a n nc K W) (hx:Ext [] W.heap W'.heap):zke H b5 b7 a n nc K W':=by
 obtain⟨x,h1,h2,h3,h4⟩:=h
 exact⟨x,hx.get h1 (by simp),hx.get h2 (by simp),h3.ext hx (by simp),h4.trans (hx.mono (by simp))⟩
set_option maxHeartbeats 4000000 in
theorem qfw {w:World}{H:Heap}{b5 b7 n nc:Nat}{a:Option Addr}{K q:Path}(path:List UInt8) (hS:zke H b5 b7 a n nc K w) (hL:Cells H a (strRow q)) (hab:∀ x,a=some x->strRow q≠[]->x.block∉[b7]) (h57:b5≠b7) (h5:b5 < H.size) (h7:b7 < H.size) (hn:n=q.length) (hq:okP q) (hK:K.length<=1000000) :
  qj P zbc #[.string (strOf path),.pointer (some ⟨b5,0,none⟩),.pointer (some ⟨b7,0,none⟩)] w fun e w'=>e=.returned (.tuple #[])/\zke H b5 b7 a n nc (zv6 q K path) w'/\z1x b7 w.heap w'.heap:=by
 have hq8:=hq.2
 obtain⟨x,g5,g7,hM,hx⟩:=hS
 refine zoe ?_
 unfold zjh
 refine zh (zma path rfl) ?_
 rintro e w1 ⟨t,rfl,ht,hx1⟩
 refine⟨(_,_),rfl,?_⟩
 obtain⟨p,hp⟩:∃ p,p=(vg path).1:=⟨_,rfl⟩
 have hkid:zsa q path=if p.length=q.length+1/\zbq p q=true then p[q.length]? else none:=by unfold zsa;rw [hp]
 have hpok:okP p:=by rw [hp];exact zmu path
 rw [<-hp] at ht
 refine vw rfl fun w2 hw2=>?_
 have hx2:Ext [] w.heap w2.heap:=by rw [hw2];exact hx1
 rw [<-hw2] at ht
 have g52:=hx2.get g5 (by simp)
 have g72:=hx2.get g7 (by simp)
 have htl:t.2.1=p.length:=by have:=ht.len;rw [zaj] at this;omega
 have htc:t.2.1<=t.2.2:=by
  rcases ht with⟨rfl,_⟩ | ⟨_,_,_,_,_,_,_,h,_⟩
  ·exact Nat.le_refl _
  ·exact h
 have hp8:=hpok.2
 have hxH2:Ext [b7] H w2.heap:=hx.trans (hx2.mono (by simp))
 have hL2:=hL.ext hxH2 hab
 have hM2:=hM.ext hx2 (by simp)
 have stay:∀ {W:World},W.heap=w2.heap->zsa q path=none\/(∃ n,zsa q path=some n/\n∈K)->True/\zke H b5 b7 a n nc (zv6 q K path) W/\z1x b7 w.heap W.heap:=by
  intro W hW hk
  have:zv6 q K path=K:=by
   unfold zv6
   rcases hk with h | ⟨m,h,hm⟩
   ·rw [h]
   ·rw [h];simp [hm]
  rw [this]
  exact⟨trivial,⟨x,by rw [hW];exact g52,by rw [hW];exact g72,by rw [hW];exact hM2,by rw [hW];exact hxH2⟩,.ext (by rw [hW];exact hx2)⟩
 simp only [jc]
 refine jg (s:=.slc) (t:=(a,n,nc)) rfl g52 rfl ?_
 refine jr ((q.length+1:Nat):Int) (by show (n:Int)+1=_;omega) (by omega) (by omega) ?_
 refine zba (fun hle=>?_) (fun hle=>stay rfl (.inl (by rw [hkid,if_neg (fun h=>hle (by omega))])))
 refine jg (s:=.slc) (t:=(a,n,nc)) rfl g52 rfl ?_
 refine zh (z6z rfl ht.cells htl htc hL2 (show n=_ from hn) (by omega) (by omega)) ?_
 rintro e w3 ⟨rfl,hw3⟩
 refine⟨_,rfl,?_⟩
 cases hwi:zbq p q with
 | false=>exact qp rfl (stay hw3 (.inl (by rw [hkid,hwi];simp)))
 | true=>
  refine jh rfl ?_
  have hpl:p.length=q.length+1:=by omega
  have hix:q.length < p.length:=by omega
  have hkid':zsa q path=some p[q.length]:=by rw [hkid,if_pos ⟨hpl,hwi⟩,List.getElem?_eq_getElem hix]
  rw [<-hw3] at g52 g72 ht
  refine jg (s:=.slc) (t:=x) rfl g72 rfl ?_
  refine jg (s:=.slc) (t:=(a,n,nc)) rfl g52 rfl ?_
  refine zsv rfl ht.cells htl hix (by show (n:Int)=_;omega) ?_
  have hM3:Mine w3.heap H.size qx 1 x (strRow K):=by rw [hw3];exact hM2
  have hxl:x.2.1=K.length:=by have:=hM3.len;rw [zaj] at this;omega
  refine zh (z4w rfl hM3.cells hxl (by omega)) ?_
  rintro e w4 ⟨rfl,rfl⟩
  refine⟨_,rfl,?_⟩
  by_cases hmem:p[q.length]∈K
  ·exact qp (by simp [hmem]) (stay hw3 (.inr ⟨_,hkid',hmem⟩))
  ·refine jh (by simp [hmem]) ?_
   refine vw rfl fun w5 hw5=>?_
   rw [<-hw5] at g52 g72 ht hM3
   refine jg (s:=.slc) (t:=x) rfl g72 rfl ?_
   refine jg (s:=.slc) (t:=(a,n,nc)) rfl g52 rfl ?_
   refine zsv rfl ht.cells htl hix (by show (n:Int)=_;omega) ?_
   refine z9u _ rfl fun a1 w6 hx6 hc6=>?_
   refine⟨jg (s:=.slc) (t:=x) rfl (hx6.get g72 (by simp)) rfl rfl,?_⟩
   have hw25:w5.heap=w2.heap:=hw5.trans hw3
   have hx05:Ext [] w.heap w5.heap:=by rw [hw25];exact hx2
   have hsz:H.size<=w5.heap.size:=by have:=hx.1;have:=hx05.1;omega
   have hge:=jo hM3
   have hin:=zki hM3
   refine zbx (n:=1) qhb (by omega) zj6 (zar zj6) rfl (hM3.ext hx6 (by simp)) (by have:=hx6.1;omega) (Src.slc rfl hc6 (by simp)) zx9 (by omega) fun x' w7 hm7 hl7 hx7 hs7=>?_
   have g77:=hx7.get (hx6.get g72 (by simp)) (fun h=>by have:=hge _ h;omega)
   have g57:=hx7.get (hx6.get g52 (by simp)) (fun h=>by have:=hge _ h;omega)
   refine zb8 rfl g77 (by simp) fun w8 hw8=>?_
   have hx78:Ext [b7] w7.heap w8.heap:=by rw [hw8];exact Ext.set _ (by simp)
   have hadd:zv6 q K path=K++[p[q.length]]:=by unfold zv6;rw [hkid'];simp [hmem]
   rw [hadd]
   refine⟨trivial,⟨x',hx78.get g57 (by simpa using h57),by rw [hw8];exact qy g77,?_,?_⟩,?_⟩
   ·rw [<-zmx]
    exact hm7.ext hx78 (fun b hb hbm=>by have:=jo hm7 b hb;simp at hbm;omega)
   ·have h1:Ext [b7] H w6.heap:=(hx.trans (hx05.mono (by simp))).trans (hx6.mono (by simp))
    exact (h1.own hx7 (fun b hb hlt=>by have:=hge b hb;omega)).trans hx78
   ·intro r o hr hne hc
    have h1:=hx6.get (hx05.get hr (by simp)) (by simp)
    refine hx78.get (hx7.get h1 (fun hb=>?_)) (by simpa using hne)
    obtain⟨c,hcc⟩:=(hin r hb).2
    have:=hx6.get hcc (by simp)
    rw [h1] at this
    exact hc c (Option.some.inj this)
theorem zze {q:Path}{n:List UInt8}:∀ {C:List (List UInt8)}{K:Path},n∈C.foldl (zv6 q) K ↔ n∈K\/∃ p∈C,zsa q p=some n
 | [],K=>by simp
 | c :: C,K=>by
  rw [List.foldl_cons,zze,z0c]
  simp [or_assoc]
theorem zsi {q:Path}:∀ {C:List (List UInt8)}{K:Path},K.Nodup->(C.foldl (zv6 q) K).Nodup
 | [],_,h=>h
 | c :: C,K,h=>zsi (C:=C) (K:=zv6 q K c) (zsr h)
theorem z8o {K K':Path}(h:K.Perm K'):sortS K=sortS K':=by
 have tot:∀ a b:List UInt8,(decide (a<=b) || decide (b<=a))=true:=fun a b=>by simpa using Std.le_total (a:=a) (b:=b)
 have tr:∀ a b c:List UInt8,decide (a<=b)=true->decide (b<=c)=true->decide (a<=c)=true:=fun a b c h1 h2=>by simp only [decide_eq_true_eq] at *;exact Std.le_trans h1 h2
 have h1:=List.pairwise_mergeSort tr tot K
 have h2:=List.pairwise_mergeSort tr tot K'
 refine List.Perm.eq_of_pairwise (le:=fun a b=>decide (a<=b)=true) ?_ h1 h2 (((List.mergeSort_perm K _).trans h).trans (List.mergeSort_perm K' _).symm)
 intro a b _ _ hab hba
 simp only [decide_eq_true_eq] at hab hba
 exact Std.le_antisymm hab hba
def lyP (ls:List (List Fil)) (i:Nat):List (List UInt8):=(ls.getD i []).map (·.path)
def zzt (ls:List (List Fil)) (L:List Ino) (s:Sn) (q:Path):List (List UInt8):=s.dirs.flatMap (lyP ls)++(ze2 L q).map fun i=>x9 i.names
def zsu (ls:List (List Fil)) (L:List Ino) (s:Sn) (q:Path):Path:=sortS ((zzt ls L s q).foldl (zv6 q) [])
theorem qd3 {ls:List (List Fil)}{L:List Ino}{s:Sn}{q K:Path}(hn:K.Nodup) (hm:∀ n,n∈K ↔ ∃ p∈zzt ls L s q,zsa q p=some n):sortS K=zsu ls L s q:=by
 refine z8o ((List.perm_ext_iff_of_nodup hn (zsi List.nodup_nil)).2 fun n=>?_)
 rw [hm,zze]
 simp
structure LsOK (ls:List (List Fil)):Prop where
 few:ls.length<=4
 small:∀ Ly∈ls,Ly.length<=512
theorem qaq {H H':Heap}{b7 B sz:Nat}{T:TypeId}{x:Option Addr×Nat×Nat}{vs:List Value}(h:Mine H B T sz x vs) (hk:z1x b7 H H') (hT:T≠qx) (hb:∀ b∈jw x,b≠b7):Mine H' B T sz x vs:=by
 rcases h with h | ⟨b,c,hx,h1,h2,h3⟩
 ·exact .inl h
 ·exact .inr ⟨b,c,hx,h1,hk b _ h2 (hb b (by simp [jw,hx])) (fun c' e=>hT (by cases e;rfl)),h3⟩
theorem mkK (p1 p2:Option Addr) (w:World):(Instr.makeFunc (Go.Fn.func zbc) #[] #[.pointer p1,.pointer p2]).run P w=.ok (.func (.func zbc) #[] #[.pointer p1,.pointer p2]) w:=by kernel_rfl
theorem zke.heap {H:Heap}{b5 b7 n nc:Nat}{a:Option Addr}{K:Path}{W W':World}(h:zke H b5 b7 a n nc K W) (hx:W'.heap=W.heap):zke H b5 b7 a n nc K W':=h.ext (by rw [hx];exact .refl _ _)
theorem zke.set {H:Heap}{b5 b7 n nc r:Nat}{a:Option Addr}{K:Path}{W W':World}{o o':Obj}(h:zke H b5 b7 a n nc K W) (hr:W.heap[r]?=some o) (hc:∀ c T f,o≠.cells c T f) (hr3:H.size<=r) (hx:W'.heap=W.heap.setIfInBounds r o'):zke H b5 b7 a n nc K W':=by
 obtain⟨x,h1,h2,h3,h4⟩:=h
 have ne:∀ {b c T f},W.heap[b]?=some (.cells c T f)->b∉[r]:=by
  intro b c T f hb hbr
  simp at hbr;subst hbr
  rw [hr] at hb
  exact hc _ _ _ (Option.some.inj hb)
 have hxs:Ext [r] W.heap W'.heap:=by rw [hx];exact Ext.set _ (by simp)
 exact⟨x,hxs.get h1 (ne h1),hxs.get h2 (ne h2),h3.ext hxs (fun b hb=>by obtain⟨c,hcc⟩:=(zki h3 b hb).2;exact ne hcc),h4.own hxs (fun b hb hlt=>by simp at hb;omega)⟩
theorem qk7 {w:World}{H:Heap}{b5 b7 n nc:Nat}{a:Option Addr}{K q:Path}(path:List UInt8) (hS:zke H b5 b7 a n nc K w) (hL:Cells H a (strRow q)) (hab:∀ x,a=some x->strRow q≠[]->x.block∉[b7]) (h57:b5≠b7) (h5:b5 < H.size) (h7:b7 < H.size) (hn:n=q.length) (hq:okP q) (hK:K.length<=1000000){Q:Tup []->World->Prop}
  (hQ:∀ w',zke H b5 b7 a n nc (zv6 q K path) w'->z1x b7 w.heap w'.heap->Q () w') :
  zp1 P (.func (.func zbc) #[] #[.pointer (some ⟨b5,0,none⟩),.pointer (some ⟨b7,0,none⟩)]) #[.string (strOf path)] [] true w Q:=by
 refine .func zbc #[] #[.pointer (some ⟨b5,0,none⟩),.pointer (some ⟨b7,0,none⟩)] rfl ?_
 refine qj.mono (R:=fun e w'=>e=.returned (.tuple #[])/\zke H b5 b7 a n nc (zv6 q K path) w'/\z1x b7 w.heap w'.heap) (qfw path hS hL hab h57 h5 h7 hn hq hK) ?_
 rintro e w' ⟨rfl,h1,h2⟩
 exact⟨(),rfl,hQ w' h1 h2⟩
set_option maxHeartbeats 8000000 in
theorem qh2 {w:World}{H:Heap}{u p m n nc:Nat}{nn bb:Int}{ls:List (List Fil)}{L:List Ino}{a:Option Addr}{q:Path}{s:Sn}{x:Option Addr×Nat×Nat}(hw:w.heap=H) (hU:zw6 H u p m nn bb ls L) (hls:LsOK ls)
  (hD:Cells H x.1 (intRow s.dirs)) (hxl:x.2.1=s.dirs.length) (hd:DirOK ls.length s) (hL:Cells H a (strRow q)) (hn:n=q.length) (hq:okP q) :
  qj P zhg #[.pointer (some ⟨u,0,none⟩),.agg (snC s x).toArray,.slice a n nc] w fun e w'=>∃ y,e=.returned (zdr y)/\Mine w'.heap H.size qx 1 y (strRow (zsu ls L s q))/\Ext [] H w'.heap/\(zsu ls L s q).length<=4000:=by
 have hq8:=hq.2
 have hf4:=hls.few
 have hdf:=hd.few
 refine zp0 ?_
 unfold zko
 refine ji hw fun w1 hw1=>?_
 refine ji rfl fun w2 hw2=>?_
 rw [ql4]
 refine ji rfl fun w3 hw3=>?_
 have e1:w1.heap.size=H.size+1:=by rw [hw1];simp
 have e2:w2.heap.size=H.size+2:=by rw [hw2];simp [e1]
 have e3:w3.heap.size=H.size+3:=by rw [hw3];simp [e2]
 have hx3:Ext [] H w3.heap:=by rw [hw3,hw2,hw1];exact (Ext.push _).push_own.push_own
 have h4:w3.heap[H.size]?=some (.cells (snC s x).toArray zi (0,0)):=by rw [hw3,hw2,hw1];exact za1 (za1 zk)
 have h5:w3.heap[H.size+1]?=some (.cells #[.slice a n nc] zx (0,0)):=by rw [hw3,hw2,<-e1];exact za1 zk
 have h7:w3.heap[H.size+2]?=some (.cells #[zdr (none,0,0)] zx (0,0)):=by rw [hw3,<-e2];exact zk
 rw [e1,e2]
 obtain⟨b5,hb5⟩:∃ b5,b5=H.size+1:=⟨_,rfl⟩
 obtain⟨b7,hb7⟩:∃ b7,b7=H.size+2:=⟨_,rfl⟩
 rw [<-hb5] at h5 |-
 rw [<-hb7] at h7 |-
 refine qc (s:=.any) _ (mkK _ _ _) ?_
 refine jg (s:=.slc) (t:=x) rfl h4 rfl ?_
 obtain⟨H3,hH3⟩:∃ H3,H3=w3.heap:=⟨_,rfl⟩
 have hL3:Cells H3 a (strRow q):=by rw [hH3];exact hL.ext hx3 (by simp)
 have hab:∀ x,a=some x->strRow q≠[]->x.block∉[b7]:=by
  intro z hz hne
  obtain⟨z',hz',hlt⟩:=hL.lt hne
  rw [hz] at hz'
  cases hz'
  simp;omega
 have hKS:zke H3 b5 b7 a n nc [] w3:=by rw [hH3];exact⟨(none,0,0),h5,h7,.inl ⟨rfl,rfl⟩,.refl _ _⟩
 have old:∀ {K:Path}{W:World},zke H3 b5 b7 a n nc K W->Ext [] H W.heap:=by
  rintro K W ⟨_,_,_,_,hx⟩
  exact hx3.own (hH3▸hx) (fun b hb hlt=>by simp at hb;omega)
 have call:∀ {K:Path}{W:World}(path:List UInt8){Q:Tup []->World->Prop},zke H3 b5 b7 a n nc K W->K.length<=1000000->(∀ w',zke H3 b5 b7 a n nc (zv6 q K path) w'->z1x b7 W.heap w'.heap->Q () w') ->
   zp1 P (.func (.func zbc) #[] #[.pointer (some ⟨b5,0,none⟩),.pointer (some ⟨b7,0,none⟩)]) #[.string (strOf path)] [] true W Q:=by
  intro K W path Q hS hK hQ
  exact qk7 path hS hL3 hab (by omega) (by rw [hH3];omega) (by rw [hH3];omega) hn hq hK hQ
 refine zb3 (fun k s1 W=>∃ (i:Nat) (K:Path),s1=(i:Int)/\k+i=s.dirs.length/\zke H3 b5 b7 a n nc K W/\K.Nodup/\(∀ n,n∈K ↔ ∃ p∈(s.dirs.take i).flatMap (lyP ls),zsa q p=some n)/\K.length<=512 * i) s.dirs.length ⟨0,[],rfl,rfl,hKS,List.nodup_nil,by simp,by simp⟩ ?_
 rintro k s1 W ⟨i,K,rfl,hk,hS,hKn,hKm,hKl⟩ Q hQ
 have hxW:=old hS
 have hUW:=hU.ext hxW
 refine zy (fun h=>?_) (fun h=>?_)
 ·have hi:i < s.dirs.length:=by omega
  obtain⟨xl,ms,u1,u2,u3,u4,u5⟩:=hUW.1
  refine ix1 (s:=.int .i64) (t:=(s.dirs[i]:Int)) (i:=i) rfl (hD.ext hxW (by simp)) (by rw [len_intRow,hxl]) (by simp [intRow,hi];rfl) rfl ?_
  simp only [jc]
  refine jg (s:=.slc) (t:=xl) rfl u1 rfl ?_
  have hdi:=hd.lt _ (List.getElem_mem hi)
  obtain⟨mm,hmi⟩:∃ m,ms[s.dirs[i]]?=some m:=⟨ms[s.dirs[i]]'(by omega),by simp⟩
  refine ix1 (s:=.map) (t:=some mm) (i:=s.dirs[i]) rfl u2 (by simp [u3]) (by simp [hmi,qcq];rfl) rfl ?_
  obtain⟨M,c,m1,m2,m3,m4⟩:=u5 _ _ hmi
  have hMl:M.length<=512:=by
   have h1:=m3.length_eq
   rw [List.length_map] at h1
   have h2:ls.getD s.dirs[i] []∈ls:=by rw [List.getD_eq_getElem?_getD,List.getElem?_eq_getElem hdi];exact List.getElem_mem _
   have:=hls.small _ h2
   omega
  refine zaf (s:=.ptr) (some ⟨W.heap.size,0,none⟩) _ (zwc uLm rfl m1) ?_
  have hmlt:=lt_of_get m1
  have hWs:b7 < W.heap.size:=by have:=hxW.1;obtain⟨_,_,g7,_⟩:=hS;exact lt_of_get g7
  have hne7:∀ {W:World}{K:Path}{o:Obj}{r:Nat},zke H3 b5 b7 a n nc K W->W.heap[r]?=some o->(∀ c T f,o≠.cells c T f)->r≠b7:=by
   rintro W K o r ⟨_,_,g7,_⟩ hr hc rfl
   rw [hr] at g7
   exact hc _ _ _ (Option.some.inj g7)
  have hH3W:H3.size<=W.heap.size:=by obtain⟨_,_,_,_,hx⟩:=hS;exact hx.1
  refine zb3 (fun k _ W'=>∃ (seen:Array Nat) (last:Nat) (K':Path),zke H3 b5 b7 a n nc K' W'/\K'.Nodup/\(∀ n,n∈K' ↔ n∈K\/∃ x∈M.filter (fun y=>seen.contains y.2.2),zsa q x.1=some n)/\K'.length<=512 * i+(M.filter fun y=>seen.contains y.2.2).length /\
   W'.heap[W.heap.size]?=some (.mapIter (some mm) c seen last)/\W'.heap[mm]?=some (.map (ents keyS (vl qd0 M)) c)/\c<=last/\k=(M.filter fun y=>!seen.contains y.2.2).length) (M.filter fun y=>!(#[]:Array Nat).contains y.2.2).length ?_ ?_
  ·exact⟨#[],c,K,hS.ext (.push _),hKn,by simp,by simp;omega,zk,za1 m1,Nat.le_refl _,rfl⟩
  rintro k2 _ W' ⟨seen,last,K',hS',hKn',hKm',hKl',hr',hm',hcl,rfl⟩ Q' hQ'
  have hfl:=List.length_filter_le (fun y:List UInt8×Fil×Nat=>seen.contains y.2.2) M
  rcases z0z (P:=P) (ty:=zbk) rfl hm' hr' (fun x hx=>m2.old x hx) hcl with⟨hall,W1,hnx,hc1,hh1⟩ | ⟨z,hz,hns,W1,hnx,hc1,hh1⟩
  ·refine zaf (s:=.any) _ W1 hnx ?_ hc1
   refine ziv (s:=.bool) false rfl rfl ?_
   refine qp rfl ?_
   refine jr ((i+1:Nat):Int) (by omega) (by omega) (by omega) ?_
   have hall2:(M.filter fun y=>seen.contains y.2.2)=M:=by
    rw [List.filter_eq_self]
    intro y hy
    simpa using hall y hy
   rw [hall2] at hKm' hKl'
   refine hQ (k-1) _ _ (by omega) ⟨i+1,K',rfl,by omega,hS'.heap hh1,hKn',fun n=>?_,by omega⟩
   rw [hKm',hKm,List.take_add_one,List.getElem?_eq_getElem hi]
   simp only [Option.toList_some,List.flatMap_append,List.flatMap_singleton,List.mem_append]
   have hly:∀ pp,pp∈lyP ls s.dirs[i] ↔ ∃ x∈M,x.1=pp:=by
    intro pp
    unfold lyP
    rw [List.mem_map]
    constructor
    ·rintro ⟨f,hf,rfl⟩
     obtain⟨x,hx,rfl⟩:=List.mem_map.1 (m3.mem_iff.2 hf)
     exact⟨x,hx,m4 x hx⟩
    ·rintro ⟨x,hx,rfl⟩
     exact⟨x.2.1,m3.mem_iff.1 (List.mem_map.2 ⟨x,hx,rfl⟩),(m4 x hx).symm⟩
   constructor
   ·rintro (⟨pp,h1,h2⟩ | ⟨x,h1,h2⟩)
    ·exact⟨pp,.inl h1,h2⟩
    ·exact⟨x.1,.inr ((hly _).2 ⟨x,h1,rfl⟩),h2⟩
   ·rintro ⟨pp,h1 | h1,h2⟩
    ·exact .inl ⟨pp,h1,h2⟩
    ·obtain⟨x,hx,rfl⟩:=(hly _).1 h1
     exact .inr ⟨x,hx,h2⟩
  ·refine zaf (s:=.any) _ W1 hnx ?_ hc1
   refine ziv (s:=.bool) true rfl rfl ?_
   refine jh rfl ?_
   have hrlt:=lt_of_get hr'
   have hr1:W1.heap[W.heap.size]?=some (.mapIter (some mm) c (seen.push z.2.2) c):=by rw [hh1];exact Array.getElem?_setIfInBounds_self_of_lt hrlt
   have hm1:W1.heap[mm]?=some (.map (ents keyS (vl qd0 M)) c):=by rw [hh1];exact zd8 hm' (by omega)
   have hS1:=hS'.set hr' (by intros;simp) hH3W hh1
   refine qc (s:=.any) _ (zwe (last:=c) rfl hm1 hr1 hz m2) ?_
   refine ziv (s:=.str) (strOf z.1) rfl rfl ?_
   refine call z.1 hS1 (by omega) fun w' hSw hkw=>?_
   have hsp:=z1w m2.born hz hns
   have hspl:=hsp.length_eq
   simp only [List.length_append,List.length_cons,List.length_nil] at hspl
   refine hQ' _ _ _ (zuw hz hns) ⟨seen.push z.2.2,c,zv6 q K' z.1,hSw,zsr hKn',fun n=>?_,?_,hkw _ _ hr1 (hne7 hS1 hr1 (by intros;simp)) (by intros;simp),hkw _ _ hm1 (hne7 hS1 hm1 (by intros;simp)) (by intros;simp),Nat.le_refl _,rfl⟩
   ·rw [z0c,hKm']
    constructor
    ·rintro ((h1 | ⟨x,h1,h2⟩) | h1)
     ·exact .inl h1
     ·exact .inr ⟨x,hsp.mem_iff.2 (List.mem_append_left _ h1),h2⟩
     ·exact .inr ⟨z,hsp.mem_iff.2 (by simp),h1⟩
    ·rintro (h1 | ⟨x,h1,h2⟩)
     ·exact .inl (.inl h1)
     ·rcases List.mem_append.1 (hsp.mem_iff.1 h1) with h3 | h3
      ·exact .inl (.inr ⟨x,h3,h2⟩)
      ·simp at h3;subst h3;exact .inr h2
   ·have:=z6q (q:=q) (K:=K') (path:=z.1)
    omega
 ·have hi:i=s.dirs.length:=by omega
  subst hi
  rw [List.take_length] at hKm
  refine vw rfl fun w9 hw9=>?_
  replace hS:=hS.heap hw9
  have hx9:=old hS
  obtain⟨xl,ms,u1,u2⟩:=(hU.ext hx9).1
  obtain⟨y9,g5,g7,g9⟩:=id hS
  simp only [jc,Addr.add,Nat.zero_add,Option.map_none]
  refine jg (s:=.ptr) (t:=some ⟨p,0,none⟩) rfl u1 rfl ?_
  refine jg (s:=.slc) (t:=(a,n,nc)) rfl g5 rfl ?_
  refine zh (z0g rfl (hU.ext hx9).2 (hL.ext hx9 (by simp)) (show n=_ from hn) (by omega)) ?_
  rintro e w10 ⟨z,rfl,hZ,hx10⟩
  refine⟨z,rfl,?_⟩
  have hS10:=hS.ext hx10
  have hzl:z.2.1=(ze2 L q).length:=by have:=hZ.len;rw [xg encI zed] at this;omega
  have hbl:(ze2 L q).length<=1024:=by
   obtain⟨_,_,_,_,_,hst⟩:=hU.2
   have:=List.length_filter_le (zh7 q) L
   have:=hst.good.many
   unfold ze2;omega
  have h9s:b7 < w9.heap.size:=lt_of_get g7
  have hZb:∀ b∈jw z,b≠b7:=fun b hb h=>by have:=jo hZ b hb;omega
  refine zb3 (fun k s3 W=>∃ (j:Nat) (K':Path),s3=(j:Int)/\k+j=(ze2 L q).length/\zke H3 b5 b7 a n nc K' W/\K'.Nodup/\(∀ n,n∈K' ↔ n∈K\/∃ ii∈(ze2 L q).take j,zsa q (x9 ii.names)=some n)/\K'.length<=2048+j/\Mine W.heap w9.heap.size zl 4 z ((ze2 L q).flatMap encI)) (ze2 L q).length ⟨0,K,rfl,rfl,hS10,hKn,by simp,by omega,hZ⟩ ?_
  rintro k3 s3 W3 ⟨j,K',rfl,hk3,hS3,hKn3,hKm3,hKl3,hZ3⟩ Q3 hQ3
  refine zy (fun h=>?_) (fun h=>?_)
  ·have hj:j < (ze2 L q).length:=by omega
   obtain⟨ii,hii⟩:∃ ii,ii=(ze2 L q)[j]:=⟨_,rfl⟩
   refine zff (enc:=encI) zed (by omega) rfl hZ3.cells hzl (i:=j) (v:=ii) (by rw [hii];exact List.getElem?_eq_getElem hj) rfl ?_
   refine qkr (some ii) rfl fun w12 hw12=>?_
   have hx12:Ext [] W3.heap w12.heap:=by rw [hw12];exact .push _
   have h12:w12.heap[W3.heap.size]?=some (.cells (encI ii).toArray zl (0,0)):=by rw [hw12];exact zk
   refine jg (s:=.str) (t:=strOf (x9 ii.names)) rfl h12 rfl ?_
   refine call _ (hS3.ext hx12) (by omega) fun w' hSw hkw=>?_
   refine jr ((j+1:Nat):Int) (by omega) (by omega) (by omega) ?_
   refine hQ3 (k3-1) _ _ (by omega) ⟨j+1,_,rfl,by omega,hSw,zsr hKn3,fun n=>?_,?_,qaq (hZ3.ext hx12 (by simp)) hkw (by decide) hZb⟩
   ·rw [z0c,hKm3,List.take_add_one,List.getElem?_eq_getElem hj,<-hii]
    simp only [Option.toList_some,List.mem_append,List.mem_singleton]
    constructor
    ·rintro ((h1 | ⟨x,h1,h2⟩) | h1)
     ·exact .inl h1
     ·exact .inr ⟨x,.inl h1,h2⟩
     ·exact .inr ⟨ii,.inr rfl,h1⟩
    ·rintro (h1 | ⟨x,h1 | rfl,h2⟩)
     ·exact .inl (.inl h1)
     ·exact .inl (.inr ⟨x,h1,h2⟩)
     ·exact .inr h2
   ·have:=z6q (q:=q) (K:=K') (path:=x9 ii.names)
    omega
  ·have hj:j=(ze2 L q).length:=by omega
   subst hj
   rw [List.take_length] at hKm3
   obtain⟨yy,q5,q7,q8,q9⟩:=hS3
   refine jg (s:=.slc) (t:=yy) rfl q7 rfl ?_
   refine zh (l:=[]) (qfx rfl q8 (by omega)) ?_
   rintro e w15 ⟨rfl,hM15,hx15⟩
   refine⟨(),rfl,?_⟩
   have hge:=jo q8
   have q75:=hx15.get q7 (fun hb=>by have:=hge _ hb;rw [hH3] at this;omega)
   refine jg (s:=.slc) (t:=yy) rfl q75 rfl ?_
   have hsz3:H3.size=H.size+3:=by rw [hH3];exact e3
   have heq:sortS K'=zsu ls L s q:=by
    refine qd3 hKn3 (fun n=>?_)
    ·rw [hKm3,hKm]
     unfold zzt
     simp only [List.mem_append,List.mem_map]
     constructor
     ·rintro (⟨pp,h1,h2⟩ | ⟨ii,h1,h2⟩)
      ·exact⟨pp,.inl h1,h2⟩
      ·exact⟨_,.inr ⟨ii,h1,rfl⟩,h2⟩
     ·rintro ⟨pp,h1 | ⟨ii,h1,rfl⟩,h2⟩
      ·exact .inl ⟨pp,h1,h2⟩
      ·exact .inr ⟨ii,h1,h2⟩
   rw [heq] at hM15
   refine⟨yy,rfl,hM15.mono (by omega),?_,?_⟩
   rotate_left
   ·rw [<-heq];unfold sortS;rw [List.length_mergeSort];omega
   ·exact (hx3.own (hH3▸q9) (fun b hb hlt=>by simp at hb;omega)).own hx15 (fun b hb hlt=>by have:=hge b hb;omega)
theorem qat {H H':Heap}{B b:Nat}{out:Option Addr×Nat×Nat}{vs:List Value}{c:Array Value}{T:TypeId}{f:Nat×Nat}(hO:Mine H B zn 3 out vs) (hx:Ext (jw out) H H') (hb:H[b]?=some (.cells c T f)) (hT:T≠zn):H'[b]?=some (.cells c T f):=
 hx.get hb fun h=>by
  obtain⟨c',h'⟩:=(zki hO b h).2
  rw [hb] at h'
  cases h'
  exact hT rfl
theorem zm4 {H:Heap}{B sz:Nat}{T:TypeId}{x:Option Addr×Nat×Nat}{vs:List Value}(h:Mine H B T sz x vs):x.2.1<=x.2.2:=by
 rcases h with⟨rfl,_⟩ | ⟨_,_,_,_,_,_,_,h,_⟩
 ·exact Nat.le_refl _
 ·exact h
theorem zoh {H H':Heap}{B B' sz:Nat}{T:TypeId}{out x:Option Addr×Nat×Nat}{vs us:List Value}(hO:Mine H B zn 3 out vs) (hx:Ext (jw out) H H') (hM:Mine H B' T sz x us) (hT:T≠zn):Mine H' B' T sz x us:=
 hM.ext hx fun b hb h=>by
  obtain⟨c',h'⟩:=(zki hO b h).2
  obtain⟨c2,h2⟩:=(zki hM b hb).2
  rw [h2] at h'
  cases h'
  exact hT rfl
def zsp (ls:List (List Fil)) (L:List Ino) (g:Sn->Path->List Fil) (s:Sn) (q:Path) (k:List UInt8):List Fil:=
 if (zgl ls L s (q++[k])).2=true then (zgl ls L s (q++[k])).1.file :: (if (zgl ls L s (q++[k])).1.file.dir=true then g (zgl ls L s (q++[k])).1 (q++[k]) else []) else []
def zlj (ls:List (List Fil)) (L:List Ino):Nat->Sn->Path->List Fil
 | 0,_,_=>[]
 | f+1,s,q=>(zsu ls L s q).flatMap (zsp ls L (zlj ls L f) s q)
theorem qe8 {ls:List (List Fil)}{L:List Ino}{s:Sn}{q:Path}{k:List UInt8}(hk:k∈zsu ls L s q):okP (q++[k])/\∃ p∈zzt ls L s q,(vg p).1=q++[k]:=by
 unfold zsu sortS at hk
 rw [List.mem_mergeSort,zze] at hk
 rcases hk with hk | ⟨p,hp,hk⟩
 ·simp at hk
 ·unfold zsa at hk
  split at hk
  ·rename_i h
   have h2:=(within_iff.1 h.2).2
   have hlt:q.length < (vg p).1.length:=by omega
   have e:(vg p).1=q++[k]:=by
    rw [List.getElem?_eq_getElem hlt] at hk
    have h3:=List.take_append_drop q.length (vg p).1
    rw [h2,List.drop_eq_getElem_cons hlt,List.drop_eq_nil_of_le (by omega),Option.some.inj hk] at h3
    exact h3.symm
   exact⟨e▸zmu p,p,hp,e⟩
  ·cases hk
set_option maxHeartbeats 8000000 in
theorem zbp {H0:Heap}{u p m:Nat}{nn bb:Int}{ls:List (List Fil)}{L:List Ino}(hU:zw6 H0 u p m nn bb ls L) (hls:LsOK ls):∀ (f:Nat){w:World}{H:Heap}{q:Path}{s:Sn}{x xa out:Option Addr×Nat×Nat}{Os:List Fil}{B1 B2:Nat},w.heap=H->Ext [] H0 H ->
  9<=f+q.length->Mine H B1 zav 1 x (intRow s.dirs)->DirOK ls.length s->Mine H B2 qx 1 xa (strRow q)->okP q->Mine H H0.size zn 3 out (Os.flatMap zb6)->Os.length+(zlj ls L f s q).length<=1000000 ->
  qj P zfh #[.pointer (some ⟨u,0,none⟩),.agg (snC s x).toArray,.slice xa.1 xa.2.1 xa.2.2,.slice out.1 out.2.1 out.2.2] w fun e w'=>∃ y,e=.returned (zdr y)/\Mine w'.heap H0.size zn 3 y ((Os++zlj ls L f s q).flatMap zb6)/\Ext (jw out) H w'.heap/\∀ c∈jw y,c∈jw out\/H.size<=c
 | 0,_,_,q,_,_,_,_,_,_,_,_,_,hf,_,_,_,hq,_,_=>by have:=hq.2;omega
 | f+1,w,H,q,s,x,xa,out,Os,B1,B2,hw,hx0,hf,hX,hd,hA,hq,hO,hlen=>by
  have hq8:=hq.2
  have hf4:=hls.few
  have hxl:x.2.1=s.dirs.length:=by have:=hX.len;rw [len_intRow] at this;omega
  have hal:xa.2.1=q.length:=by have:=hA.len;rw [zaj] at this;omega
  refine zpu ?_
  unfold zkw
  refine ji hw fun w1 hw1=>?_
  have hx1:Ext [] H w1.heap:=by rw [hw1];exact .push _
  have h5:w1.heap[H.size]?=some (.cells (snC s x).toArray zi (0,0)):=by rw [hw1];exact zk
  refine xw rfl h5 rfl ?_
  refine zh (qh2 rfl (hU.ext (hx0.trans hx1)) hls (hX.ext hx1 (by simp)).cells hxl hd (hA.ext hx1 (by simp)).cells hal hq) ?_
  rintro e w2 ⟨ks,rfl,hK,hx2,hK4⟩
  refine⟨ks,rfl,?_⟩
  obtain⟨Ks,hKs⟩:∃ Ks,Ks=zsu ls L s q:=⟨_,rfl⟩
  have hlist:zlj ls L (f+1) s q=Ks.flatMap (zsp ls L (zlj ls L f) s q):=by rw [hKs];rfl
  rw [<-hKs] at hK hK4
  have hkl:ks.2.1=Ks.length:=by have:=hK.len;rw [zaj] at this;omega
  have hx12:=hx1.trans hx2
  refine zb3 (fun k st W=>∃ (i:Nat) (Ns:List Fil),st.2=(i:Int)/\k+i=Ks.length/\Ns=Os++(Ks.take i).flatMap (zsp ls L (zlj ls L f) s q)/\Mine W.heap H0.size zn 3 st.1 (Ns.flatMap zb6)/\Ext (jw out) H W.heap/\(∀ c∈jw st.1,c∈jw out\/H.size<=c) /\
   W.heap[H.size]?=some (.cells (snC s x).toArray zi (0,0))/\Mine W.heap H.size qx 1 ks (strRow Ks)/\Mine W.heap B1 zav 1 x (intRow s.dirs)/\Mine W.heap B2 qx 1 xa (strRow q)) Ks.length
   ⟨0,Os,rfl,rfl,by simp,hO.ext hx12 (by simp),hx12.mono (by simp),fun c hc=>.inl hc,hx2.get h5 (by simp),hK.mono (by rw [hw1];simp),hX.ext hx12 (by simp),hA.ext hx12 (by simp)⟩ ?_
  rintro k ⟨o,st2⟩ W ⟨i,Ns,hst,hk,hNs,hO',hxW,hoo,g5,hKW,hXW,hAW⟩ Q hQ
  simp only at hst hO' hoo
  subst hst
  have h0W:Ext [] H0 W.heap:=hx0.own hxW (fun b hb hlt=>by have:=jo hO b hb;omega)
  refine zy (fun h=>?_) (fun h=>?_)
  ·have hi:i < Ks.length:=by omega
   have hkid:=qe8 (ls:=ls) (L:=L) (s:=s) (q:=q) (k:=Ks[i]) (by rw [<-hKs];exact List.getElem_mem hi)
   refine joinP_of (fun o' W'=>Mine W'.heap H0.size zn 3 o' ((Ns++zsp ls L (zlj ls L f) s q Ks[i]).flatMap zb6)/\Ext (jw out) H W'.heap/\(∀ c∈jw o',c∈jw out\/H.size<=c) /\
    W'.heap[H.size]?=some (.cells (snC s x).toArray zi (0,0))/\Mine W'.heap H.size qx 1 ks (strRow Ks)/\Mine W'.heap B1 zav 1 x (intRow s.dirs)/\Mine W'.heap B2 qx 1 xa (strRow q)) ?_ ?_
   ·obtain⟨g,hg⟩:∃ g,g=zlj ls L f:=⟨_,rfl⟩
    have hpre:Ns.length+(zsp ls L (zlj ls L f) s q Ks[i]).length<=1000000:=by
     have e:Ks=Ks.take i++Ks[i] :: Ks.drop (i+1):=by rw [<-List.drop_eq_getElem_cons hi,List.take_append_drop]
     have h1:=congrArg (fun l=>(l.flatMap (zsp ls L (zlj ls L f) s q)).length) e
     simp only [List.flatMap_append,List.flatMap_cons,List.length_append] at h1
     rw [hlist,h1] at hlen
     rw [hNs,List.length_append]
     omega
    refine zsv rfl hKW.cells hkl hi rfl ?_
    refine zh (zzc rfl hAW (by omega)) ?_
    rintro e w4 ⟨t24,rfl,hm4,hx4⟩
    refine⟨t24,rfl,?_⟩
    refine z9u _ rfl fun a1 w5 hx5 hc5=>?_
    refine qhi (xs:=q) (ys:=[Ks[i]]) rfl (hm4.ext hx5 (by simp)) (by have:=hx4.1;have:=hx5.1;omega) hc5 rfl (by simp;omega) fun t27 w6 hm6 hx6=>?_
    have hxW6:Ext [] W.heap w6.heap:=(hx4.trans hx5).own hx6 (fun b hb hlt=>by have:=jo hm4 b hb;omega)
    refine xw rfl (hxW6.get g5 (by simp)) rfl ?_
    have hl27:t27.2.1=(q++[Ks[i]]).length:=by have:=hm6.len;rw [zaj] at this;omega
    refine zh (z4x rfl (hU.ext (h0W.trans hxW6)) (hXW.ext hxW6 (by simp)).cells hxl hd.lt (by have:=hd.few;omega) hm6.cells hl27 (zm4 hm6) hkid.1) ?_
    rintro e w7 ⟨y',rfl,hY',hx7⟩
    refine⟨(_,_),rfl,?_⟩
    obtain⟨r,hr⟩:∃ r,r=zgl ls L s (q++[Ks[i]]):=⟨_,rfl⟩
    have hpart:zsp ls L (zlj ls L f) s q Ks[i]=if r.2=true then r.1.file :: (if r.1.file.dir=true then zlj ls L f r.1 (q++[Ks[i]]) else []) else []:=by rw [hr];rfl
    rw [<-hr] at hY' |-
    refine qaj r.1 y' rfl fun w9 hw9=>?_
    have hx79:Ext [] w7.heap w9.heap:=by rw [hw9];exact .push _
    have h12:w9.heap[w7.heap.size]?=some (.cells (snC r.1 y').toArray zi (0,0)):=by rw [hw9];exact zk
    have hxW9:=(hxW6.trans hx7).trans hx79
    have hO9:=hO'.ext hxW9 (by simp)
    have g59:=hxW9.get g5 (by simp)
    have hK9:=hKW.ext hxW9 (by simp)
    have hX9:=hXW.ext hxW9 (by simp)
    have hA9:=hAW.ext hxW9 (by simp)
    have hxH9:Ext (jw out) H w9.heap:=hxW.trans (hxW9.mono (by simp))
    cases hr2:r.2 with
    | false=>
     refine jh rfl ?_
     rw [hpart,hr2]
     refine⟨?_,hxH9,hoo,g59,hK9,hX9,hA9⟩
     simpa using hO9
    | true=>
     refine qp rfl ?_
     refine z3s (n:=3) rfl h12 (by simp [snC]) ?_
     rw [hpart,hr2] at hpre
     simp only [if_true,List.length_cons] at hpre
     refine qbi (i:=r.1.file) rfl hO9 (by have:=h0W.1;have:=hxW9.1;omega) (by omega) fun o1 w11 hm11 hx11 hs11=>?_
     have h12':=qat hO9 hx11 h12 (by decide)
     have g511:=qat hO9 hx11 g59 (by decide)
     have hK11:=zoh hO9 hx11 hK9 (by decide)
     have hX11:=zoh hO9 hx11 hX9 (by decide)
     have hA11:=zoh hO9 hx11 hA9 (by decide)
     have hxH11:Ext (jw out) H w11.heap:=hxH9.own hx11 (fun b hb hlt=>by rcases hoo b hb with h' | h';exact h';omega)
     have hs9:H.size<=w9.heap.size:=hxH9.1
     have hoo1:∀ c∈jw o1,c∈jw out\/H.size<=c:=fun c hc=>by
      rcases hs11 c hc with h' | h'
      ·exact hoo c h'
      ·right;omega
     refine jg (s:=.bool) (t:=r.1.file.dir) rfl h12' rfl ?_
     cases hdir:r.1.file.dir with
     | false=>
      refine qp rfl ?_
      rw [hpart,hr2,if_pos rfl,hdir]
      exact⟨hm11,hxH11,hoo1,g511,hK11,hX11,hA11⟩
     | true=>
      refine jh rfl ?_
      refine xw rfl h12' rfl ?_
      rw [hdir,if_pos rfl] at hpre
      have h011:Ext [] H0 w11.heap:=hx0.own hxH11 (fun b hb hlt=>by have:=jo hO b hb;omega)
      have hY11:=zoh hO9 hx11 (hY'.ext hx79 (by simp)) (by decide)
      have hT11:=zoh hO9 hx11 ((hm6.ext hx7 (by simp)).ext hx79 (by simp)) (by decide)
      refine zh (zbp hU hls f rfl h011 (by simp;omega) hY11 (by rw [hr];exact hd.over _) hT11 hkid.1 hm11 (by simp;omega)) ?_
      rintro e w12 ⟨o2,rfl,hm12,hx12',hs12⟩
      refine⟨o2,rfl,?_⟩
      rw [hpart,hr2,if_pos rfl,hdir,if_pos rfl]
      refine⟨?_,hxH11.own hx12' (fun b hb hlt=>by rcases hoo1 b hb with h' | h';exact h';omega),fun c hc=>?_,qat hm11 hx12' g511 (by decide),zoh hm11 hx12' hK11 (by decide),zoh hm11 hx12' hX11 (by decide),zoh hm11 hx12' hA11 (by decide)⟩
      ·rw [List.append_assoc] at hm12
       exact hm12
      ·rcases hs12 c hc with h' | h'
       ·exact hoo1 c h'
       ·right;have:=hxH11.1;omega
   ·rintro o' W' ⟨r1,r2,r3,r4,r5,r6,r7⟩
    refine jr ((i+1:Nat):Int) (by omega) (by omega) (by omega) ?_
    refine hQ (k-1) _ _ (by omega) ⟨i+1,_,rfl,by omega,?_,r1,r2,r3,r4,r5,r6,r7⟩
    rw [hNs,List.append_assoc,List.take_add_one,List.getElem?_eq_getElem hi,Option.toList_some,List.flatMap_append,List.flatMap_singleton]
  ·have hi:i=Ks.length:=by omega
   subst hi
   rw [List.take_length] at hNs
   refine⟨o,rfl,?_,hxW,hoo⟩
   rw [hlist,<-hNs]
   exact hO'
def qe0 (ls:List (List Fil)) (L:List Ino):Nat->Sn->Path->List Path
 | 0,_,_=>[]
 | f+1,s,q=>(zsu ls L s q).flatMap fun k=>if (zgl ls L s (q++[k])).2=true then (q++[k]) :: (if (zgl ls L s (q++[k])).1.file.dir=true then qe0 ls L f (zgl ls L s (q++[k])).1 (q++[k]) else []) else []
theorem qbr {ls:List (List Fil)}{L:List Ino}:∀ (f:Nat) (s:Sn) (q:Path),(zlj ls L f s q).length=(qe0 ls L f s q).length
 | 0,_,_=>rfl
 | f+1,s,q=>by
  unfold zlj qe0
  rw [List.length_flatMap,List.length_flatMap]
  congr 1
  refine List.map_congr_left fun k _=>?_
  unfold zsp
  split
  ·split
   ·simp [qbr f]
   ·rfl
  ·rfl
def qlc (ls:List (List Fil)) (L:List Ino):List Path:=(ls.flatMap fun Ly=>Ly.map fun f=>(vg f.path).1)++L.map fun i=>(vg (x9 i.names)).1
theorem qdb {ls:List (List Fil)}{L:List Ino}{s:Sn}{q:Path}(hd:DirOK ls.length s){p:List UInt8}(hp:p∈zzt ls L s q):(vg p).1∈qlc ls L:=by
 unfold zzt at hp
 rcases List.mem_append.1 hp with hp | hp
 ·obtain⟨i,hi,hp⟩:=List.mem_flatMap.1 hp
  obtain⟨f,hf,rfl⟩:=List.mem_map.1 hp
  have hlt:=hd.lt i hi
  refine List.mem_append_left _ (List.mem_flatMap.2 ⟨ls.getD i [],?_,List.mem_map.2 ⟨f,hf,rfl⟩⟩)
  rw [List.getD_eq_getElem?_getD,List.getElem?_eq_getElem hlt];exact List.getElem_mem _
 ·obtain⟨i,hi,rfl⟩:=List.mem_map.1 hp
  exact List.mem_append_right _ (List.mem_map.2 ⟨i,(List.mem_filter.1 hi).1,rfl⟩)
theorem zzp {ls:List (List Fil)}{L:List Ino}:∀ (f:Nat) (s:Sn) (q:Path),DirOK ls.length s->∀ x∈qe0 ls L f s q,x∈qlc ls L/\∃ k t,x=q++k :: t
 | 0,_,_,_,x,hx=>by simp [qe0] at hx
 | f+1,s,q,hd,x,hx=>by
  unfold qe0 at hx
  obtain⟨k,hk,hx⟩:=List.mem_flatMap.1 hx
  obtain⟨_,p,hp,he⟩:=qe8 hk
  split at hx
  ·rcases List.mem_cons.1 hx with rfl | hx
   ·exact⟨he▸qdb hd hp,k,[],rfl⟩
   ·split at hx
    ·obtain⟨h1,k',t,h2⟩:=zzp f _ _ (hd.over _) x hx
     exact⟨h1,k,k' :: t,by rw [h2];simp⟩
    ·simp at hx
  ·simp at hx
theorem z7x {ls:List (List Fil)}{L:List Ino}{s:Sn}{q:Path}:(zsu ls L s q).Nodup:=by
 unfold zsu sortS
 exact (List.mergeSort_perm _ _).nodup_iff.2 (zsi List.nodup_nil)
theorem z1t {ls:List (List Fil)}{L:List Ino}:∀ (f:Nat) (s:Sn) (q:Path),DirOK ls.length s->(qe0 ls L f s q).Nodup
 | 0,_,_,_=>List.nodup_nil
 | f+1,s,q,hd=>by
  have pre:∀ k x,x∈(if (zgl ls L s (q++[k])).2=true then (q++[k]) :: (if (zgl ls L s (q++[k])).1.file.dir=true then qe0 ls L f (zgl ls L s (q++[k])).1 (q++[k]) else []) else [])->∃ t,x=q++k :: t:=by
   intro k x hx
   split at hx
   ·rcases List.mem_cons.1 hx with rfl | hx
    ·exact⟨[],rfl⟩
    ·split at hx
     ·obtain⟨_,k',t,h2⟩:=zzp f _ _ (hd.over _) x hx
      exact⟨k' :: t,by rw [h2];simp⟩
     ·simp at hx
   ·simp at hx
  unfold qe0 List.Nodup
  rw [List.pairwise_flatMap]
  refine⟨fun k hk=>?_,?_⟩
  ·split
   ·refine List.pairwise_cons.2 ⟨fun x hx e=>?_,?_⟩
    ·subst e
     split at hx
     ·obtain⟨_,k',t,h2⟩:=zzp f _ _ (hd.over _) _ hx
      have:=congrArg List.length h2
      simp at this
     ·simp at hx
    ·split
     ·exact z1t f _ _ (hd.over _)
     ·exact List.Pairwise.nil
   ·exact List.Pairwise.nil
  ·refine (z7x (ls:=ls) (L:=L) (s:=s) (q:=q)).imp fun {k k'} hkk x hx y hy e=>?_
   obtain⟨t,rfl⟩:=pre k x hx
   obtain⟨t',rfl⟩:=pre k' y hy
   have:=List.append_cancel_left e
   simp only [List.cons.injEq] at this
   exact hkk this.1
theorem z5j {ls:List (List Fil)}{L:List Ino}(hls:LsOK ls) (hL:L.length<=1024) (f:Nat){s:Sn}(q:Path) (hd:DirOK ls.length s):(zlj ls L f s q).length<=4000:=by
 rw [qbr]
 refine Nat.le_trans (List.Nodup.length_le_of_subset (z1t f s q hd) fun x hx=>(zzp f s q hd x hx).1) ?_
 have h1:∀ (l:List (List Fil)),(∀ Ly∈l,Ly.length<=512)->(l.flatMap fun Ly=>Ly.map fun f=>(vg f.path).1).length<=512 * l.length:=by
  intro l
  induction l with
  | nil=>simp
  | cons Ly l ih=>
   intro h
   have h2:=ih fun x hx=>h x (by simp [hx])
   have h3:=h Ly (by simp)
   simp only [List.flatMap_cons,List.length_append,List.length_map,List.length_cons]
   omega
 have h2:=h1 ls hls.small
 have:=hls.few
 unfold qlc
 rw [List.length_append,List.length_map]
 omega
def zni (ls:List (List Fil)) (L:List Ino):List Fil:=zlj ls L 9 (zlg ls) []
theorem qgl {w:World}{H:Heap}{u p m:Nat}{nn bb:Int}{ls:List (List Fil)}{L:List Ino}(hw:w.heap=H) (hU:zw6 H u p m nn bb ls L) (hls:LsOK ls) :
  qj P zd1 #[.pointer (some ⟨u,0,none⟩)] w fun e w'=>∃ y,e=.returned (zdr y)/\Mine w'.heap H.size zn 3 y ((zni ls L).flatMap zb6)/\Ext [] H w'.heap:=by
 have hL:L.length<=1024:=by
  obtain⟨_,_,_,_,_,hst⟩:=hU.2
  exact hst.good.many
 have hf4:=hls.few
 refine zjy ?_
 unfold zhr
 refine qp rfl ?_
 refine zh (qfb hw hU.1 (by omega)) ?_
 rintro e w1 ⟨x,rfl,hX,hx1⟩
 refine⟨_,rfl,?_⟩
 refine zh (zbp hU hls 9 (q:=[]) (s:=zlg ls) (x:=x) (xa:=(none,0,0)) (out:=(none,0,0)) (Os:=[]) (B2:=0) rfl hx1 (by simp) hX .root (.inl ⟨rfl,rfl⟩) ⟨by simp,by simp⟩ (.inl ⟨rfl,rfl⟩) (by have:=z5j hls hL 9 (s:=zlg ls) [] .root;simp;omega)) ?_
 rintro e w2 ⟨y,rfl,hM,hx2,_⟩
 exact⟨y,rfl,y,rfl,by simpa [zni] using hM,hx1.trans hx2⟩
def zx0 (n:Nat):List UInt8:=if h:n<=127 then [UInt8.ofNat n] else UInt8.ofNat (n % 128+128) :: zx0 (n / 128)
termination_by n
decreasing_by omega
theorem zut {n:Nat}(h:n<=127):zx0 n=[UInt8.ofNat n]:=by rw [zx0,dif_pos h]
theorem zwu {n:Nat}(h:127 < n):zx0 n=UInt8.ofNat (n % 128+128) :: zx0 (n / 128):=by rw [zx0,dif_neg (by omega)]
def zxb (L:List UInt8):List UInt8:=zx0 L.length++L
def ql7 (H1:Heap) (F:List Nat) (b:Nat) (L:List UInt8) (W:World) (x:Option Addr×Nat×Nat):Prop:=Ext (b :: F) H1 W.heap/\W.heap[b]?=some (.cells #[zdr x] zg0 (0,0))/\Mine W.heap 0 zac 1 x (byteCells L)/\b∉jw x/\(∀ c∈jw x,c∈F\/H1.size<=c)/\b < H1.size
def zt9 (H1:Heap) (F:List Nat) (b:Nat) (L:List UInt8) (W:World):Prop:=∃ x,ql7 H1 F b L W x
theorem qkk (x:BitVec 8):(x ||| 128#8).toNat=x.toNat % 128+128:=by
 revert x;decide
theorem or8 {n:Nat}{K:Int->Prop}(h:K ((n % 128+128:Nat):Int)):orI .u8 ((n % 256:Nat):Int) 128 K:=by
 refine⟨_,?_,h⟩
 have e1:BitVec.ofInt 8 ((n % 256:Nat):Int)=BitVec.ofNat 8 n:=by
  apply BitVec.eq_of_toNat_eq
  simp [BitVec.toNat_ofInt]
  omega
 show _=IntKind.u8.wrap ((BitVec.ofInt 8 ((n % 256:Nat):Int) ||| BitVec.ofInt 8 128).toNat:Int)
 rw [e1]
 have e2:=qkk (BitVec.ofNat 8 n)
 have e3:BitVec.ofInt 8 128=128#8:=by decide
 rw [e3,e2,zl6]
 simp only [BitVec.toNat_ofNat]
 omega
theorem qmh {w:World}{H1:Heap}{F:List Nat}{b:Nat}{L:List UInt8}{x:Option Addr×Nat×Nat}{m:Nat}{K:World->Prop}(hO:ql7 H1 F b L w x) (hm:m < 256) (hL:L.length<=1099511627776) (hK:∀ w',zt9 H1 F b (L++[UInt8.ofNat m]) w'->K w') :
  za2 P (Instr.buildSlice xk 1 #[(0,(Value.int .u8 (m:Int)))]) .slc w fun (t18:(Option Addr×Nat×Nat)) w_2=>
  za2 P (Builtin.append_ #[xk,xk] xk #[(Value.slice x.1 x.2.1 x.2.2),(Value.slice t18.1 t18.2.1 t18.2.2)]) .slc w_2 fun (t19:(Option Addr×Nat×Nat)) w_3=>
  qg (some ⟨b,0,none⟩) fun p_1=>
  stC p_1 (Value.slice t19.1 t19.2.1 t19.2.2) w_3 K:=by
 obtain⟨h1,h2,h3,h4,h5,h6⟩:=hO
 have hxl:x.2.1=L.length:=by have:=h3.len;simp at this;omega
 refine zaf (s:=.slc) (some ⟨w.heap.size,0,none⟩,1,1) _ (zee E8 uS8 (v:=.int .u8 (m:Int)) rfl (by omega) (by omega)) ?_
 have hxp:Ext [] w.heap (w.heap.push (.cells (Value.int .u8 (m:Int)).cells zac)):=.push _
 have hbl:=lt_of_get h2
 refine zbx (n:=1) (us:=byteCells [UInt8.ofNat m]) (H:=w.heap.push (.cells (Value.int .u8 (m:Int)).cells zac)) E8 (by omega) uS8 (zar uS8) rfl (h3.ext hxp (by simp)) (Nat.zero_le _)
  (Src.slc rfl (.inr ⟨w.heap.size,0,_,_,_,rfl,zk,by simp [Value.cells],by simp [Value.cells,byteCells];omega⟩) rfl) zay (by omega) ?_
 intro x' w4 hm4 hl4 hx4 hs4
 have hb4:w4.heap[b]?=some (.cells #[zdr x] zg0 (0,0)):=hx4.get (hxp.get h2 (by simp)) h4
 show stC ⟨b,0,none⟩ (zdr x') w4 K
 refine zb8 rfl hb4 (by simp) fun w5 hw5=>hK w5 ?_
 have hx5:Ext [b] w4.heap w5.heap:=by rw [hw5];exact Ext.set _ (by simp)
 have hs1:=h1.1
 have hp1:=hxp.1
 have hbx:b∉jw x':=fun h=>by
  rcases hs4 b h with h | h
  ·exact h4 h
  ·have:=hp1;omega
 refine⟨x',?_,by rw [hw5];exact qy hb4,?_,hbx,fun c hc=>?_,h6⟩
 ·have h14:Ext (b :: F) H1 w4.heap:=(h1.trans (hxp.mono (by simp))).own hx4 (fun c hc hlt=>by
   rcases h5 c hc with h | h
   ·exact List.mem_cons_of_mem _ h
   ·omega)
  exact h14.trans (hx5.mono (by simp))
 ·rw [<-byteCells_append]
  exact hm4.ext hx5 (fun c hc=>by simp only [List.mem_singleton];rintro rfl;exact hbx hc)
 ·rcases hs4 c hc with h | h
  ·exact h5 c h
  ·exact .inr (by omega)
theorem z5k:∀ (m n:Nat),n < 128 ^ (m+1)->(zx0 n).length<=m+1
 | 0,n,h=>by rw [zut (by simp at h;omega)];simp
 | m+1,n,h=>by
  by_cases hl:n<=127
  ·rw [zut hl];simp
  ·rw [zwu (by omega),List.length_cons]
   have:=z5k m (n / 128) (by rw [Nat.pow_succ] at h;omega)
   omega
theorem zij {n:Nat}(h:n < 18446744073709551616):(zx0 n).length<=10:=z5k 9 n (Nat.lt_of_lt_of_le h (by decide))
theorem qm7 {k:Nat}{K:Int->Prop}(h:K ((k / 128:Nat):Int)):z7c .u64 (k:Int) 7 K:=by
 refine⟨by omega,_,?_,h⟩
 have e:(2:Int) ^ (min (Int.toNat 7) IntKind.u64.bits)=128:=by decide
 rw [e,Int.fdiv_eq_ediv_of_nonneg _ (by omega)]
 omega
theorem qbu {w:World}{H1:Heap}{F:List Nat}{b:Nat}{L:List UInt8}(n:Nat) (hO:zt9 H1 F b L w) (hn:n < 18446744073709551616) (hL:L.length<=549755813888) :
  qj P zd6 #[.pointer (some ⟨b,0,none⟩),.int .u64 (n:Int)] w fun e w'=>e=.returned (.tuple #[])/\zt9 H1 F b (L++zx0 n) w':=by
 have hnl:=zij hn
 refine zu5 ?_
 unfold zo8
 refine qp rfl ?_
 refine zae (fun (s:Int) W=>∃ (k:Nat) (M:List UInt8),s=(k:Int)/\zt9 H1 F b M W/\M++zx0 k=L++zx0 n) (fun s _=>s.toNat) ⟨n,L,rfl,hO,rfl⟩ ?_
 rintro _ W ⟨k,M,rfl,⟨x,hX⟩,hM⟩
 have hMl:M.length<=1099511627776:=by have:=congrArg List.length hM;simp at this;omega
 refine zy (fun h=>?_) (fun h=>?_)
 ·simp only [jc]
  refine jg (s:=.slc) (t:=x) rfl hX.2.1 rfl ?_
  refine⟨_,(zl6 k).symm,or8 ?_⟩
  refine qmh hX (by omega) hMl fun w' hO'=>qm7 ?_
  exact⟨⟨k / 128,_,rfl,hO',by rw [<-hM,zwu (n:=k) (by omega)];simp⟩,by omega⟩
 ·simp only [jc]
  refine jg (s:=.slc) (t:=x) rfl hX.2.1 rfl ?_
  refine⟨_,(zl6 k).symm,?_⟩
  refine qmh hX (by omega) hMl fun w' hO'=>?_
  rw [Nat.mod_eq_of_lt (by omega),show M++[UInt8.ofNat k]=L++zx0 n by rw [<-hM,zut (by omega)]] at hO'
  exact⟨trivial,hO'⟩
theorem qe7 {w:World}{H1:Heap}{F:List Nat}{b:Nat}{L:List UInt8}(M:List UInt8) (hO:zt9 H1 F b L w) (hL:L.length+M.length<=274877906944) :
  qj P zhm #[.pointer (some ⟨b,0,none⟩),.string (strOf M)] w fun e w'=>e=.returned (.tuple #[])/\zt9 H1 F b (L++zxb M) w':=by
 refine zua ?_
 unfold zn3
 refine qp rfl ?_
 have hnl:=zij (n:=M.length) (by omega)
 refine zsh (by omega) (by simp;omega) ?_
 refine zh (qbu M.length hO (by omega) (by omega)) ?_
 rintro e w1 ⟨rfl,x,hX⟩
 refine⟨(),rfl,?_⟩
 obtain⟨h1,h2,h3,h4,h5,h6⟩:=hX
 have hxl:x.2.1=(L++zx0 M.length).length:=by have:=h3.len;simp at this;simp;omega
 rw [List.length_append] at hxl
 simp only [jc]
 refine jg (s:=.slc) (t:=x) rfl h2 rfl ?_
 refine zbx E8 (by omega) uS8 ⟨_,zzf,by intro k h;cases h⟩ rfl h3 (Nat.zero_le _) (n:=M.length) (us:=byteCells M) Src.str zay (by omega) ?_
 intro x' w4 hm4 hl4 hx4 hs4
 have hb4:w4.heap[b]?=some (.cells #[zdr x] zg0 (0,0)):=hx4.get h2 h4
 refine zb8 rfl hb4 (by simp) fun w5 hw5=>?_
 have hx5:Ext [b] w4.heap w5.heap:=by rw [hw5];exact Ext.set _ (by simp)
 have hs1:=h1.1
 have hbl:=lt_of_get h2
 have hbx:b∉jw x':=fun h=>by
  rcases hs4 b h with h | h
  ·exact h4 h
  ·omega
 refine⟨trivial,x',?_,by rw [hw5];exact qy hb4,?_,hbx,fun c hc=>?_,h6⟩
 ·have h14:Ext (b :: F) H1 w4.heap:=h1.own hx4 (fun c hc hlt=>by
   rcases h5 c hc with h | h
   ·exact List.mem_cons_of_mem _ h
   ·omega)
  exact h14.trans (hx5.mono (by simp))
 ·rw [zxb,<-List.append_assoc,<-byteCells_append]
  exact hm4.ext hx5 (fun c hc=>by simp only [List.mem_singleton];rintro rfl;exact hbx hc)
 ·rcases hs4 c hc with h | h
  ·exact h5 c h
  ·exact .inr (by omega)
theorem qgq {w:World}{H1:Heap}{F:List Nat}{b:Nat}{L:List UInt8}(hO:zt9 H1 F b L w) (hL:L.length<=549755813888) :
  qj P zi1 #[.pointer (some ⟨b,0,none⟩)] w fun e w'=>∃ y,e=.returned (zdr y)/\Mine w'.heap w.heap.size zac 1 y (byteCells L)/\Ext [] w.heap w'.heap:=by
 obtain⟨x,h1,h2,h3,h4,h5,h6⟩:=hO
 have hxl:x.2.1=L.length:=by have:=h3.len;simp at this;omega
 refine ztb ?_
 unfold znf
 refine qp rfl ?_
 simp only [jc]
 refine jg (s:=.slc) (t:=x) rfl h2 rfl ?_
 refine zbx (x:=(none,0,0)) (vs:=[]) (B:=w.heap.size) E8 (by omega) uS8 (zar uS8) rfl (.inl ⟨rfl,rfl⟩) (Nat.le_refl _) (Src.slc rfl h3.cells (by simp;omega)) zay (by simp only;omega) ?_
 intro y w' hm hl hx hs
 exact⟨y,rfl,by simpa using hm,hx.mono (by simp [jw])⟩
def zmi (k:Int):List UInt8:=zx0 (IntKind.u64.wrap k).toNat
theorem z3g (k:Int):0<=IntKind.u64.wrap k/\IntKind.u64.wrap k < 18446744073709551616:=by
 simp only [IntKind.wrap,IntKind.bits,IntKind.signed]
 have e:(2:Int) ^ 64=18446744073709551616:=by decide
 simp only [e,Bool.false_and,Bool.false_eq_true,if_false]
 omega
theorem cvU {k:Int}{K:Int->Prop}(h:∀ n:Nat,n=(IntKind.u64.wrap k).toNat->n < 18446744073709551616->K (n:Int)):cvI .u64 k K:=by
 have hw:=z3g k
 refine⟨((IntKind.u64.wrap k).toNat:Int),by omega,h _ rfl (by omega)⟩
theorem zgb {k:Int}:(zmi k).length<=10:=zij (by have:=z3g k;omega)
theorem zcO:zc P zg0=#[zdr (none,0,0)]:=by kernel_rfl
theorem zt9.rebase {H1:Heap}{F:List Nat}{b:Nat}{L:List UInt8}{w w':World}(h:zt9 H1 F b L w) (hx:Ext [] w.heap w'.heap):∃ F',zt9 w'.heap F' b L w'/\(∀ c∈F',c∈F\/H1.size<=c)/\∀ c∈F',c < w.heap.size:=by
 obtain⟨x,h1,h2,h3,h4,h5,h6⟩:=h
 have:=hx.1
 have:=lt_of_get h2
 refine⟨jw x,⟨x,.refl _ _,hx.get h2 (by simp),h3.ext hx (by simp),h4,fun c hc=>.inl hc,by omega⟩,h5,fun c hc=>?_⟩
 rcases h3 with⟨hx1,_⟩ | ⟨b',c',hx1,_,hb',_⟩
 ·simp [jw,hx1] at hc
 ·simp [jw,hx1] at hc
  subst hc
  exact lt_of_get hb'
theorem zt9.unbase {H1:Heap}{F F':List Nat}{b:Nat}{L L':List UInt8}{w w1 w':World}(h:zt9 H1 F b L w) (hx:Ext [] w.heap w1.heap) (hF:∀ c∈F',c∈F\/H1.size<=c) (h':zt9 w1.heap F' b L' w'):zt9 H1 F b L' w':=by
 obtain⟨x,h1,h2,h3,h4,h5,h6⟩:=h
 obtain⟨y,g1,g2,g3,g4,g5,g6⟩:=h'
 have s1:=h1.1
 have s2:=hx.1
 refine⟨y,(h1.trans (hx.mono (by simp))).own g1 (fun c hc hlt=>?_),g2,g3,g4,fun c hc=>?_,h6⟩
 ·rcases List.mem_cons.1 hc with rfl | hc
  ·simp
  ·rcases hF c hc with h | h
   ·exact List.mem_cons_of_mem _ h
   ·omega
 ·rcases g5 c hc with h | h
  ·exact hF c h
  ·exact .inr (by omega)
theorem zt9.ext {H1:Heap}{F:List Nat}{b:Nat}{L:List UInt8}{w w':World}(h:zt9 H1 F b L w) (hx:Ext [] w.heap w'.heap):zt9 H1 F b L w':=by
 obtain⟨x,h1,h2,h3,h4,h5,h6⟩:=h
 exact⟨x,h1.trans (hx.mono (by simp)),hx.get h2 (by simp),h3.ext hx (by simp),h4,h5,h6⟩
theorem qlo {w:World}{H:Heap}{D:List UInt8}(hw:w.heap=H){K:(Option Addr×Nat×Nat)->World->Prop}
  (hK:∀ y w',Cells w'.heap y.1 (byteCells D)->y.2.1=D.length->y.2.1<=y.2.2->jw y=[H.size]->Ext [] H w'.heap->H.size < w'.heap.size->K y w'):za2 P (convert qx xk (.string (strOf D))) .slc w K:=by
 subst hw
 have h:=run_bytes_of_string w qx xk zac (strOf D) zzf uS8 u8 (P:=P)
 have hge:=grownCap_ge w (strOf D).size 0 zac
 refine zaf (s:=.slc) (some ⟨w.heap.size,0,none⟩,(strOf D).size,grownCap w (strOf D).size 0 zac) _ h ?_
 refine hK _ _ (.inr ⟨w.heap.size,0,_,_,_,rfl,zk,?_,?_⟩) (by simp) hge rfl (.push _) (by show w.heap.size < (w.heap.push _).size;simp)
 ·simp [bytesRow,strOf]
 ·rw [Nat.zero_add]
  simp [bytesRow,strOf,byteCells,List.take_of_length_le]
def rdN:Nat->Nat->List UInt8->Option (Nat×List UInt8)
 | _,_,[]=>none
 | at',acc,c :: R=>if (at'=9/\1 < c.toNat)\/(0 < at'/\c.toNat=0) then none else
  if c.toNat < 128 then some (acc+c.toNat * 128 ^ at',R) else rdN (at'+1) (acc+(c.toNat % 128) * 128 ^ at') R
def rdNum (R:List UInt8):Option (Nat×List UInt8):=rdN 0 0 R
theorem z5o:∀ (R0:List UInt8) (e acc n:Nat) (R:List UInt8),e<=9->rdN e acc R0=some (n,R)->∃ m,R0=zx0 m++R/\n=acc+m * 128 ^ e/\m < 2 ^ (64-7 * e)/\(0 < e->0 < m)
 | [],e,acc,n,R,he,h=>by simp [rdN] at h
 | c :: R0,e,acc,n,R,he,h=>by
  simp only [rdN] at h
  have hc:=c.toNat_lt
  split at h
  ·cases h
  ·rename_i hbad
   split at h
   ·rename_i hlt
    simp only [Option.some.injEq,Prod.mk.injEq] at h
    obtain⟨rfl,rfl⟩:=h
    refine⟨c.toNat,?_,rfl,?_,fun h=>by omega⟩
    ·rw [zut (by omega)];simp
    ·by_cases h9:e=9
     ·subst h9;simp;omega
     ·have:2 ^ 8<=2 ^ (64-7 * e):=Nat.pow_le_pow_right (by omega) (by omega)
      omega
   ·rename_i hge
    have h9:e < 9:=by omega
    obtain⟨m,e1,e2,e3,e4⟩:=z5o R0 (e+1) _ n R (by omega) h
    have hm:=e4 (by omega)
    refine⟨c.toNat % 128+128 * m,?_,?_,?_,fun _=>by omega⟩
    ·rw [zwu (by omega),show (c.toNat % 128+128 * m) % 128+128=c.toNat by omega,show (c.toNat % 128+128 * m) / 128=m by omega,e1]
     simp
    ·rw [e2,Nat.pow_succ,Nat.add_mul]
     generalize 128 ^ e=q
     rw [Nat.mul_comm q 128,<-Nat.mul_assoc,Nat.mul_comm m 128]
     omega
    ·have e5:2 ^ (64-7 * e)=2 ^ (64-7 * (e+1)) * 128:=by
      rw [show 64-7 * e=(64-7 * (e+1))+7 by omega,Nat.pow_add]
     omega
theorem z8k {R0 R:List UInt8}{n:Nat}(h:rdNum R0=some (n,R)):R0=zx0 n++R/\n < 18446744073709551616:=by
 obtain⟨m,h1,h2,h3,_⟩:=z5o R0 0 0 n R (by omega) h
 simp at h2
 subst h2
 exact⟨h1,by simpa using h3⟩
def zw5 (most:Nat) (R:List UInt8):Option (List UInt8×List UInt8):=
 match rdNum R with
 | none=>none
 | some (n,R)=>if most < n\/R.length < n then none else some (R.take n,R.drop n)
abbrev Rest:=Option (List UInt8)
def InW (H:Heap) (b:Nat) (F:List Nat) (s:Rest):Prop:=∃ (x:Option Addr×Nat×Nat) (e:Int),H[b]?=some (.cells #[zdr x,.int .i64 e] zlr (0,0))/\b∉F/\(∀ c∈jw x,c∈F) /\
 (match s with | some R=>e=0/\Cells H x.1 (byteCells R)/\x.2.1=R.length/\x.2.1<=x.2.2/\R.length<=9223372036854775807 | none=>e≠0)
theorem zsd {H H':Heap}{M F:List Nat}{x:Option Addr×Nat×Nat}{vs:List Value}(h:Cells H x.1 vs) (hx:Ext M H H') (hF:∀ c∈jw x,c∈F) (hM:∀ c∈F,c∉M):Cells H' x.1 vs:=
 h.ext hx fun a ha _=>hM _ (hF _ (by simp [jw,ha]))
theorem InW.ext {H H':Heap}{b:Nat}{F M:List Nat}{s:Rest}(h:InW H b F s) (hx:Ext M H H') (hb:b∉M) (hF:∀ c∈F,c∉M):InW H' b F s:=by
 obtain⟨x,e,h1,h2,h3,h4⟩:=h
 refine⟨x,e,hx.get h1 hb,h2,h3,?_⟩
 cases s with
 | none=>exact h4
 | some R=>exact⟨h4.1,zsd h4.2.1 hx h3 hF,h4.2.2⟩
theorem InW.lt {H:Heap}{b:Nat}{F:List Nat}{s:Rest}(h:InW H b F s):b < H.size:=by obtain⟨x,e,h1,_⟩:=h;exact lt_of_get h1
theorem zuk {w:World}{H:Heap}{b:Nat}{F:List Nat}{s:Rest}(code:Int) (hw:w.heap=H) (hI:InW H b F s) (hc:code≠0) :
  qj P zcv #[.pointer (some ⟨b,0,none⟩),.int .i64 code] w fun e w'=>e=.returned (.tuple #[])/\InW w'.heap b F none/\Ext [b] H w'.heap:=by
 obtain⟨x,e,h1,h2,h3,_⟩:=hI
 refine zux ?_
 unfold zpa
 simp only [jc,zan]
 refine zb8 hw h1 (by simp) fun w1 hw1=>?_
 have hx1:Ext [b] H w1.heap:=by rw [hw1];exact Ext.set _ (by simp)
 have hb1:w1.heap[b]?=some (.cells #[zdr (none,0,0),.int .i64 e] zlr (0,0)):=by rw [hw1];exact qy h1
 refine zb8 rfl hb1 (by simp) fun w2 hw2=>?_
 exact⟨trivial,⟨(none,0,0),code,by rw [hw2];exact qy hb1,h2,by simp [jw],hc⟩,by rw [hw2];exact hx1.set_own (.inr (by simp))⟩
def z6t (x:Option Addr×Nat×Nat) (k:Nat):Option Addr×Nat×Nat:=(if x.2.2=k then x.1 else x.1.map (·.add (k * 1)),x.2.1-k,x.2.2-k)
theorem z6e {x:Option Addr×Nat×Nat}{k:Nat}:∀ c∈jw (z6t x k),c∈jw x:=by
 obtain⟨a,n,m⟩:=x
 intro c hc
 unfold z6t at hc
 simp only at hc
 split at hc
 ·exact hc
 ·cases a with
  | none=>simp [jw] at hc
  | some a=>
   have:(a.add k).block=a.block:=by unfold Addr.add;split <;> rfl
   simpa [jw,this] using hc
theorem zy1 {H:Heap}{x:Option Addr×Nat×Nat}{R:List UInt8}(h:Cells H x.1 (byteCells R)) (k:Nat) (hl:R.length<=x.2.2):Cells H (z6t x k).1 (byteCells (R.drop k)):=by
 have:=Cells.drop h k x.2.2 (by simpa using hl)
 rw [zk7] at this
 simpa only [z6t,Nat.mul_one] using this
def nx:Rest->(Int×Bool)×Rest
 | some (c :: R)=>(((c.toNat:Int),true),some R)
 | _=>((0,false),none)
theorem z9o {w:World}{H:Heap}{b:Nat}{F:List Nat}{s:Rest}(hw:w.heap=H) (hI:InW H b F s) :
  qj P zk8 #[.pointer (some ⟨b,0,none⟩)] w fun e w'=>e=.returned (.tuple #[.int .u8 (nx s).1.1,.bool (nx s).1.2])/\InW w'.heap b F (nx s).2/\Ext [b] H w'.heap:=by
 obtain⟨x,e,h1,h2,h3,h4⟩:=id hI
 refine zvu ?_
 unfold zpi
 refine jf ?_
 refine qp rfl ?_
 simp only [jc,zan]
 refine jg (s:=.int .i64) (t:=e) hw h1 rfl ?_
 cases s with
 | none=>exact zbr (fun _=>⟨rfl,by rw [hw];exact hI,by rw [hw];exact .refl _ _⟩) (fun h=>absurd h h4)
 | some R=>
  obtain⟨rfl,hC,hl,hcap,hlen⟩:=h4
  refine qp rfl ?_
  refine jg (s:=.slc) (t:=x) hw h1 rfl ?_
  cases R with
  | nil=>
   refine jh (by simp [hl]) ?_
   refine zh (zuk 20 hw hI (by omega)) ?_
   rintro e w' ⟨rfl,h⟩
   exact⟨(),rfl,rfl,h⟩
  | cons c R=>
   refine qp (by simp [hl];omega) ?_
   refine jg (s:=.slc) (t:=x) hw h1 rfl ?_
   obtain⟨b2,o,cs,T,fr,hx1,hb2,ho,hby⟩:=hC.bytes (by simp)
   rw [hx1]
   refine zvs 0 rfl (by rw [hl];simp) ?_
   refine jg (s:=.int .u8) (t:=(c.toNat:Int)) hw hb2 (by have:=hby 0 (by simp);simp at this;exact this) ?_
   refine jg (s:=.slc) (t:=x) hw h1 rfl ?_
   refine qc (s:=.slc) (z6t x 1) (zbd uS8 sz8 (.yes rfl) .no (by rw [hl];simp) hcap) ?_
   refine zb8 hw h1 (by simp) fun w1 hw1=>?_
   have hx:Ext [b] H w1.heap:=by rw [hw1];exact Ext.set _ (by simp)
   have hown:∀ d∈jw (z6t x 1),d∈F:=fun d hd=>h3 d (z6e d hd)
   refine⟨rfl,⟨z6t x 1,0,by rw [hw1];exact qy h1,h2,hown,rfl,?_,by simp [z6t,hl],by simp only [z6t];omega,by simp at hlen;omega⟩,hx⟩
   exact zsd (zy1 hC 1 (by omega)) hx hown fun d hd h=>by simp at h;subst h;exact h2 hd
theorem zwj (m:Nat):(BitVec.ofInt 64 (m:Int)).toNat=m % 18446744073709551616:=by
 rw [BitVec.toNat_ofInt]
 have:((2:Nat) ^ 64:Nat)=18446744073709551616:=by decide
 rw [this];omega
theorem qnt {a b:Nat}{K:Int->Prop}(ha:a < 18446744073709551616) (hb:b < 18446744073709551616) (h:K ((a ||| b:Nat):Int)):orI .u64 (a:Int) (b:Int) K:=by
 refine⟨_,?_,h⟩
 have e:(BitVec.ofInt IntKind.u64.bits (a:Int) ||| BitVec.ofInt IntKind.u64.bits (b:Int)).toNat=a ||| b:=by
  show (BitVec.ofInt 64 (a:Int) ||| BitVec.ofInt 64 (b:Int)).toNat=a ||| b
  rw [BitVec.toNat_or,zwj,zwj,Nat.mod_eq_of_lt ha,Nat.mod_eq_of_lt hb]
 rw [e,z8s]
 have:a ||| b < 2 ^ 64:=Nat.or_lt_two_pow (by simpa using ha) (by simpa using hb)
 rw [Nat.mod_eq_of_lt (by simpa using this)]
theorem qjq (x:BitVec 8):(x &&& 127#8).toNat=x.toNat % 128:=by
 revert x;decide
theorem qnl {c:UInt8}{K:Int->Prop}(h:K ((c.toNat % 128:Nat):Int)):qcp .u8 (c.toNat:Int) 127 K:=by
 refine⟨_,?_,h⟩
 have e1:BitVec.ofInt 8 (c.toNat:Int)=BitVec.ofNat 8 c.toNat:=by
  apply BitVec.eq_of_toNat_eq
  simp
 show _=IntKind.u8.wrap ((BitVec.ofInt 8 (c.toNat:Int) &&& BitVec.ofInt 8 127).toNat:Int)
 have e3:BitVec.ofInt 8 127=127#8:=by decide
 rw [e1,e3,qjq,zl6]
 have:=c.toNat_lt
 simp only [BitVec.toNat_ofNat]
 omega
theorem z9p (e:Nat):2 ^ (7 * e)=128 ^ e:=by rw [Nat.pow_mul]
theorem more7 {c:UInt8}{e acc:Nat}(he:e<=9) (ha:acc < 128 ^ e) (h9:e=9->c.toNat<=1){i:Int}(hi:i=7 * (e:Int)){K:Int->Prop}(h:K ((acc+c.toNat % 128 * 128 ^ e:Nat):Int)) :
  qfj .u64 ((c.toNat % 128:Nat):Int) i fun t=>orI .u64 (acc:Int) t K:=by
 have hc:=c.toNat_lt
 have hp:128 ^ e<=128 ^ 9:=Nat.pow_le_pow_right (by omega) he
 have h128:(128:Nat) ^ 9=9223372036854775808:=by decide
 have hlt:c.toNat % 128 * 128 ^ e < 18446744073709551616:=by
  by_cases h:e=9
  ·subst h
   have:=h9 rfl
   have h1:c.toNat % 128<=1:=by omega
   calc c.toNat % 128 * 128 ^ 9<=1 * 128 ^ 9:=Nat.mul_le_mul_right _ h1
    _ < _:=by decide
  ·have hp8:128 ^ e<=128 ^ 8:=Nat.pow_le_pow_right (by omega) (by omega)
   calc c.toNat % 128 * 128 ^ e<=127 * 128 ^ 8:=Nat.mul_le_mul (by omega) hp8
    _ < _:=by decide
 refine⟨by omega,((c.toNat % 128 * 128 ^ e:Nat):Int),?_,?_⟩
 ·have e1:min i.toNat IntKind.u64.bits=7 * e:=by
   have:IntKind.u64.bits=64:=rfl
   omega
  rw [e1]
  have e2:((c.toNat % 128:Nat):Int) * 2 ^ (7 * e)=((c.toNat % 128 * 128 ^ e:Nat):Int):=by
   rw [<-z9p];simp
  rw [e2,wrap_u64 (by omega) (by omega)]
 ·refine qnt (by omega) hlt ?_
  have h2:acc ||| c.toNat % 128 * 128 ^ e=acc+c.toNat % 128 * 128 ^ e:=by
   rw [<-z9p]
   have h3:=Nat.shiftLeft_add_eq_or_of_lt (i:=7 * e) (b:=acc) (by rw [z9p];exact ha) (c.toNat % 128)
   rw [Nat.shiftLeft_eq] at h3
   rw [Nat.or_comm,<-h3,Nat.add_comm]
  rw [h2];exact h
def nmS (s:Rest):Nat×Rest:=match s with | none=>(0,none) | some R=>match rdNum R with | none=>(0,none) | some (n,R)=>(n,some R)
def txS (most:Nat) (s:Rest):List UInt8×Rest:=match s with | none=>([],none) | some R=>match zw5 most R with | none=>([],none) | some (t,R)=>(t,some R)
theorem z15 {w:World}{H:Heap}{b:Nat}{F:List Nat}{s:Rest}(hw:w.heap=H) (hI:InW H b F s) :
  qj P zes #[.pointer (some ⟨b,0,none⟩)] w fun e w'=>e=.returned (.int .u64 ((nmS s).1:Int))/\InW w'.heap b F (nmS s).2/\Ext [b] H w'.heap:=by
 refine zxu ?_
 unfold zqu
 cases s with
 | none=>
  refine zae (fun (s:Int×Int) W=>W=w) (fun _ _=>0) rfl ?_
  rintro s W rfl
  refine jf ?_
  refine zh (z9o hw hI) ?_
  rintro e w' ⟨rfl,h⟩
  refine⟨(0,false),rfl,?_⟩
  exact jh rfl ⟨rfl,h⟩
 | some R0=>
 refine zae (fun (s:Int×Int) W=>∃ (acc e:Nat) (R:List UInt8),s=((acc:Int),(e:Int))/\e<=9/\acc < 128 ^ e/\InW W.heap b F (some R)/\rdN e acc R=rdNum R0/\Ext [b] H W.heap) (fun s _=>(10-s.2).toNat)
  ⟨0,0,R0,rfl,by omega,by simp,by rw [hw];exact hI,rfl,by rw [hw];exact .refl _ _⟩ ?_
 rintro _ W ⟨acc,e,R,rfl,he,hacc,hIW,hrd,hxW⟩
 refine jf ?_
 refine zh (z9o rfl hIW) ?_
 rintro e' w2 ⟨rfl,hI2,hx2⟩
 have hx02:=hxW.trans hx2
 cases R with
 | nil=>
  refine⟨(0,false),rfl,?_⟩
  refine jh rfl ?_
  have:nmS (some R0)=(0,none):=by simp only [nmS,<-hrd,rdN]
  rw [this]
  exact⟨rfl,hI2,hx02⟩
 | cons c R=>
  refine⟨((c.toNat:Int),true),rfl,?_⟩
  refine qp rfl ?_
  have hbad:((e=9/\1 < c.toNat)\/(0 < e/\c.toNat=0))->ql P zcv #[(Value.pointer (some ⟨b,0,none⟩)),(Value.int .i64 21)] [] true w2 fun (_:Unit) w_3=>
    Ending.returned (Value.int .u64 0)=.returned (.int .u64 ((nmS (some R0)).1:Int))/\InW w_3.heap b F (nmS (some R0)).2/\Ext [b] H w_3.heap:=by
   intro hb
   have:nmS (some R0)=(0,none):=by simp only [nmS,<-hrd,rdN,if_pos hb]
   rw [this]
   refine zh (zuk 21 rfl hI2 (by omega)) ?_
   rintro e3 w3 ⟨rfl,h3,hx3⟩
   exact⟨(),rfl,rfl,h3,hx02.trans hx3⟩
  refine joinP_of (fun _ W'=>W'=w2/\¬((e=9/\1 < c.toNat)\/(0 < e/\c.toNat=0))) ?_ ?_
  ·refine zba (fun h9=>?_) (fun h9=>?_)
   ·refine zy (fun h1=>hbad (.inl ⟨by omega,by simp only at h1;omega⟩)) (fun h1=>?_)
    refine zy (fun hp=>?_) (fun hp=>⟨rfl,by simp only at h1;omega⟩)
    exact zba (fun h0=>hbad (.inr ⟨by omega,by simp only at h0;omega⟩)) (fun h0=>⟨rfl,by simp only at h0 h1;omega⟩)
   ·refine zy (fun hp=>?_) (fun hp=>⟨rfl,by simp only at h9 hp;omega⟩)
    exact zba (fun h0=>hbad (.inr ⟨by simp only at hp;omega,by simp only at h0;omega⟩)) (fun h0=>⟨rfl,by simp only at h0 h9;omega⟩)
  rintro _ W' ⟨rfl,hok⟩
  refine qnl ?_
  refine zsh (by omega) (by omega) ?_
  refine zie (7 * (e:Int)) rfl (by omega) (by omega) ?_
  refine more7 he hacc (fun h=>by omega) rfl ?_
  refine zy (fun h=>?_) (fun h=>?_)
  ·have hc:c.toNat < 128:=by simp only at h;omega
   have:nmS (some R0)=(acc+c.toNat * 128 ^ e,some R):=by simp only [nmS,<-hrd,rdN,if_neg hok,if_pos hc]
   rw [this,Nat.mod_eq_of_lt hc]
   exact⟨rfl,hI2,hx02⟩
  ·have hc:¬c.toNat < 128:=by simp only at h;omega
   refine jr ((e+1:Nat):Int) (by omega) (by omega) (by omega) ?_
   refine⟨⟨_,e+1,R,rfl,by omega,?_,hI2,?_,hx02⟩,by omega⟩
   ·rw [Nat.pow_succ]
    have:c.toNat % 128 * 128 ^ e<=127 * 128 ^ e:=Nat.mul_le_mul_right _ (by omega)
    omega
   ·rw [<-hrd];simp only [rdN,if_neg hok,if_neg hc]
theorem qmm (n:Nat) (w:World):(Builtin.max_ #[zav,zav] zav #[.int .i64 (n:Int),.int .i64 0]).run P w=.ok (.int .i64 (n:Int)) w:=by
 rw [run_max_int2]
 congr 2
theorem z9s {w:World}{H:Heap}{b:Nat}{F:List Nat}{R:List UInt8}{n:Nat}(hw:w.heap=H) (hI:InW H b F (some R)) (hn:n<=9223372036854775807) :
  qj P zga #[.pointer (some ⟨b,0,none⟩),.int .i64 (n:Int)] w fun e w'=>Ext [b] H w'.heap/\((R.length < n/\e=.returned (.slice none 0 0)/\InW w'.heap b F none) \/
   (n<=R.length/\∃ y,e=.returned (zdr y)/\Cells w'.heap y.1 (byteCells (R.take n))/\y.2.1=n/\(∀ c∈jw y,c∈F)/\InW w'.heap b F (some (R.drop n)))):=by
 obtain⟨x,e,h1,h2,h3,rfl,hC,hl,hcap,hlen⟩:=id hI
 refine zn7 ?_
 unfold zk6
 refine jf ?_
 refine qp rfl ?_
 simp only [jc,zan]
 refine jg (s:=.int .i64) (t:=0) hw h1 rfl ?_
 refine qp rfl ?_
 refine jg (s:=.slc) (t:=x) hw h1 rfl ?_
 refine zy (fun h=>?_) (fun h=>?_)
 ·refine zh (zuk 20 hw hI (by omega)) ?_
  rintro e3 w3 ⟨rfl,h3,hx3⟩
  exact⟨(),rfl,hx3,.inl ⟨by omega,trivial,h3⟩⟩
 ·have hnl:n<=R.length:=by omega
  refine jg (s:=.slc) (t:=x) hw h1 rfl ?_
  refine qc (s:=.slc) (if x.2.2=0 then x.1 else x.1.map (·.add (0 * 1)),n-0,x.2.2-0) (zbd uS8 sz8 .no (.yes rfl) (Nat.zero_le _) (by omega)) ?_
  refine jg (s:=.slc) (t:=x) hw h1 rfl ?_
  refine qc (s:=.slc) (z6t x n) (zbd uS8 sz8 (.yes rfl) .no (by omega) hcap) ?_
  refine zb8 hw h1 (by simp) fun w1 hw1=>?_
  have hx:Ext [b] H w1.heap:=by rw [hw1];exact Ext.set _ (by simp)
  have hFb:∀ c∈F,c∉[b]:=fun d hd h=>by simp at h;subst h;exact h2 hd
  have hown:∀ d∈jw (z6t x n),d∈F:=fun d hd=>h3 d (z6e d hd)
  have hy:((if x.2.2=0 then x.1 else x.1.map (·.add (0 * 1)),n-0,x.2.2-0):Option Addr×Nat×Nat).1=x.1:=by
   simp only
   split
   ·rfl
   ·cases x.1 with
    | none=>rfl
    | some a=>simp [Addr.add]
  refine⟨hx,.inr ⟨hnl,(if x.2.2=0 then x.1 else x.1.map (·.add (0 * 1)),n-0,x.2.2-0),rfl,?_,by simp,?_,⟨z6t x n,0,by rw [hw1];exact qy h1,h2,hown,rfl,?_,by simp [z6t,hl],by simp only [z6t];omega,by simp;omega⟩⟩⟩
  ·rw [hy,<-zlb]
   exact zsd (hC.take n) hx h3 hFb
  ·intro c hc
   refine h3 c ?_
   unfold jw at hc |-
   rw [hy] at hc;exact hc
  ·exact zsd (zy1 hC n (by omega)) hx hown hFb
theorem qbf {w:World}{H:Heap}{b:Nat}{F:List Nat}{s:Rest}{most:Nat}(hw:w.heap=H) (hI:InW H b F s) (hm:most<=1073741824) :
  qj P zir #[.pointer (some ⟨b,0,none⟩),.int .i64 (most:Int)] w fun e w'=>e=.returned (.string (strOf (txS most s).1))/\InW w'.heap b F (txS most s).2/\Ext [b] H w'.heap:=by
 refine zuu ?_
 unfold zpk
 refine zh (z15 hw hI) ?_
 rintro e w1 ⟨rfl,h1,hx1⟩
 refine⟨((nmS s).1:Int),rfl,?_⟩
 refine joinP_of (fun _ W=>W=w1/\∃ R,(nmS s).2=some R) ?_ ?_
 ·refine qp rfl ?_
  obtain⟨x,e,g1,g2,g3,g4⟩:=id h1
  simp only [jc,zan]
  refine jg (s:=.int .i64) (t:=e) rfl g1 rfl ?_
  cases hs:(nmS s).2 with
  | none=>
   rw [hs] at g4 h1
   have:txS most s=([],none):=by
    cases s with
    | none=>rfl
    | some R=>
     simp only [nmS] at hs
     simp only [txS,zw5]
     cases h:rdNum R with
     | none=>rfl
     | some y=>rw [h] at hs;simp at hs
   rw [this]
   refine zbr (fun _=>⟨rfl,h1,hx1⟩) (fun h=>absurd h g4)
  | some R=>
   rw [hs] at g4
   exact qp (by rw [g4.1];rfl) ⟨trivial,R,rfl⟩
 rintro _ W ⟨hW,R,hR⟩
 subst hW
 obtain⟨R0,rfl,hn⟩:∃ R0,s=some R0/\rdNum R0=some ((nmS s).1,R):=by
  cases s with
  | none=>simp [nmS] at hR
  | some R0=>
   refine⟨R0,rfl,?_⟩
   simp only [nmS] at hR |-
   cases h:rdNum R0 with
   | none=>rw [h] at hR;simp at hR
   | some y=>rw [h] at hR;simp at hR |-;rw [<-hR]
 rw [hR] at h1
 have hlt:=(z8k hn).2
 generalize (nmS (some R0)).1=n at hn hlt
 refine qc (s:=.int .i64) (most:Int) (qmm most W) ?_
 refine zsh (by omega) (by omega) ?_
 refine zy (fun h=>?_) (fun h=>?_)
 ·have:txS most (some R0)=([],none):=by simp only [txS,zw5,hn];rw [if_pos (by omega)]
  rw [this]
  refine zh (zuk 2 rfl h1 (by omega)) ?_
  rintro e3 w3 ⟨rfl,h3,hx3⟩
  exact⟨(),rfl,rfl,h3,hx1.trans hx3⟩
 ·refine zp6 (by omega) (by omega) ?_
  refine zh (z9s rfl h1 (by omega)) ?_
  rintro e3 w3 ⟨hx3,⟨hl,rfl,h3⟩ | ⟨hl,y,rfl,hC,hy,ho,h3⟩⟩
  ·refine⟨(none,0,0),rfl,?_⟩
   have:txS most (some R0)=([],none):=by simp only [txS,zw5,hn];rw [if_pos (by omega)]
   rw [this]
   refine qc (s:=.str) (strOf []) (z4f uS8 u8 zzf rfl (L:=[]) (.inl rfl) rfl) ?_
   exact⟨rfl,h3,hx1.trans hx3⟩
  ·refine⟨y,rfl,?_⟩
   have:txS most (some R0)=(R.take n,some (R.drop n)):=by simp only [txS,zw5,hn];rw [if_neg (by omega)]
   rw [this]
   refine qc (s:=.str) (strOf (R.take n)) (z4f uS8 u8 zzf rfl hC (by rw [hy];simp;omega)) ?_
   exact⟨rfl,h3,hx1.trans hx3⟩
theorem qix {w:World}{H:Heap}{b:Nat}{F:List Nat}{s:Rest}(hw:w.heap=H) (hI:InW H b F s) :
  qj P zmr #[.pointer (some ⟨b,0,none⟩)] w fun e w'=>e=.returned (.bool (decide (s=some [])))/\w'=w:=by
 obtain⟨x,e,h1,h2,h3,h4⟩:=id hI
 refine zx2 ?_
 unfold zqy
 refine jh rfl ?_
 simp only [jc,zan]
 refine jg (s:=.int .i64) (t:=e) hw h1 rfl ?_
 cases s with
 | none=>exact zba (fun h=>absurd h h4) (fun _=>⟨by simp,trivial⟩)
 | some R=>
  refine jh (by rw [h4.1];rfl) ?_
  refine jg (s:=.slc) (t:=x) hw h1 rfl ?_
  refine⟨?_,trivial⟩
  congr 2
  rw [h4.2.2.1,Bool.eq_iff_iff]
  simp
theorem bIn (x:Option Addr×Nat×Nat) (w:World):(Instr.build zlr #[(0,.slice x.1 x.2.1 x.2.2)]).run P w=.ok (.agg #[zdr x,.int .i64 0]) w:=by kernel_rfl
theorem qh1 {w:World}{H:Heap}{a:Option Addr}{n nc:Nat}{L:List UInt8}(hw:w.heap=H) (hL:Cells H a (byteCells L)) (hn:n=L.length) (hl:L.length<=1099511627776) :
  qj P zqe #[.slice a n nc] w fun e w'=>∃ b F,e=.returned (.pointer (some ⟨b,0,none⟩))/\InW w'.heap b F (some L)/\Ext [] H w'.heap/\H.size<=b/\(∀ c∈F,H.size<=c)/\b < w'.heap.size/\∀ c∈F,c < w'.heap.size:=by
 subst hn
 refine z1p ?_
 unfold zv9
 refine zbx (x:=(none,0,0)) (vs:=[]) (B:=H.size) E8 (by omega) uS8 (zar uS8) hw (.inl ⟨rfl,rfl⟩) (Nat.le_refl _) (Src.slc hw hL (by simp)) zay (by simp only;omega) ?_
 intro y w1 hm hl1 hx hs
 have hxn:Ext [] H w1.heap:=hx.mono (by simp [jw])
 refine qc (s:=.any) _ (bIn y _) ?_
 refine ji rfl fun w2 hw2=>?_
 have hx2:Ext [] w1.heap w2.heap:=by rw [hw2];exact .push _
 have hb2:w2.heap[w1.heap.size]?=some (.cells #[zdr y,.int .i64 0] zlr (0,0)):=by rw [hw2];exact zk
 have hylt:∀ c∈jw y,c < w1.heap.size:=by
  intro c hc
  rcases hm with⟨hx1,_⟩ | ⟨b',c',hx1,_,hb',_⟩
  ·simp [jw,hx1] at hc
  ·simp [jw,hx1] at hc
   subst hc
   exact lt_of_get hb'
 have hyl:y.2.1=L.length:=by have:=hm.len;simp at this;omega
 have hs1:=hxn.1
 have hs2:=hx2.1
 refine⟨w1.heap.size,jw y,rfl,⟨y,0,hb2,fun h=>by have:=hylt _ h;omega,fun c hc=>hc,rfl,?_,hyl,?_,by omega⟩,hxn.trans hx2,by omega,fun c hc=>jo hm c hc,lt_of_get hb2,fun c hc=>by have:=hylt c hc;omega⟩
 ·have:=hm.cells
  rw [List.nil_append] at this
  exact this.ext hx2 (by simp)
 ·rcases hm with⟨hx1,hv⟩ | ⟨_,_,_,_,_,_,_,h,_⟩
  ·rw [hx1];exact Nat.le_refl _
  ·exact h
theorem z5u {w:World}{H:Heap}(L:List UInt8) (hw:w.heap=H):qj P zhw #[.string (strOf L)] w fun e w'=>
  e=.returned (.tuple #[.string (strOf (if (vg L).2=0 then x9 (vg L).1 else [])),.int .i64 (vg L).2])/\Ext [] H w'.heap:=by
 refine zxw ?_
 unfold zq0
 refine zh (zma L hw) ?_
 rintro e w1 ⟨x,rfl,hm,hx1⟩
 refine⟨(_,_),rfl,?_⟩
 refine zbr (fun h=>?_) (fun h=>?_)
 ·rw [if_neg h];exact⟨rfl,hx1⟩
 ·have hok:=zmu L
  refine zh (zgg rfl hm.cells (show x.2.1=_ by have:=hm.len;rw [zaj] at this;omega) (show x.2.1<=x.2.2 from zm4 hm) (by have:=hok.small;omega)) ?_
  rintro e w2 ⟨rfl,hx2⟩
  refine⟨_,rfl,?_⟩
  rw [if_pos h]
  exact⟨by rw [h],hx1.trans hx2⟩
theorem z5s {w:World}{H:Heap}(L:List UInt8) (hw:w.heap=H) :
  qj P zjq #[.string (strOf L)] w fun e w'=>∃ x,e=.returned (zdr x)/\Mine w'.heap H.size qx 1 x (strRow (vg L).1)/\Ext [] H w'.heap:=by
 refine zxq ?_
 unfold zro
 refine zh (zma L hw) ?_
 rintro e w1 ⟨x,rfl,h⟩
 exact⟨(x,_),rfl,x,rfl,h⟩
theorem qid (a b:Int) (w:World):(Builtin.max_ #[zav,zav] zav #[.int .i64 a,.int .i64 b]).run P w=.ok (.int .i64 (max a b)) w:=by
 rw [run_max_int2]
 congr 2
 split <;> omega
def upS (L:List UInt8):List UInt8:=x9 ((vg L).1.take ((vg L).1.length-1))
theorem qab {w:World}{H:Heap}(L:List UInt8) (hw:w.heap=H):qj P zjk #[.string (strOf L)] w fun e w'=>e=.returned (.string (strOf (upS L)))/\Ext [] H w'.heap:=by
 have hok:=zmu L
 have hok8:=hok.2
 refine zx1 ?_
 unfold zrk
 refine zh (z5s L hw) ?_
 rintro e w1 ⟨x,rfl,hm,hx1⟩
 refine⟨x,rfl,?_⟩
 have hl:x.2.1=(vg L).1.length:=by have:=hm.len;rw [zaj] at this;omega
 refine qb8 (by omega) (by omega) ?_
 refine qc (s:=.int .i64) _ (qid _ _ _) ?_
 obtain⟨a',hcut,hLc⟩:=zrz (l:=x.2.1) (i:=(vg L).1.length-1) (n:=max ((x.2.1:Int)-1) 0) zj6 zs9 hm.cells (zm4 hm) (by omega) (by omega)
 rw [Nat.mul_one,zdi] at hLc
 refine qc (s:=.slc) (a',(vg L).1.length-1,x.2.2) (hcut _) ?_
 refine zh (zgg rfl hLc (by rw [List.length_take,Nat.min_eq_left (by omega)]) (show (vg L).1.length-1<=x.2.2 by have:=zm4 hm;omega) (by have:=(hok.take ((vg L).1.length-1)).small;omega)) ?_
 rintro e w2 ⟨rfl,hx2⟩
 exact⟨_,rfl,rfl,hx1.trans hx2⟩
theorem qgd {H:Heap}{B sz:Nat}{T:TypeId}{x:Option Addr×Nat×Nat}{α:Type}{enc:α->List Value}(hk:∀ v,(enc v).length=sz) (h0:0 < sz){xs:List α}{v:α}{i:Nat}(hM:Mine H B T sz x (xs.flatMap enc)) (hi:xs[i]?=some v) :
  ∃ b c,x.1=some ⟨b,0,none⟩/\B<=b/\H[b]?=some (.cells c T (0,0))/\x.2.1=xs.length/\∀ j,j < sz->c[0+i * sz+j]?=(enc v)[j]?:=by
 have hlt:=(List.getElem?_eq_some_iff.1 hi).1
 rcases hM with⟨_,h⟩ | ⟨b,c,hx,hB,hb,hc,hl,hle,he⟩
 ·have:=congrArg List.length h
  rw [xg enc hk,List.length_nil] at this
  rcases Nat.mul_eq_zero.1 this <;> omega
 ·rw [xg enc hk] at hl he
  have hl':xs.length=x.2.1:=Nat.eq_of_mul_eq_mul_right h0 hl
  refine⟨b,c,hx,hB,hb,hl'.symm,fun j hj=>?_⟩
  have hm:i * sz+sz<=xs.length * sz:=by
   have:=Nat.mul_le_mul_right sz (show i+1<=xs.length by omega)
   rw [Nat.add_mul] at this;omega
  have h2:(xs.flatMap enc)[i * sz+j]?=(enc v)[j]?:=by
   rw [getElem_flatMap enc hk h0,show (i * sz+j) / sz=i by rw [Nat.mul_comm,Nat.mul_add_div h0,Nat.div_eq_of_lt hj];rfl,show (i * sz+j) % sz=j by rw [Nat.mul_comm,Nat.mul_add_mod,Nat.mod_eq_of_lt hj],hi]
   rfl
  rw [<-h2,<-he,Array.getElem?_toList,Array.getElem?_extract,if_pos (by
   have:xs.length * sz<=c.size:=by rw [hc,hl'];exact Nat.mul_le_mul_right _ hle
   omega)]
  congr 1;omega
theorem zuo {α:Type}{c:Array α}{k:Nat}{v:α}(h:c[k]?=some v):c.setIfInBounds k v=c:=by
 apply Array.ext_getElem?
 intro i
 rw [Array.getElem?_setIfInBounds]
 by_cases hi:k=i
 ·subst hi
  have:=(Array.getElem?_eq_some_iff.1 h).1
  rw [if_pos rfl,if_pos this,h]
 ·rw [if_neg hi]
theorem qer {w:World}{H:Heap}{B:Nat}{x:Option Addr×Nat×Nat}{S:List Fil}(hw:w.heap=H) (hm:Mine H B zn 3 x (S.flatMap zb6)) (hp:S.length<=1000000) :
  qj P zb7 #[.slice x.1 x.2.1 x.2.2] w fun e w'=>∃ x',e=.returned (zdr x')/\Mine w'.heap H.size zn 3 x' (S.flatMap zb6)/\Ext [] H w'.heap:=by
 have hl:x.2.1=S.length:=by have:=hm.len;rw [z9b] at this;omega
 have hC:=hm.cells
 refine zgm ?_
 unfold zdo
 by_cases h:x.1.isNone=true
 ·have hx0:x.1=none:=by simpa using h
  refine jh h ?_
  rcases hm with⟨_,h2⟩ | ⟨_,_,h2,_⟩
  ·exact⟨(none,0,0),rfl,.inl ⟨rfl,h2⟩,by rw [hw];exact .refl _ _⟩
  ·rw [hx0] at h2;cases h2
 ·refine qp (by cases hh:x.1 with
   | none=>rw [hh] at h;exact absurd rfl h
   | some v=>rfl) ?_
  refine ql9 hw fun w1 hx1 hm1=>?_
  refine qj8 (xs:=[]) (ys:=S) rfl hm1 hx1.1 (hC.ext hx1 (by simp)) hl (by simp;omega) fun x' w2 hm2 hx2=>?_
  exact⟨x',rfl,hm2,hx1.own hx2 (fun c hc hlt=>by simp [jw] at hc;omega)⟩
structure FineF (f:Fil):Prop where
 code:(vg f.path).2=0
 show':x9 (nm f)=f.path
 dir:f.dir=true->f.data=[]
 small:f.data.length<=1024
set_option maxHeartbeats 4000000 in
theorem qef {w:World}{H:Heap}{B:Nat}{x:Option Addr×Nat×Nat}{S:List Fil}(hw:w.heap=H) (hm:Mine H B zn 3 x (S.flatMap zb6)) (hp:S.length<=1000000) (hS:∀ f∈S,FineF f) :
  qj P zmf #[.slice x.1 x.2.1 x.2.2] w fun e w'=>∃ y,e=.returned (.tuple #[zdr y,.int .i64 0])/\Mine w'.heap H.size zn 3 y (S.flatMap zb6)/\Ext [] H w'.heap:=by
 refine zxf ?_
 unfold zq7
 refine zh (qer hw hm hp) ?_
 rintro e w1 ⟨y,rfl,hY,hx1⟩
 refine⟨y,rfl,?_⟩
 have hyl:y.2.1=S.length:=by have:=hY.len;rw [z9b] at this;omega
 refine zb3 (fun k (s:Bool×Bool×Int) W=>∃ i:Nat,s=(false,false,(i:Int))/\k+i=S.length/\Ext [] w1.heap W.heap) S.length ⟨0,rfl,rfl,.refl _ _⟩ ?_
 rintro k s W ⟨i,rfl,hk,hxW⟩ Q hQ
 have hYW:=hY.ext hxW (by simp)
 refine zy (fun h=>?_) (fun h=>?_)
 ·have hi:i < S.length:=by simp only at h;omega
  obtain⟨f,hf⟩:∃ f,f=S[i]:=⟨_,rfl⟩
  have hfi:S[i]?=some f:=by rw [hf];exact List.getElem?_eq_getElem hi
  have hff:=hS f (by rw [hf];exact List.getElem_mem hi)
  obtain⟨b,c,hxb,hBb,hb,hlen,hat⟩:=qgd zdz (by omega) hYW hfi
  have h0:=hat 0 (by omega)
  have h1:=hat 1 (by omega)
  have h2:=hat 2 (by omega)
  simp only [Nat.add_zero,zb6,List.getElem?_cons_zero,List.getElem?_cons_succ] at h0 h1 h2
  have ix:∀ {K:Addr->Prop},K ⟨b,0+i * 3,none⟩->ixS y.1 y.2.1 3 (i:Int) K:=by
   intro K hK
   rw [hxb]
   exact qdt i rfl (by omega) hK
  refine joinP_of (fun s' W'=>s'=(false,false)/\Ext [] w1.heap W'.heap) ?_ ?_
  ·refine ix ?_
   refine jg (s:=.str) (t:=strOf f.path) rfl hb h0 ?_
   refine zh (z5u f.path rfl) ?_
   rintro e w3 ⟨rfl,hx3⟩
   rw [hff.code,if_pos rfl]
   refine⟨(_,_),rfl,?_⟩
   refine qp rfl ?_
   refine ix ?_
   have hb3:=hx3.get hb (by simp)
   have hsz:=(Array.getElem?_eq_some_iff.1 h0).1
   refine zb8 rfl hb3 hsz fun w4 hw4=>?_
   have hsh:x9 (vg f.path).1=f.path:=hff.show'
   have hw43:w4.heap=w3.heap:=by rw [hw4];show w3.heap.setIfInBounds b (.cells (c.setIfInBounds (0+i * 3) (.string (strOf (x9 (vg f.path).1)))) zn (0,0))=_;rw [hsh,zuo h0,zuo hb3]
   have hb4:w4.heap[b]?=some (.cells c zn (0,0)):=by rw [hw43];exact hb3
   have hx4:Ext [] w1.heap w4.heap:=by rw [hw43];exact hxW.trans hx3
   have hbig:decide (((strOf f.data).size:Int) > 1024)=false:=decide_eq_false (by have:=hff.small;rw [jy];omega)
   refine joinP_of (fun s' W'=>s'=false/\W'=w4) ?_ ?_
   ·refine qp rfl ?_
    refine ix ?_
    simp only [Addr.add,Option.map_none]
    refine jg (s:=.bool) (t:=f.dir) rfl hb4 h1 ?_
    refine zbv (p:=f.dir=true) Iff.rfl (fun hd=>?_) (fun hd=>⟨trivial,trivial⟩)
    refine ix ?_
    refine jg (s:=.str) (t:=strOf f.data) rfl hb4 h2 ⟨?_,trivial⟩
    rw [Bool.not_eq_false',zg6];exact hff.dir hd
   ·rintro s' W' ⟨rfl,rfl⟩
    refine qp rfl ?_
    refine ix ?_
    simp only [Addr.add,Option.map_none]
    refine jg (s:=.str) (t:=strOf f.data) rfl hb4 h2 ⟨?_,hx4⟩
    rw [hbig]
  ·rintro s' W' ⟨rfl,hx'⟩
   refine jr ((i+1:Nat):Int) (by show (i:Int)+1=_;omega) (by omega) (by omega) ?_
   exact hQ (k-1) _ _ (by omega) ⟨i+1,rfl,by omega,hx'⟩
 ·refine qp rfl (qp rfl ?_)
  exact⟨y,rfl,hYW,hx1.trans hxW⟩
def thC (f:Fil):List Value:=[.bool f.dir,.string (strOf f.data)]
def znl (f:Fil):Value:=.agg (thC f).toArray
def z4i (H:Heap) (m:Nat) (Th:List Fil):Prop:=∃ (M:ML (List UInt8) Fil) (c:Nat),H[m]?=some (.map (ents keyS (vl znl M)) c)/\MOk (fun _=>True) M c/\(M.map (·.2.1)).Perm Th/\∀ x∈M,x.1=x.2.1.path
def FsW (H:Heap) (b m:Nat) (Th:List Fil):Prop:=H[b]?=some (.cells #[.map (some m)] zoq (0,0))/\z4i H m Th
theorem z4i.ext {H H':Heap}{m:Nat}{Th:List Fil}{fp:List Nat}(h:z4i H m Th) (hx:Ext fp H H') (hm:m∉fp):z4i H' m Th:=by
 obtain⟨M,c,h1,h2⟩:=h
 exact⟨M,c,hx.get h1 hm,h2⟩
theorem FsW.ext {H H':Heap}{b m:Nat}{Th:List Fil}(h:FsW H b m Th) (hx:Ext [] H H'):FsW H' b m Th:=⟨hx.get h.1 (by simp),h.2.ext hx (by simp)⟩
theorem uTh:P.underlying qo=some (.map qx zo):=by kernel_rfl
theorem zTh (w:World):(zeroValue zo).run P w=.ok (znl zl8) w:=by kernel_rfl
theorem z9c:zc P zo=(thC zl8).toArray:=by kernel_rfl
theorem qmp:P.cellsOf zo=2:=by kernel_rfl
theorem qii {f:Fil}:zbo (thC f):=by
 intro v hv
 simp only [thC,List.mem_cons,List.not_mem_nil,or_false] at hv
 rcases hv with rfl | rfl <;> rfl
theorem qgx {w:World}{H:Heap}{m:Nat}{Th:List Fil}(hw:w.heap=H) (hm:z4i H m Th) (p:List UInt8) :
  (Instr.lookup qo (.map (some m)) (.string (strOf p)) true).run P w=.ok (.tuple #[znl ((zoz Th p).getD zl8),.bool (zoz Th p).isSome]) w:=by
 obtain⟨M,c,h1,h2,h3,h4⟩:=hm
 have:=zfv (ev:=znl) z0j uTh zTh hw h1 h2 (k:=p) trivial
 rw [zl7 h2 h3 h4 p] at this
 rw [show (Value.string (strOf p))=keyS p from rfl,this]
 cases zoz Th p <;> rfl
theorem z9f {w:World}{H:Heap}{b:Nat}{c:Array Value}(f:Fil){K:World->Prop}(hw:w.heap=H) (hb:H[b]?=some (.cells c zo (0,0))) (hc:c.size=2) (hK:∀ w',w'.heap=H.setIfInBounds b (.cells (thC f).toArray zo (0,0))->K w') :
  zah P (storeVar zo (⟨b,0,none⟩:Addr) (znl f)) w K:=by
 refine zbe (v:=znl f) (by rw [qmp];rfl) (by simp [Value.cells,znl,thC]) (by simpa [Value.cells,znl] using qii) hw hb (by simp [Value.cells,znl,thC,hc]) fun w' hw'=>hK w' ?_
 rw [hw',show (znl f).cells.toList=thC f from rfl,zau (by rw [hc];rfl)]
theorem qfd {w:World}{H:Heap}{m:Nat}{Th:List Fil}{f:Fil}(hw:w.heap=H) (hm:z4i H m Th) (hf:zoz Th f.path=none){K:World->Prop}(hK:∀ w',z4i w'.heap m (Th++[f])->Ext [m] H w'.heap->K w') :
  zah P (Instr.mapUpdate qo (.map (some m)) (.string (strOf f.path)) (znl f)) w K:=by
 obtain⟨M,c,h1,h2,h3,h4⟩:=hm
 have hg:zc6 M f.path=none:=by rw [zl7 h2 h3 h4];exact hf
 refine zm1 _ (zjn (ev:=znl) z0j uTh hw h1 h2 (k:=f.path) trivial f rfl) ?_
 refine hK _ ⟨zl9 M f.path f c,zqn M f.path c,?_,h2.upd trivial f,?_,?_⟩ (Ext.set _ (by simp))
 ·exact qy h1
 ·rw [zho hg,List.map_append];exact h3.append_right _
 ·intro x hx
  rcases zkc hx with⟨h5,h6⟩ | ⟨_,h6⟩
  ·rw [h5,h6]
  ·exact h4 x h6
theorem qmt (w:World):(Instr.build zo #[(0,.bool true)]).run P w=.ok (znl ⟨[47],true,[]⟩) w:=by kernel_rfl
theorem qmv (b:Bool) (d:ByteArray) (w:World):(Instr.build zo #[(0,.bool b),(1,.string d)]).run P w=.ok (.agg #[.bool b,.string d]) w:=by kernel_rfl
theorem bFS (m:Option Nat) (w:World):(Instr.build zoq #[(0,.map m)]).run P w=.ok (.agg #[.map m]) w:=by kernel_rfl
def zib:Fil:=⟨[47],true,[]⟩
theorem z3e {Th:List Fil}{p:List UInt8}(h:∀ f∈Th,f.path≠p):zoz Th p=none:=List.find?_eq_none.2 fun f hf=>by simpa using h f hf
structure TreeF (S:List Fil):Prop where
 fine:∀ f∈S,FineF f
 nodup:(S.map (·.path)).Nodup
 root:∀ f∈S,f.path≠[47]
 above:∀ f∈S,∃ g,zoz (zib :: S) (upS f.path)=some g/\g.dir=true
set_option maxHeartbeats 8000000 in
theorem qjv {w:World}{H:Heap}{B:Nat}{x:Option Addr×Nat×Nat}{S:List Fil}(hw:w.heap=H) (hm:Mine H B zn 3 x (S.flatMap zb6)) (hp:S.length<=1000000) (hS:TreeF S) :
  qj P zqf #[.slice x.1 x.2.1 x.2.2] w fun e w'=>∃ b m,e=.returned (.tuple #[.pointer (some ⟨b,0,none⟩),.int .i64 0])/\FsW w'.heap b m (zib :: S)/\Ext [] H w'.heap/\H.size<=b/\H.size<=m:=by
 refine z1q ?_
 unfold zw3
 refine zh (qef hw hm hp hS.fine) ?_
 rintro e w1 ⟨y,rfl,hY,hx1⟩
 refine⟨(y,_),rfl,?_⟩
 have hyl:y.2.1=S.length:=by have:=hY.len;rw [z9b] at this;omega
 refine qp rfl ?_
 refine zaf (s:=.map) (some w1.heap.size) _ (zkd rfl) ?_
 obtain⟨m,hmd⟩:∃ m,m=w1.heap.size:=⟨_,rfl⟩
 rw [<-hmd]
 refine qc (s:=.any) _ (qmt _) ?_
 refine qfd (H:=w1.heap.push (.map #[] 0)) (Th:=[]) (f:=zib) rfl ⟨[],0,by rw [hmd];exact zk,.nil,.nil,by simp⟩ rfl fun w3 hM3 hx3=>?_
 refine qc (s:=.any) _ (bFS _ _) ?_
 refine ji rfl fun w4 hw4=>?_
 obtain⟨b,hbd⟩:∃ b,b=w3.heap.size:=⟨_,rfl⟩
 rw [<-hbd]
 have hx13:Ext [] w1.heap w3.heap:=(Ext.push _).own hx3 (fun c hc hlt=>by simp at hc;omega)
 have hx34:Ext [] w3.heap w4.heap:=by rw [hw4];exact .push _
 have hF4:FsW w4.heap b m [zib]:=⟨by rw [hw4,hbd];exact zk,hM3.ext hx34 (by simp)⟩
 have hms:H.size<=m:=by rw [hmd];exact hx1.1
 have hbs:m < b:=by have:=hx3.1;simp at this;omega
 have hx14:=hx13.trans hx34
 refine zb3 (fun k s W=>∃ i:Nat,s=(i:Int)/\k+i=S.length/\FsW W.heap b m (zib :: S.take i)/\Ext [] w1.heap W.heap) S.length ⟨0,rfl,rfl,by simpa using hF4,hx14⟩ ?_
 rintro k s W ⟨i,rfl,hk,hFW,hxW⟩ Q hQ
 have hYW:=hY.ext hxW (by simp)
 refine zy (fun h=>?_) (fun h=>?_)
 ·have hi:i < S.length:=by simp only at h;omega
  obtain⟨f,hf⟩:∃ f,f=S[i]:=⟨_,rfl⟩
  have hfi:S[i]?=some f:=by rw [hf];exact List.getElem?_eq_getElem hi
  have hfS:f∈S:=by rw [hf];exact List.getElem_mem hi
  have hno:zoz (zib :: S.take i) f.path=none:=by
   refine z3e fun g hg=>?_
   rcases List.mem_cons.1 hg with rfl | hg
   ·exact fun e=>hS.root f hfS e.symm
   ·intro e
    obtain⟨j,hj,hgj⟩:=List.mem_iff_getElem.1 hg
    rw [List.length_take] at hj
    rw [List.getElem_take] at hgj
    have hn:=hS.nodup
    rw [List.Nodup,List.pairwise_iff_getElem] at hn
    have:=hn j i (by simp;omega) (by simpa using hi) (by omega)
    simp only [List.getElem_map,hgj,<-hf] at this
    exact this e
  refine zff (enc:=zb6) zdz (by omega) rfl hYW.cells hyl hfi rfl ?_
  refine qhj f rfl fun w7 hw7=>?_
  have hx7:Ext [] W.heap w7.heap:=by rw [hw7];exact .push _
  refine vw rfl fun w8 hw8=>?_
  have h7:w8.heap[W.heap.size]?=some (.cells (zb6 f).toArray zn (0,0)):=by rw [hw8,hw7];exact zk
  have hx8:Ext [] W.heap w8.heap:=by rw [hw8];exact hx7
  have hF8:=hFW.ext hx8
  refine jg (s:=.map) (t:=some m) rfl hF8.1 rfl ?_
  refine jg (s:=.str) (t:=strOf f.path) rfl h7 rfl ?_
  have hlk:=fun {w:World}{H:Heap}(hw:w.heap=H) (hm:z4i H m (zib :: S.take i))=>qgx hw hm f.path
  rw [hno] at hlk
  refine zct (l:=[.any,.bool]) (znl zl8,false) (hlk rfl hF8.2) ?_
  refine ji rfl fun w9 hw9=>?_
  have hx9:Ext [] w8.heap w9.heap:=by rw [hw9];exact .push _
  have h8:w9.heap[w8.heap.size]?=some (.cells (thC zl8).toArray zo (0,0)):=by rw [hw9,z9c];exact zk
  have hF9:=hF8.ext hx9
  have h79:=hx9.get h7 (by simp)
  refine⟨zct (l:=[.any,.bool]) (znl zl8,false) (hlk rfl hF9.2) rfl,jg (s:=.str) (t:=strOf f.path) rfl h79 rfl rfl,jg (s:=.map) (t:=some m) rfl hF9.1 rfl rfl,?_⟩
  refine z9f zl8 rfl h8 rfl fun w10 hw10=>?_
  have hx10:Ext [] w8.heap w10.heap:=by rw [hw10];exact hx9.set_own (.inl (Nat.le_refl _))
  refine qp rfl ?_
  refine vw rfl fun w11 hw11=>?_
  have hx11:Ext [] w8.heap w11.heap:=by rw [hw11];exact hx10
  have hF11:=hF8.ext hx11
  have h711:=hx11.get h7 (by simp)
  refine jg (s:=.map) (t:=some m) rfl hF11.1 rfl ?_
  refine jg (s:=.str) (t:=strOf f.path) rfl h711 rfl ?_
  refine jg (s:=.bool) (t:=f.dir) rfl h711 rfl ?_
  refine jg (s:=.str) (t:=strOf f.data) rfl h711 rfl ?_
  refine qc (s:=.any) _ (qmv _ _ _) ?_
  refine qfd (f:=f) rfl hF11.2 hno fun w12 hM12 hx12=>?_
  refine jr ((i+1:Nat):Int) (by omega) (by omega) (by omega) ?_
  refine hQ (k-1) _ _ (by omega) ⟨i+1,rfl,by omega,⟨hx12.get hF11.1 (by simp;omega),?_⟩,(hxW.trans (hx8.trans hx11)).own hx12 (fun c hc hlt=>by simp at hc;omega)⟩
  rw [List.take_add_one,hfi]
  exact hM12
 ·have hi:i=S.length:=by simp only at h;omega
  subst hi
  rw [List.take_length] at hFW
  refine zb3 (fun k s W=>∃ i:Nat,s=(false,(i:Int))/\k+i=S.length/\FsW W.heap b m (zib :: S)/\Ext [] w1.heap W.heap) S.length ⟨0,rfl,rfl,hFW,hxW⟩ ?_
  rintro k2 s2 W2 ⟨j,rfl,hk2,hF2,hxW2⟩ Q2 hQ2
  have hY2:=hY.ext hxW2 (by simp)
  refine zy (fun h2=>?_) (fun h2=>?_)
  ·have hj:j < S.length:=by simp only at h2;omega
   obtain⟨f,hf⟩:∃ f,f=S[j]:=⟨_,rfl⟩
   have hfj:S[j]?=some f:=by rw [hf];exact List.getElem?_eq_getElem hj
   have hfS:f∈S:=by rw [hf];exact List.getElem_mem hj
   obtain⟨g,hg,hgd⟩:=hS.above f hfS
   have hlk:=fun {w:World}{H:Heap}(hw:w.heap=H) (hm:z4i H m (zib :: S))=>qgx hw hm (upS f.path)
   rw [hg] at hlk
   refine joinP_of (fun s' W'=>s'=false/\FsW W'.heap b m (zib :: S)/\Ext [] w1.heap W'.heap) ?_ ?_
   ·refine zff (enc:=zb6) zdz (by omega) rfl hY2.cells hyl hfj rfl ?_
    refine qhj f rfl fun w7 hw7=>?_
    have hx7:Ext [] W2.heap w7.heap:=by rw [hw7];exact .push _
    refine vw rfl fun w8 hw8=>?_
    have h7:w8.heap[W2.heap.size]?=some (.cells (zb6 f).toArray zn (0,0)):=by rw [hw8,hw7];exact zk
    have hx8:Ext [] W2.heap w8.heap:=by rw [hw8];exact hx7
    have hF8:=hF2.ext hx8
    refine jg (s:=.map) (t:=some m) rfl hF8.1 rfl ?_
    refine jg (s:=.str) (t:=strOf f.path) rfl h7 rfl ?_
    refine⟨?_,?_⟩
    ·refine zh (qab f.path rfl) ?_
     rintro e w9 ⟨rfl,hx9⟩
     refine⟨_,rfl,?_⟩
     have hF9:=hF8.ext hx9
     refine⟨jg (s:=.map) (t:=some m) rfl hF9.1 rfl rfl,?_⟩
     refine zct (l:=[.any,.bool]) (znl g,true) (hlk rfl hF9.2) ?_
     refine ji rfl fun w10 hw10=>?_
     have hx10:Ext [] w9.heap w10.heap:=by rw [hw10];exact .push _
     have h8:w10.heap[w9.heap.size]?=some (.cells (thC zl8).toArray zo (0,0)):=by rw [hw10,z9c];exact zk
     have hF10:=hF9.ext hx10
     refine⟨zct (l:=[.any,.bool]) (znl g,true) (hlk rfl hF10.2) rfl,jg (s:=.str) (t:=strOf f.path) rfl ((hx9.trans hx10).get h7 (by simp)) rfl rfl,jg (s:=.map) (t:=some m) rfl hF10.1 rfl rfl,?_⟩
     refine z9f g rfl h8 rfl fun w11 hw11=>?_
     have hx11:Ext [] w9.heap w11.heap:=by rw [hw11];exact hx10.set_own (.inl (Nat.le_refl _))
     refine qp rfl (qp rfl ?_)
     refine jg (s:=.bool) (t:=g.dir) rfl (by rw [hw11];exact qy h8) rfl ?_
     exact⟨by rw [hgd];rfl,hF9.ext hx11,hxW2.trans (hx8.trans (hx9.trans hx11))⟩
    ·refine ji rfl fun w10 hw10=>?_
     have hx10:Ext [] w8.heap w10.heap:=by rw [hw10];exact .push _
     have h8:w10.heap[w8.heap.size]?=some (.cells (thC zl8).toArray zo (0,0)):=by rw [hw10,z9c];exact zk
     have hF10:=hF8.ext hx10
     refine⟨jg (s:=.str) (t:=strOf f.path) rfl (hx10.get h7 (by simp)) rfl rfl,jg (s:=.map) (t:=some m) rfl hF10.1 rfl rfl,?_⟩
     refine zh (qab f.path rfl) ?_
     rintro e w9 ⟨rfl,hx9⟩
     refine⟨_,rfl,?_⟩
     have hF9:=hF10.ext hx9
     refine⟨jg (s:=.map) (t:=some m) rfl hF9.1 rfl rfl,?_⟩
     refine zct (l:=[.any,.bool]) (znl g,true) (hlk rfl hF9.2) ?_
     have h89:=hx9.get h8 (by simp)
     refine z9f g rfl h89 rfl fun w11 hw11=>?_
     have hx11:Ext [] w8.heap w11.heap:=by rw [hw11];exact (hx10.trans hx9).set_own (.inl (Nat.le_refl _))
     refine qp rfl (qp rfl ?_)
     refine jg (s:=.bool) (t:=g.dir) rfl (by rw [hw11];exact qy h89) rfl ?_
     exact⟨by rw [hgd];rfl,hF8.ext hx11,hxW2.trans (hx8.trans hx11)⟩
   ·rintro s' W' ⟨rfl,h1,h2⟩
    refine jr ((j+1:Nat):Int) (by show (j:Int)+1=_;omega) (by omega) (by omega) ?_
    exact hQ2 (k2-1) _ _ (by omega) ⟨j+1,rfl,by omega,h1,h2⟩
  ·refine qp rfl ?_
   exact⟨b,m,rfl,hF2,hx1.trans hxW2,by omega,hms⟩
def lookA (Th:List Fil) (q:Path):Nat->Fil×Int
 | 0=>((zoz Th (x9 q)).getD zl8,0)
 | k+1=>if (zoz Th (x9 (q.take (q.length-(k+1))))).isSome=true/\((zoz Th (x9 (q.take (q.length-(k+1))))).getD zl8).dir=false then (zl8,70)
  else if (zoz Th (x9 (q.take (q.length-k)))).isSome=false then (zl8,4) else lookA Th q k
theorem ql5 (w:World):(Instr.build zo #[]).run P w=.ok (znl zl8) w:=by kernel_rfl
def qhe (f:Option Addr) (b4:Nat) (t:Option Addr×Nat×Nat) (s:Int) (k_2:Unit->World->Prop) (R:Ending->World->Prop) (w_9:World):Prop:=
  za5 w_9 fun w_10=>
  qg f fun p_1=>
  zbz .i64 s 1 fun t45=>
  ld .map p_1 w_10 fun (t42:(Option Nat))=>
  zad P (Instr.sliceAt zx (Value.slice t.1 t.2.1 t.2.2) none (some (Value.int .i64 t45)) none) .slc w_10 fun (t46:(Option Addr×Nat×Nat))=>
  ((ql P vk #[(Value.slice t46.1 t46.2.1 t46.2.2)] [.str] false w_10 fun (t47:ByteArray) w_11=>
  ((ld .map p_1 w_11 fun (t42_1:(Option Nat))=>
  (Value.map t42_1)=(Value.map t42)) /\
  zoy P (Instr.lookup qo (Value.map t42) (Value.string t47) true) [.any,.bool] w_11 fun (t48:(Value×Bool))=>
  zat (zc P zo) zo w_11 fun b10 w_12=>
  ((zoy P (Instr.lookup qo (Value.map t42) (Value.string t47) true) [.any,.bool] w_12 fun (t48_1:(Value×Bool))=>
  (Value.tuple #[t48_1.1,(Value.bool t48_1.2)])=(Value.tuple #[t48.1,(Value.bool t48.2)])) /\
  ((zad P (Instr.sliceAt zx (Value.slice t.1 t.2.1 t.2.2) none (some (Value.int .i64 t45)) none) .slc w_12 fun (t46_1:(Option Addr×Nat×Nat))=>
  (Value.slice t46_1.1 t46_1.2.1 t46_1.2.2)=(Value.slice t46.1 t46.2.1 t46.2.2)) /\
  ((ld .map p_1 w_12 fun (t42_2:(Option Nat))=>
  (Value.map t42_2)=(Value.map t42)) /\
  zah P (storeVar zo (⟨b10,0,none⟩:Addr) t48.1) w_12 fun w_13=>
  qw (!t48.2) (
  zad P (Instr.build zo #[]) .any w_13 fun (t53:Value)=>
  zah P (storeVar zo (⟨b4,0,none⟩:Addr) t53) w_13 fun w_14=>
  ldA P 2 (⟨b4,0,none⟩:Addr) w_14 fun t4_1=>
  R (.returned (Value.tuple #[(Value.agg t4_1),(Value.int .i64 4)])) w_14) (
  k_2 () w_13)))))) /\
  (zat (zc P zo) zo w_10 fun b10_1 w_15=>
  ((zad P (Instr.sliceAt zx (Value.slice t.1 t.2.1 t.2.2) none (some (Value.int .i64 t45)) none) .slc w_15 fun (t46_2:(Option Addr×Nat×Nat))=>
  (Value.slice t46_2.1 t46_2.2.1 t46_2.2.2)=(Value.slice t46.1 t46.2.1 t46.2.2)) /\
  ((ld .map p_1 w_15 fun (t42_3:(Option Nat))=>
  (Value.map t42_3)=(Value.map t42)) /\
  ql P vk #[(Value.slice t46.1 t46.2.1 t46.2.2)] [.str] false w_15 fun (t47_1:ByteArray) w_16=>
  ((ld .map p_1 w_16 fun (t42_4:(Option Nat))=>
  (Value.map t42_4)=(Value.map t42)) /\
  zoy P (Instr.lookup qo (Value.map t42) (Value.string t47_1) true) [.any,.bool] w_16 fun (t48_2:(Value×Bool))=>
  zah P (storeVar zo (⟨b10_1,0,none⟩:Addr) t48_2.1) w_16 fun w_17=>
  qw (!t48_2.2) (
  zad P (Instr.build zo #[]) .any w_17 fun (t53_1:Value)=>
  zah P (storeVar zo (⟨b4,0,none⟩:Addr) t53_1) w_17 fun w_18=>
  ldA P 2 (⟨b4,0,none⟩:Addr) w_18 fun t4_2=>
  R (.returned (Value.tuple #[(Value.agg t4_2),(Value.int .i64 4)])) w_18) (
  k_2 () w_17))))))
theorem qjs {w:World}{H:Heap}{m:Nat}{Th:List Fil}(hw:w.heap=H) (hm:z4i H m Th) (p:List UInt8) :
  (Instr.lookup qo (.map (some m)) (.string (strOf p)) false).run P w=.ok (znl ((zoz Th p).getD zl8)) w:=by
 obtain⟨M,c,h1,h2,h3,h4⟩:=hm
 have:=zw1 (ev:=znl) z0j uTh zTh hw h1 h2 (k:=p) trivial
 rw [zl7 h2 h3 h4 p] at this
 rw [show (Value.string (strOf p))=keyS p from rfl,this]
 cases zoz Th p <;> rfl
set_option maxHeartbeats 8000000 in
theorem zz4 {w:World}{H:Heap}{b m:Nat}{Th:List Fil}{q:Path}(hw:w.heap=H) (hF:FsW H b m Th) (hq:okP q) :
  qj P zfp #[.pointer (some ⟨b,0,none⟩),.string (strOf (x9 q))] w fun e w'=>e=.returned (.tuple #[znl (lookA Th q q.length).1,.int .i64 (lookA Th q q.length).2])/\Ext [] H w'.heap:=by
 have hq8:=hq.2
 refine zug ?_
 unfold zog
 refine ji hw fun w1 hw1=>?_
 have hx1:Ext [] H w1.heap:=by rw [hw1];exact .push _
 have h4:w1.heap[H.size]?=some (.cells (thC zl8).toArray zo (0,0)):=by rw [hw1,z9c];exact zk
 refine zh (z5s (x9 q) rfl) ?_
 rintro e w2 ⟨t,rfl,hT,hx2⟩
 refine⟨t,rfl,?_⟩
 replace hT:Mine w2.heap w1.heap.size qx 1 t (strRow q):=by rw [zf1 hq] at hT;exact hT
 have htl:t.2.1=q.length:=by have:=hT.len;rw [zaj] at this;omega
 have htc:=zm4 hT
 have hx02:=hx1.trans hx2
 obtain⟨Res,hRes⟩:∃ Res,Res=lookA Th q q.length:=⟨_,rfl⟩
 rw [<-hRes]
 have fin:∀ {W:World}(g:Fil) (o:Int),Res=(g,o)->Ext [] H W.heap->W.heap[H.size]?=some (.cells (thC zl8).toArray zo (0,0)) ->
   zah P (storeVar zo (⟨H.size,0,none⟩:Addr) (znl g)) W fun w_8=>ldA P 2 (⟨H.size,0,none⟩:Addr) w_8 fun t4=>Ending.returned (.tuple #[.agg t4,.int .i64 o])=.returned (.tuple #[znl Res.1,.int .i64 Res.2])/\Ext [] H w_8.heap:=by
  intro W g o hr hx h4
  refine z9f g rfl h4 rfl fun w8 hw8=>?_
  refine xw rfl (by rw [hw8];exact qy h4) rfl ?_
  rw [hr]
  exact⟨rfl,by rw [hw8];exact hx.set_own (.inl (Nat.le_refl _))⟩
 refine zb3 (fun k s W=>∃ i:Nat,s=(i:Int)/\k+i=q.length/\lookA Th q k=Res/\Ext [] w2.heap W.heap) q.length ⟨0,rfl,rfl,hRes.symm,.refl _ _⟩ ?_
 rintro k s W ⟨i,rfl,hk,he,hxW⟩ Q hQ
 have base:∀ {W':World},Ext [] w2.heap W'.heap->Ext [] H W'.heap/\FsW W'.heap b m Th/\W'.heap[H.size]?=some (.cells (thC zl8).toArray zo (0,0))/\Cells W'.heap t.1 (strRow q):=fun hx=>
  ⟨hx02.trans hx,hF.ext (hx02.trans hx),hx.get (hx2.get h4 (by simp)) (by simp),(hT.ext hx (by simp)).cells⟩
 have look:∀ {w:World}{H:Heap}(p:List UInt8),w.heap=H->z4i H m Th->(Instr.lookup qo (.map (some m)) (.string (strOf p)) true).run P w=.ok (.tuple (Tup.vals [Sh.any,Sh.bool] (znl ((zoz Th p).getD zl8),(zoz Th p).isSome)).toArray) w:=fun p hw hm=>qgx hw hm p
 refine zy (fun h=>?_) (fun h=>?_)
 ·obtain⟨k,rfl⟩:∃ k',k=k'+1:=⟨k-1,by omega⟩
  have e1:q.length-(k+1)=i:=by omega
  have e2:q.length-k=i+1:=by omega
  unfold lookA at he
  rw [e1,e2] at he
  obtain⟨o1,ho1⟩:∃ o,o=zoz Th (x9 (q.take i)):=⟨_,rfl⟩
  obtain⟨o2,ho2⟩:∃ o,o=zoz Th (x9 (q.take (i+1))):=⟨_,rfl⟩
  rw [<-ho1,<-ho2] at he
  refine joinP_of (fun _ W'=>lookA Th q k=Res/\Ext [] w2.heap W'.heap) ?_ ?_
  rotate_left
  ·rintro _ W' ⟨h1,h2⟩
   refine jr ((i+1:Nat):Int) (by omega) (by omega) (by omega) ?_
   exact hQ k _ _ (by omega) ⟨i+1,rfl,by omega,h1,h2⟩
  refine jf ?_
  have rest:∀ {W':World},¬(o1.isSome=true/\(o1.getD zl8).dir=false)->Ext [] w2.heap W'.heap->qhe (some ⟨b,0,none⟩) H.size t (i:Int) (fun _ W'=>lookA Th q k=Res/\Ext [] w2.heap W'.heap) (fun e w'=>e=.returned (.tuple #[znl Res.1,.int .i64 Res.2])/\Ext [] H w'.heap) W':=by
   intro W' hno hxW'
   rw [if_neg hno] at he
   unfold qhe
   refine vw rfl fun w3 hw3=>?_
   rw [<-hw3] at hxW'
   obtain⟨hx3,hF3,h43,hL3⟩:=base hxW'
   simp only [jc]
   refine jr ((i+1:Nat):Int) (by omega) (by omega) (by omega) ?_
   refine jg (s:=.map) (t:=some m) rfl hF3.1 rfl ?_
   obtain⟨a',hcut,hLc⟩:=zrz (l:=t.2.1) (i:=i+1) (n:=((i+1:Nat):Int)) zj6 zs9 hL3 htc (by omega) rfl
   rw [Nat.mul_one,zdi] at hLc
   refine qc (s:=.slc) (a',i+1,t.2.2) (hcut _) ?_
   have hql:(q.take (i+1)).length=i+1:=by rw [List.length_take,Nat.min_eq_left (by omega)]
   have hsm:=(hq.take (i+1)).small
   have bad:o2.isSome=false->∀ {W:World},Ext [] w2.heap W.heap->zad P (Instr.build zo #[]) .any W fun (t53:Value)=>zah P (storeVar zo (⟨H.size,0,none⟩:Addr) t53) W fun w_14=>
     ldA P 2 (⟨H.size,0,none⟩:Addr) w_14 fun t4_1=>Ending.returned (.tuple #[.agg t4_1,.int .i64 4])=.returned (.tuple #[znl Res.1,.int .i64 Res.2])/\Ext [] H w_14.heap:=by
    intro hb W hx
    rw [if_pos hb] at he
    obtain⟨g1,g2,g3,g4⟩:=base hx
    exact qc (s:=.any) _ (ql5 _) (fin zl8 4 he.symm g1 g3)
   refine⟨?_,?_⟩
   ·refine zh (zgg rfl hLc hql.symm (show i+1<=t.2.2 by omega) (by omega)) ?_
    rintro e w4 ⟨rfl,hx4⟩
    refine⟨_,rfl,?_⟩
    have hxa:=hxW'.trans hx4
    refine⟨jg (s:=.map) (t:=some m) rfl (base hxa).2.1.1 rfl rfl,?_⟩
    refine zct (l:=[.any,.bool]) _ (look _ rfl (base hxa).2.1.2) ?_
    rw [<-ho2]
    refine ji rfl fun w5 hw5=>?_
    have hx5:Ext [] w4.heap w5.heap:=by rw [hw5];exact .push _
    have h8:w5.heap[w4.heap.size]?=some (.cells (thC zl8).toArray zo (0,0)):=by rw [hw5,z9c];exact zk
    have hxb:=hxa.trans hx5
    refine⟨?_,qc (s:=.slc) (a',i+1,t.2.2) (hcut _) rfl,jg (s:=.map) (t:=some m) rfl (base hxb).2.1.1 rfl rfl,?_⟩
    ·have:=look (x9 (q.take (i+1))) rfl (base hxb).2.1.2
     rw [<-ho2] at this
     exact zct (l:=[.any,.bool]) _ this rfl
    refine z9f _ rfl h8 rfl fun w6 hw6=>?_
    have hxc:Ext [] w2.heap w6.heap:=by rw [hw6];exact hxb.set_own (.inl (by have:=hxa.1;omega))
    refine zbv (p:=o2.isSome=false) (by simp) (fun hb=>bad hb hxc) (fun hb=>?_)
    rw [if_neg hb] at he
    exact⟨he,hxc⟩
   ·refine ji rfl fun w5 hw5=>?_
    have hx5:Ext [] w3.heap w5.heap:=by rw [hw5];exact .push _
    have h8:w5.heap[w3.heap.size]?=some (.cells (thC zl8).toArray zo (0,0)):=by rw [hw5,z9c];exact zk
    have hxb:=hxW'.trans hx5
    refine⟨qc (s:=.slc) (a',i+1,t.2.2) (hcut _) rfl,jg (s:=.map) (t:=some m) rfl (base hxb).2.1.1 rfl rfl,?_⟩
    refine zh (zgg rfl (hLc.ext hx5 (by simp)) hql.symm (show i+1<=t.2.2 by omega) (by omega)) ?_
    rintro e w4 ⟨rfl,hx4⟩
    refine⟨_,rfl,?_⟩
    have hxa:=hxb.trans hx4
    refine⟨jg (s:=.map) (t:=some m) rfl (base hxa).2.1.1 rfl rfl,?_⟩
    refine zct (l:=[.any,.bool]) _ (look _ rfl (base hxa).2.1.2) ?_
    rw [<-ho2]
    refine z9f _ rfl (hx4.get h8 (by simp)) rfl fun w6 hw6=>?_
    have hxc:Ext [] w2.heap w6.heap:=by rw [hw6];exact hxa.set_own (.inl (by have:=hxW'.1;omega))
    refine zbv (p:=o2.isSome=false) (by simp) (fun hb=>bad hb hxc) (fun hb=>?_)
    rw [if_neg hb] at he
    exact⟨he,hxc⟩
  refine vw rfl fun w3 hw3=>?_
  rw [<-hw3] at hxW
  obtain⟨hx3,hF3,h43,hL3⟩:=base hxW
  simp only [jc]
  refine jg (s:=.map) (t:=some m) rfl hF3.1 rfl ?_
  obtain⟨a',hcut,hLc⟩:=zrz (l:=t.2.1) (i:=i) (n:=(i:Int)) zj6 zs9 hL3 htc (by omega) rfl
  rw [Nat.mul_one,zdi] at hLc
  refine qc (s:=.slc) (a',i,t.2.2) (hcut _) ?_
  have hql:(q.take i).length=i:=by rw [List.length_take,Nat.min_eq_left (by omega)]
  have hsm:=(hq.take i).small
  have mid:∀ {W:World}{b8:Nat},Ext [] w2.heap W.heap->W.heap[b8]?=some (.cells (thC (o1.getD zl8)).toArray zo (0,0))->Go.Fw.joinP Unit (fun k_3=>
    qw o1.isSome (
    ld .bool (⟨b8,0,none⟩:Addr) W fun (t34:Bool)=>
    qw (!t34) (
    zad P (Instr.build zo #[]) .any W fun (t37:Value)=>
    zah P (storeVar zo (⟨H.size,0,none⟩:Addr) t37) W fun w_8=>
    ldA P 2 (⟨H.size,0,none⟩:Addr) w_8 fun t4=>
    Ending.returned (.tuple #[.agg t4,.int .i64 70])=.returned (.tuple #[znl Res.1,.int .i64 Res.2])/\Ext [] H w_8.heap) (
    k_3 () W)) (
    k_3 () W)) (fun _ W'=>qhe (some ⟨b,0,none⟩) H.size t (i:Int) (fun _ W'=>lookA Th q k=Res/\Ext [] w2.heap W'.heap) (fun e w'=>e=.returned (.tuple #[znl Res.1,.int .i64 Res.2])/\Ext [] H w'.heap) W'):=by
   intro W b8 hx h8
   refine joinP_of (fun _ W'=>W'=W/\¬(o1.isSome=true/\(o1.getD zl8).dir=false)) ?_ (fun _ W' h=>by obtain⟨rfl,h⟩:=h;exact rest h hx)
   refine zbv (p:=o1.isSome=true) Iff.rfl (fun hs=>?_) (fun hs=>⟨rfl,fun h=>hs h.1⟩)
   refine jg (s:=.bool) (t:=(o1.getD zl8).dir) rfl h8 rfl ?_
   refine zbv (p:=(o1.getD zl8).dir=false) (by simp) (fun hd=>?_) (fun hd=>⟨rfl,fun h=>hd h.2⟩)
   rw [if_pos ⟨hs,hd⟩] at he
   exact qc (s:=.any) _ (ql5 _) (fin zl8 70 he.symm (base hx).1 (base hx).2.2.1)
  refine⟨?_,?_⟩
  ·refine zh (zgg rfl hLc hql.symm (show i<=t.2.2 by omega) (by omega)) ?_
   rintro e w4 ⟨rfl,hx4⟩
   refine⟨_,rfl,?_⟩
   have hxa:=hxW.trans hx4
   refine⟨jg (s:=.map) (t:=some m) rfl (base hxa).2.1.1 rfl rfl,?_⟩
   refine zct (l:=[.any,.bool]) _ (look _ rfl (base hxa).2.1.2) ?_
   rw [<-ho1]
   refine ji rfl fun w5 hw5=>?_
   have hx5:Ext [] w4.heap w5.heap:=by rw [hw5];exact .push _
   have h8:w5.heap[w4.heap.size]?=some (.cells (thC zl8).toArray zo (0,0)):=by rw [hw5,z9c];exact zk
   have hxb:=hxa.trans hx5
   refine⟨?_,qc (s:=.slc) (a',i,t.2.2) (hcut _) rfl,jg (s:=.map) (t:=some m) rfl (base hxb).2.1.1 rfl rfl,?_⟩
   ·have:=look (x9 (q.take i)) rfl (base hxb).2.1.2
    rw [<-ho1] at this
    exact zct (l:=[.any,.bool]) _ this rfl
   refine z9f _ rfl h8 rfl fun w6 hw6=>?_
   exact mid (by rw [hw6];exact hxb.set_own (.inl (by have:=hxa.1;omega))) (by rw [hw6];exact qy h8)
  ·refine ji rfl fun w5 hw5=>?_
   have hx5:Ext [] w3.heap w5.heap:=by rw [hw5];exact .push _
   have h8:w5.heap[w3.heap.size]?=some (.cells (thC zl8).toArray zo (0,0)):=by rw [hw5,z9c];exact zk
   have hxb:=hxW.trans hx5
   refine⟨qc (s:=.slc) (a',i,t.2.2) (hcut _) rfl,jg (s:=.map) (t:=some m) rfl (base hxb).2.1.1 rfl rfl,?_⟩
   refine zh (zgg rfl (hLc.ext hx5 (by simp)) hql.symm (show i<=t.2.2 by omega) (by omega)) ?_
   rintro e w4 ⟨rfl,hx4⟩
   refine⟨_,rfl,?_⟩
   have hxa:=hxb.trans hx4
   refine⟨jg (s:=.map) (t:=some m) rfl (base hxa).2.1.1 rfl rfl,?_⟩
   refine zct (l:=[.any,.bool]) _ (look _ rfl (base hxa).2.1.2) ?_
   rw [<-ho1]
   have h84:=hx4.get h8 (by simp)
   refine z9f _ rfl h84 rfl fun w6 hw6=>?_
   exact mid (by rw [hw6];exact hxa.set_own (.inl (by have:=hxW.1;omega))) (by rw [hw6];exact qy h84)
 ·have hk0:k=0:=by omega
  subst hk0
  unfold lookA at he
  obtain⟨hx3,hF3,h43,hL3⟩:=base hxW
  simp only [jc]
  refine jg (s:=.map) (t:=some m) rfl hF3.1 rfl ?_
  refine qc (s:=.any) _ (qjs rfl hF3.2 _) ?_
  exact fin _ 0 he.symm hx3 h43
structure OpR where
 k:Int
 p:List UInt8
 to:List UInt8
 d:List UInt8
 pos:Int
 size:Int
def opC (o:OpR):List Value:=[.int .i64 o.k,.string (strOf o.p),.string (strOf o.to),.string (strOf o.d),.int .i64 o.pos,.int .i64 o.size]
def opV (o:OpR):Value:=.agg (opC o).toArray
theorem qji {o:OpR}:zbo (opC o):=by
 intro v hv
 simp only [opC,List.mem_cons,List.not_mem_nil,or_false] at hv
 rcases hv with rfl | rfl | rfl | rfl | rfl | rfl <;> rfl
def op0:OpR:=⟨0,[],[],[],0,0⟩
theorem qk0:zc P jk=(opC op0).toArray:=by kernel_rfl
theorem qma:P.cellsOf jk=6:=by kernel_rfl
theorem stOp {w:World}{H:Heap}{b:Nat}{c:Array Value}(o:OpR){K:World->Prop}(hw:w.heap=H) (hb:H[b]?=some (.cells c jk (0,0))) (hc:c.size=6) (hK:∀ w',w'.heap=H.setIfInBounds b (.cells (opC o).toArray jk (0,0))->K w') :
  zah P (storeVar jk (⟨b,0,none⟩:Addr) (opV o)) w K:=by
 refine zbe (v:=opV o) (by rw [qma];rfl) (by simp [Value.cells,opV,opC]) (by simpa [Value.cells,opV] using qji) hw hb (by simp [Value.cells,opV,opC,hc]) fun w' hw'=>hK w' ?_
 rw [hw',show (opV o).cells.toList=opC o from rfl,zau (by rw [hc];rfl)]
theorem qmr (k:Int) (p:ByteArray) (w:World):(Instr.build jk #[(0,.int .i64 k),(1,.string p)]).run P w=.ok (.agg #[.int .i64 k,.string p,.string (strOf []),.string (strOf []),.int .i64 0,.int .i64 0]) w:=by kernel_rfl
def qfh (o:OpR):Prop:=o.to=[]/\((o.k=1\/o.k=5\/o.k=10)/\o.d=[]/\o.pos=0/\o.size=0\/o.k=3/\o.size=0\/o.k=8/\o.d=[])
set_option maxHeartbeats 8000000 in
theorem qiw {w:World}{H:Heap}{o:OpR}(hw:w.heap=H) (hk:qfh o):qj P zwi #[opV o] w fun e w'=>e=.returned (.tuple #[opV o,.bool true])/\Ext [] H w'.heap:=by
 refine z7y ?_
 unfold z1c
 refine ji hw fun w1 hw1=>?_
 refine ji rfl fun w2 hw2=>?_
 have e1:w1.heap.size=H.size+1:=by rw [hw1];simp
 have e2:w2.heap.size=H.size+2:=by rw [hw2];simp [e1]
 have h1:w2.heap[H.size]?=some (.cells (opC o).toArray jk (0,0)):=by rw [hw2,hw1];exact za1 zk
 have h2:w2.heap[H.size+1]?=some (.cells (opC op0).toArray jk (0,0)):=by rw [hw2,<-e1,qk0];exact zk
 have hx2:Ext [] H w2.heap:=by rw [hw2,hw1];exact (Ext.push _).push_own
 rw [e1]
 refine jg (s:=.int .i64) (t:=o.k) rfl h1 rfl ?_
 refine jg (s:=.str) (t:=strOf o.p) rfl h1 rfl ?_
 refine qc (s:=.any) _ (qmr _ _ _) ?_
 refine ji rfl fun w3 hw3=>?_
 have h13:w3.heap[H.size]?=some (.cells (opC o).toArray jk (0,0)):=by rw [hw3];exact za1 h1
 have h23:w3.heap[H.size+1]?=some (.cells (opC op0).toArray jk (0,0)):=by rw [hw3];exact za1 h2
 have h43:w3.heap[H.size+2]?=some (.cells (opC op0).toArray jk (0,0)):=by rw [hw3,<-e2,qk0];exact zk
 have hx3:Ext [] H w3.heap:=by rw [hw3];exact hx2.push_own
 rw [e2]
 refine stOp ⟨o.k,o.p,[],[],0,0⟩ rfl h43 rfl fun w4 hw4=>?_
 have hx34:Ext [H.size+2] w3.heap w4.heap:=by rw [hw4];exact Ext.set _ (by simp)
 have h14:=hx34.get h13 (by simp)
 have h24:=hx34.get h23 (by simp)
 have h44:w4.heap[H.size+2]?=some (.cells (opC ⟨o.k,o.p,[],[],0,0⟩).toArray jk (0,0)):=by rw [hw4];exact qy h43
 have hx4:Ext [] H w4.heap:=by rw [hw4];exact hx3.set_own (.inl (by omega))
 obtain⟨k,p,to,d,pos,size⟩:=o
 obtain⟨rfl,hk⟩:=hk
 simp only at hk h14 h44 |-
 refine joinP_of (fun _ w'=>w'.heap[H.size+1]?=some (.cells (opC op0).toArray jk (0,0))/\w'.heap[H.size+2]?=some (.cells (opC ⟨k,p,[],d,pos,size⟩).toArray jk (0,0))/\Ext [] H w'.heap) ?_ ?_
 ·refine jg (s:=.int .i64) (t:=k) rfl h14 rfl ?_
  refine jf ?_
  refine jf ?_
  refine jf ?_
  refine jf ?_
  rcases hk with⟨hk,rfl,rfl,rfl⟩ | ⟨rfl,rfl⟩ | ⟨rfl,rfl⟩
  ·have hn:(k==3)=false/\(k==4)=false/\(k==7)=false/\(k==8)=false/\(k==11)=false:=by rcases hk with rfl | rfl | rfl <;> exact⟨rfl,rfl,rfl,rfl,rfl⟩
   refine qp hn.1 (qp hn.2.1 (qp hn.2.2.1 (qp hn.2.2.2.1 (qp hn.2.2.2.2 ?_))))
   rcases hk with rfl | rfl | rfl
   ·exact jf (jh rfl (jh rfl ⟨h24,h44,hx4⟩))
   ·exact jf (qp rfl (qp rfl (jf (jh rfl (jh rfl ⟨h24,h44,hx4⟩)))))
   ·exact jf (qp rfl (qp rfl (jf (qp rfl (qp rfl (jf (qp rfl (jh rfl ⟨h24,h44,hx4⟩))))))))
  ·refine jh rfl ?_
   refine vw rfl fun w5 hw5=>?_
   rw [<-hw5] at h14 h24 h44 hx4
   refine jg (s:=.int .i64) (t:=pos) rfl h14 rfl ?_
   refine jg (s:=.str) (t:=strOf d) rfl h14 rfl ?_
   refine zb8 rfl h44 (by simp [opC]) fun w6 hw6=>?_
   have hx56:Ext [H.size+2] w5.heap w6.heap:=by rw [hw6];exact Ext.set _ (by simp)
   have h46:w6.heap[H.size+2]?=some (.cells (opC ⟨3,p,[],[],pos,0⟩).toArray jk (0,0)):=by rw [hw6];exact qy h44
   refine⟨jg (s:=.str) (t:=strOf d) rfl (hx56.get h14 (by simp)) rfl rfl,?_⟩
   refine zb8 rfl h46 (by simp [opC]) fun w7 hw7=>?_
   have hx67:Ext [H.size+2] w6.heap w7.heap:=by rw [hw7];exact Ext.set _ (by simp)
   exact⟨hx67.get (hx56.get h24 (by simp)) (by simp),by rw [hw7];exact qy h46,(hx4.own hx56 (fun b hb hlt=>by simp at hb;omega)).own hx67 (fun b hb hlt=>by simp at hb;omega)⟩
  ·refine qp rfl (qp rfl (qp rfl (jh rfl ?_)))
   refine vw rfl fun w5 hw5=>?_
   rw [<-hw5] at h14 h24 h44 hx4
   refine jg (s:=.int .i64) (t:=pos) rfl h14 rfl ?_
   refine jg (s:=.int .i64) (t:=size) rfl h14 rfl ?_
   refine zb8 rfl h44 (by simp [opC]) fun w6 hw6=>?_
   have hx56:Ext [H.size+2] w5.heap w6.heap:=by rw [hw6];exact Ext.set _ (by simp)
   have h46:w6.heap[H.size+2]?=some (.cells (opC ⟨8,p,[],[],pos,0⟩).toArray jk (0,0)):=by rw [hw6];exact qy h44
   refine⟨jg (s:=.int .i64) (t:=size) rfl (hx56.get h14 (by simp)) rfl rfl,?_⟩
   refine zb8 rfl h46 (by simp [opC]) fun w7 hw7=>?_
   have hx67:Ext [H.size+2] w6.heap w7.heap:=by rw [hw7];exact Ext.set _ (by simp)
   exact⟨hx67.get (hx56.get h24 (by simp)) (by simp),by rw [hw7];exact qy h46,(hx4.own hx56 (fun b hb hlt=>by simp at hb;omega)).own hx67 (fun b hb hlt=>by simp at hb;omega)⟩
 ·rintro _ w5 ⟨g2,g4,hx5⟩
  refine xw rfl g4 rfl ?_
  refine stOp ⟨k,p,[],d,pos,size⟩ rfl g2 rfl fun w6 hw6=>?_
  refine xw rfl (by rw [hw6];exact qy g2) rfl ?_
  exact⟨rfl,by rw [hw6];exact hx5.set_own (.inl (by omega))⟩
theorem fOp:(P.fieldsOf jk).toList.map (fun f=>(f.name,f.type,f.offset))=[("Kind",zav,0),("Path",qx,1),("To",qx,2),("Data",qx,3),("At",zav,4),("Size",zav,5)]:=by kernel_rfl
theorem uOp:P.underlying jk=some (.struct (P.fieldsOf jk)):=by kernel_rfl
theorem qh8:P.stoodInHeld jk=false:=by kernel_rfl
theorem qf0:P.eqGuardType P.depth jk=false:=by kernel_rfl
theorem qeg:P.underlying zav=some (.int .i64):=by kernel_rfl
theorem qir (d:Nat) (n:Int){w:World}:(Op.equalIn (d+1) zav (.int .i64 n) (.int .i64 n)).run P w=.ok true w:=by simp [Op.equalIn,xu qeg]
theorem qft (n:Int){w:World}:(Op.equalIn 9999 zav (.int .i64 n) (.int .i64 n)).run P w=.ok true w:=qir 9998 n
theorem eqStr (L:List UInt8){w:World}:(Op.equalIn 9999 qx (.string (strOf L)) (.string (strOf L))).run P w=.ok true w:=by rw [run_equalIn_string w 9998 _ _ _ zzf,zbi,qkp];simp
theorem qn9 {o:OpR}{w:World}:(Op.equalIn 10000 jk (opV o) (opV o)).run P w=.ok true w:=by
 unfold opV
 rw [run_equalIn_agg w 9999 jk _ _ uOp qh8]
 have hf:=fOp
 generalize (P.fieldsOf jk).toList=fs at hf
 have hl:fs.length=6:=by simpa using congrArg List.length hf
 obtain⟨f0,f1,f2,f3,f4,f5,rfl⟩:∃ a b c d e f,fs=[a,b,c,d,e,f]:=by
  match fs,hl with
  | [a,b,c,d,e,f],_=>exact⟨a,b,c,d,e,f,rfl⟩
 simp only [List.map_cons,List.map_nil,List.cons.injEq,Prod.mk.injEq,and_true] at hf
 obtain⟨⟨n0,t0,o0⟩,⟨n1,t1,o1⟩,⟨n2,t2,o2⟩,⟨n3,t3,o3⟩,⟨n4,t4,o4⟩,n5,t5,o5⟩:=hf
 have e0:∀ w,(part f0.type (opC o).toArray f0.offset).run P w=.ok (.int .i64 o.k) w:=fun w=>by rw [t0,o0];exact z7a (by kernel_rfl) rfl
 have e1:∀ w,(part f1.type (opC o).toArray f1.offset).run P w=.ok (.string (strOf o.p)) w:=fun w=>by rw [t1,o1];exact z7a (by kernel_rfl) rfl
 have e2:∀ w,(part f2.type (opC o).toArray f2.offset).run P w=.ok (.string (strOf o.to)) w:=fun w=>by rw [t2,o2];exact z7a (by kernel_rfl) rfl
 have e3:∀ w,(part f3.type (opC o).toArray f3.offset).run P w=.ok (.string (strOf o.d)) w:=fun w=>by rw [t3,o3];exact z7a (by kernel_rfl) rfl
 have e4:∀ w,(part f4.type (opC o).toArray f4.offset).run P w=.ok (.int .i64 o.pos) w:=fun w=>by rw [t4,o4];exact z7a (by kernel_rfl) rfl
 have e5:∀ w,(part f5.type (opC o).toArray f5.offset).run P w=.ok (.int .i64 o.size) w:=fun w=>by rw [t5,o5];exact z7a (by kernel_rfl) rfl
 have q0:=fun w=>t0.symm▸qft o.k (w:=w)
 have q1:=fun w=>t1.symm▸eqStr o.p (w:=w)
 have q2:=fun w=>t2.symm▸eqStr o.to (w:=w)
 have q3:=fun w=>t3.symm▸eqStr o.d (w:=w)
 have q4:=fun w=>t4.symm▸qft o.pos (w:=w)
 have q5:=fun w=>t5.symm▸qft o.size (w:=w)
 simp only [Op.eqFields,n0,n1,n2,n3,n4,n5,ne_eq,String.reduceEq,not_false_eq_true,if_true,Sem.run_bind,e0,e1,e2,e3,e4,e5,Result.andThen_ok,q0,q1,q2,q3,q4,q5,Bool.not_true,Bool.false_eq_true,if_false,Sem.run_pure]
theorem qoa {x y:Operand}{o:OpR}{w:World}:(eqM .neq jk x y (opV o) (opV o)).run P w=.ok (.bool false) w:=by
 simp only [eqM,Sem.run_bind,opV,run_eqGuard_agg w .neq jk x y _ _ qf0,Result.andThen_ok,run_neq_struct w]
 rw [show (Op.equalIn 10000 jk (.agg (opC o).toArray) (.agg (opC o).toArray)).run P w=.ok true w from qn9]
 rfl
structure OpOK (o:OpR):Prop where
 bare:qfh o
 p0:0<=o.pos
 p1:o.pos<=1024
 s0:0<=o.size
 s1:o.size<=1024
 d:o.d.length<=1024
theorem OpOK.kind {o:OpR}(h:OpOK o):(o.k==11)=false/\(o.k==7)=false:=by
 rcases h.bare.2 with⟨h | h | h,_⟩ | ⟨h,_⟩ | ⟨h,_⟩ <;> rw [h] <;> exact⟨rfl,rfl⟩
set_option maxHeartbeats 4000000 in
theorem qd6 {w:World}{H:Heap}{o:OpR}(hw:w.heap=H) (ho:OpOK o):qj P zsj #[opV o] w fun e w'=>e=.returned (.int .i64 (vg o.p).2)/\Ext [] H w'.heap:=by
 have hkd:=ho.kind
 refine z3t ?_
 unfold zyv
 refine ji hw fun w1 hw1=>?_
 have h1:w1.heap[H.size]?=some (.cells (opC o).toArray jk (0,0)):=by rw [hw1];exact zk
 have hx1:Ext [] H w1.heap:=by rw [hw1];exact .push _
 refine xw rfl h1 rfl ?_
 refine zh (qiw rfl ho.bare) ?_
 rintro e w2 ⟨rfl,hx2⟩
 refine⟨(_,_),rfl,?_⟩
 refine ji rfl fun w3 hw3=>?_
 have h3:w3.heap[w2.heap.size]?=some (.cells (opC op0).toArray jk (0,0)):=by rw [hw3,qk0];exact zk
 have hx3:Ext [] w2.heap w3.heap:=by rw [hw3];exact .push _
 refine stOp o rfl h3 rfl fun w4 hw4=>?_
 have h34:w4.heap[w2.heap.size]?=some (.cells (opC o).toArray jk (0,0)):=by rw [hw4];exact qy h3
 have hx14:Ext [] w1.heap w4.heap:=by rw [hw4];exact (hx2.trans hx3).set_own (.inl hx2.1)
 have h14:=hx14.get h1 (by simp)
 refine joinP_of (fun _ w'=>w'=w4) ?_ ?_
 ·refine jf ?_
  refine qp rfl ?_
  refine xw rfl h34 rfl ?_
  refine xw rfl h14 rfl ?_
  refine qc (s:=.bool) false qoa ?_
  refine qp rfl ?_
  refine jg (s:=.int .i64) (t:=o.pos) rfl h14 rfl ?_
  refine zy (fun h=>absurd ho.p0 (by omega)) (fun _=>?_)
  refine jg (s:=.int .i64) (t:=o.size) rfl h14 rfl ?_
  refine zy (fun h=>absurd ho.s0 (by omega)) (fun _=>?_)
  refine jg (s:=.int .i64) (t:=o.k) rfl h14 rfl ?_
  refine qp hkd.1 ?_
  refine jg (s:=.str) (t:=strOf o.d) rfl h14 rfl ?_
  refine zy (fun h=>absurd ho.d (by rw [jy] at h;omega)) (fun _=>?_)
  refine jg (s:=.int .i64) (t:=o.pos) rfl h14 rfl ?_
  refine zy (fun h=>absurd ho.p1 (by omega)) (fun _=>?_)
  refine jg (s:=.int .i64) (t:=o.size) rfl h14 rfl ?_
  refine zy (fun h=>absurd ho.s1 (by omega)) (fun _=>?_)
  refine jg (s:=.int .i64) (t:=o.k) rfl h14 rfl ?_
  exact qp hkd.1 rfl
 ·rintro _ w5 rfl
  refine jg (s:=.str) (t:=strOf o.p) rfl h14 rfl ?_
  refine zh (zma o.p rfl) ?_
  rintro e w6 ⟨x,rfl,_,hx6⟩
  refine⟨(_,_),rfl,?_⟩
  have hx:=hx1.trans (hx14.trans hx6)
  refine zbr (fun h=>⟨rfl,hx⟩) (fun h=>?_)
  refine jg (s:=.int .i64) (t:=o.k) rfl (hx6.get h14 (by simp)) rfl ?_
  refine jh (by have:=hkd.2;simp only [bne,this];rfl) ?_
  exact⟨by rw [show (vg o.p).2=0 from h],hx⟩
theorem qle (w:World):∃ vs:Array Value,vs.size=12/\(∀ i,i < 12->∃ s,vs[i]?=some (.string s))/\(Instr.buildSlice zx 12 #[(0,(Value.string (ByteArray.mk #[]))),(1,(Value.string (ByteArray.mk #[109,107,100,105,114]))),(2,(Value.string (ByteArray.mk #[99,114,101,97,116,101]))),(3,(Value.string (ByteArray.mk #[119,114,105,116,101]))),(4,(Value.string (ByteArray.mk #[116,114,117,110,99,97,116,101]))),(5,(Value.string (ByteArray.mk #[117,110,108,105,110,107]))),(6,(Value.string (ByteArray.mk #[114,109,100,105,114]))),(7,(Value.string (ByteArray.mk #[114,101,110,97,109,101]))),(8,(Value.string (ByteArray.mk #[114,101,97,100]))),(9,(Value.string (ByteArray.mk #[108,105,115,116]))),(10,(Value.string (ByteArray.mk #[115,116,97,116]))),(11,(Value.string (ByteArray.mk #[102,111,114,103,101,116])))]).run P w=.ok (.slice (some ⟨w.heap.size,0,none⟩) 12 12) { w with heap:=w.heap.push (.cells vs qx) }:=by
 refine⟨#[.string (ByteArray.mk #[]),.string (ByteArray.mk #[109,107,100,105,114]),.string (ByteArray.mk #[99,114,101,97,116,101]),.string (ByteArray.mk #[119,114,105,116,101]),.string (ByteArray.mk #[116,114,117,110,99,97,116,101]),.string (ByteArray.mk #[117,110,108,105,110,107]),.string (ByteArray.mk #[114,109,100,105,114]),.string (ByteArray.mk #[114,101,110,97,109,101]),.string (ByteArray.mk #[114,101,97,100]),.string (ByteArray.mk #[108,105,115,116]),.string (ByteArray.mk #[115,116,97,116]),.string (ByteArray.mk #[102,111,114,103,101,116])],rfl,?_,by kernel_rfl⟩
 intro i hi
 have:∀ j:Fin 12,∃ s,(#[Value.string (ByteArray.mk #[]),.string (ByteArray.mk #[109,107,100,105,114]),.string (ByteArray.mk #[99,114,101,97,116,101]),.string (ByteArray.mk #[119,114,105,116,101]),.string (ByteArray.mk #[116,114,117,110,99,97,116,101]),.string (ByteArray.mk #[117,110,108,105,110,107]),.string (ByteArray.mk #[114,109,100,105,114]),.string (ByteArray.mk #[114,101,110,97,109,101]),.string (ByteArray.mk #[114,101,97,100]),.string (ByteArray.mk #[108,105,115,116]),.string (ByteArray.mk #[115,116,97,116]),.string (ByteArray.mk #[102,111,114,103,101,116])]:Array Value)[j.val]?=some (.string s):=by
  intro j
  match j with
  | 0 | 1 | 2 | 3 | 4 | 5 | 6 | 7 | 8 | 9 | 10 | 11=>exact⟨_,rfl⟩
 exact this ⟨i,hi⟩
theorem qfc {w:World}{H:Heap}(k:Int) (hw:w.heap=H):qj P zuy #[.int .i64 k] w fun e w'=>∃ s,e=.returned (.string s)/\Ext [] H w'.heap:=by
 refine z8w ?_
 unfold z1y
 obtain⟨vs,hv,hs,hr⟩:=qle w
 refine zaf (s:=.slc) (some ⟨w.heap.size,0,none⟩,12,12) _ hr ?_
 subst hw
 have hx:Ext [] w.heap (w.heap.push (.cells vs qx)):=.push _
 refine joinP_of (fun _ w'=>w'.heap=w.heap.push (.cells vs qx)/\0<=k/\k < 12) ?_ ?_
 ·refine zy (fun h=>⟨_,rfl,hx⟩) (fun h=>?_)
  exact zy (fun h=>⟨_,rfl,hx⟩) (fun h'=>⟨rfl,by omega,by have h':¬k>=((12:Nat):Int):=h';omega⟩)
 ·rintro _ w' ⟨hw',h0,h1⟩
  refine zvs k.toNat (by omega) (show k.toNat < 12 by omega) ?_
  obtain⟨s,hsk⟩:=hs k.toNat (by omega)
  refine jg (s:=.str) (t:=s) hw' zk (by rw [Nat.zero_add];exact hsk) ⟨s,rfl,by rw [hw'];exact hx⟩
theorem qgk {w:World}(k:Int):qj P zth #[.int .i64 k] w fun e w'=>e=.returned (.bool (decide (8<=k)&&decide (k<=10)))/\w'=w:=by
 refine z3v ?_
 unfold zyn
 refine zy (fun h=>?_) (fun h=>?_)
 ·rw [show decide (8<=k)=true from decide_eq_true h];exact⟨rfl,rfl⟩
 ·rw [show decide (8<=k)=false from decide_eq_false (by omega)];exact⟨rfl,rfl⟩
structure ResR where
 code:Int
 dir:Bool
 size:Int
 data:List UInt8
def zsg (r:ResR):List Value:=[.int .i64 r.code,.bool r.dir,.int .i64 r.size,.string (strOf r.data),.slice none 0 0]
def resV (r:ResR):Value:=.agg (zsg r).toArray
theorem z9m {r:ResR}:zbo (zsg r):=by
 intro v hv
 simp only [zsg,List.mem_cons,List.not_mem_nil,or_false] at hv
 rcases hv with rfl | rfl | rfl | rfl | rfl <;> rfl
def res0:ResR:=⟨0,false,0,[]⟩
def z2j (e:Int):ResR:=⟨e,false,0,[]⟩
theorem qar:zc P zq=(zsg res0).toArray:=by kernel_rfl
theorem ql2:P.cellsOf zq=5:=by kernel_rfl
theorem qaw {w:World}{H:Heap}{b:Nat}{c:Array Value}(r:ResR){K:World->Prop}(hw:w.heap=H) (hb:H[b]?=some (.cells c zq (0,0))) (hc:c.size=5) (hK:∀ w',w'.heap=H.setIfInBounds b (.cells (zsg r).toArray zq (0,0))->K w') :
  zah P (storeVar zq (⟨b,0,none⟩:Addr) (resV r)) w K:=by
 refine zbe (v:=resV r) (by rw [ql2];rfl) (by simp [Value.cells,resV,zsg]) (by simpa [Value.cells,resV] using z9m) hw hb (by simp [Value.cells,resV,zsg,hc]) fun w' hw'=>hK w' ?_
 rw [hw',show (resV r).cells.toList=zsg r from rfl,zau (by rw [hc];rfl)]
theorem z8n {w:World}{H:Heap}(r:ResR) (hw:w.heap=H){K:Nat->World->Prop}(hK:∀ w',w'.heap=H.push (.cells (zsg r).toArray zq (0,0))->K H.size w') :
  zat (zc P zq) zq w fun b w1=>zah P (storeVar zq (⟨b,0,none⟩:Addr) (resV r)) w1 fun w2=>K b w2:=
 zxp (v:=resV r) ql2 (by rw [qar];rfl) (by simp [Value.cells,resV,zsg]) (by simpa [Value.cells,resV] using z9m) hw hK
theorem qm3 (w:World):(Instr.build zq #[]).run P w=.ok (resV res0) w:=by kernel_rfl
theorem ql6 (e:Int) (w:World):(Instr.build zq #[(0,.int .i64 e)]).run P w=.ok (resV (z2j e)) w:=by kernel_rfl
theorem qjt {w:World}{H:Heap}(e:Int) (hw:w.heap=H):qj P zbb #[.int .i64 e] w fun r w'=>r=.returned (resV (z2j e))/\Ext [] H w'.heap:=by
 refine zzl ?_
 unfold ztq
 refine ji hw fun w1 hw1=>?_
 have h1:w1.heap[H.size]?=some (.cells (zsg res0).toArray zq (0,0)):=by rw [hw1,qar];exact zk
 refine qc (s:=.any) _ (ql6 _ _) ?_
 refine qaw (z2j e) rfl h1 rfl fun w2 hw2=>?_
 refine xw rfl (by rw [hw2];exact qy h1) rfl ?_
 exact⟨rfl,by rw [hw2,hw1];exact (Ext.push _).set_own (.inl (Nat.le_refl _))⟩
theorem qln (F:FuncId) (p:Option Addr) (w:World):(Instr.makeFunc (Go.Fn.func F) #[.pointer p] #[]).run P w=.ok (.func (.func F) #[.pointer p] #[]) w:=by rfl
def insL:List Ino->Ino->List Ino
 | [],i=>[i]
 | j :: L,i=>if zeb j.names i.names < 0 then j :: insL L i else if j.names=i.names then i :: L else i :: j :: L
theorem zos {p:Path}:∀ {L:List Ino},(L.Pairwise fun a b=>zeb a.names b.names < 0)->∃ lo hi:List Ino,(∀ j∈lo,zeb j.names p < 0)/\(∀ j∈hi,zeb p j.names < 0) /\
  ((L=lo++hi/\L.find? (fun i=>decide (i.names=p))=none)\/∃ i,i.names=p/\L=lo++i :: hi/\L.find? (fun i=>decide (i.names=p))=some i)
 | [],_=>⟨[],[],by simp,by simp,.inl ⟨rfl,rfl⟩⟩
 | j :: L,h=>by
  obtain⟨h1,h2⟩:=List.pairwise_cons.1 h
  by_cases hlt:zeb j.names p < 0
  ·obtain⟨lo,hi,g1,g2,g3⟩:=zos (p:=p) h2
   have hne:j.names≠p:=fun e=>by rw [zds.2 e] at hlt;omega
   refine⟨j :: lo,hi,fun x hx=>?_,g2,?_⟩
   ·rcases List.mem_cons.1 hx with rfl | hx
    ·exact hlt
    ·exact g1 x hx
   ·rcases g3 with⟨e1,e2⟩ | ⟨i,e0,e1,e2⟩
    ·exact .inl ⟨by rw [e1];rfl,by rw [List.find?_cons,decide_eq_false hne];exact e2⟩
    ·exact .inr ⟨i,e0,by rw [e1];rfl,by rw [List.find?_cons,decide_eq_false hne];exact e2⟩
  ·by_cases he:j.names=p
   ·exact⟨[],L,by simp,fun x hx=>by rw [<-he];exact h1 x hx,.inr ⟨j,he,rfl,by rw [List.find?_cons,decide_eq_true he]⟩⟩
   ·have hgt:zeb p j.names < 0:=by
     have:=zjr (p:=p) (q:=j.names)
     have h3:zeb j.names p≠0:=fun e=>he (zds.1 e)
     omega
    have hall:∀ x∈j :: L,zeb p x.names < 0:=by
     intro x hx
     rcases List.mem_cons.1 hx with rfl | hx
     ·exact hgt
     ·exact zlw hgt (h1 x hx)
    refine⟨[],j :: L,by simp,hall,.inl ⟨rfl,?_⟩⟩
    rw [List.find?_eq_none]
    intro x hx e
    have e:x.names=p:=by simpa using e
    have:=hall x hx
    rw [e,zds.2 rfl] at this;omega
theorem qe5 {i:Ino}{hi:List Ino}(h:(∀ j∈hi,zeb i.names j.names < 0)):∀ {lo:List Ino},(∀ j∈lo,zeb j.names i.names < 0)->insL (lo++hi) i=lo++i :: hi
 | [],_=>by
  cases hi with
  | nil=>rfl
  | cons j hi=>
   have h1:=h j (by simp)
   have h2:=zjr (p:=i.names) (q:=j.names)
   have h3:j.names≠i.names:=fun e=>by rw [zds.2 e.symm] at h1;omega
   show insL (j :: hi) i=_
   rw [insL,if_neg (by omega),if_neg h3];rfl
 | j :: lo,hlo=>by
  show insL (j :: (lo++hi)) i=_
  rw [insL,if_pos (hlo j (by simp)),qe5 h fun x hx=>hlo x (by simp [hx])];rfl
theorem ins_eq {i j:Ino}{hi:List Ino}(he:j.names=i.names):∀ {lo:List Ino},(∀ j∈lo,zeb j.names i.names < 0)->insL (lo++j :: hi) i=lo++i :: hi
 | [],_=>by
  show insL (j :: hi) i=_
  rw [insL,if_neg (by rw [zds.2 he];omega),if_pos he];rfl
 | x :: lo,hlo=>by
  show insL (x :: (lo++j :: hi)) i=_
  rw [insL,if_pos (hlo x (by simp)),ins_eq he fun y hy=>hlo y (by simp [hy])];rfl
def z8y (o:Option Ino):Nat:=match o with | some i=>i.data.length | none=>0
theorem zsy {a b:List Ino}:tot (a++b)=tot a+tot b:=by simp [tot]
theorem zr2 {i:Ino}{b:List Ino}:tot (i :: b)=i.data.length+tot b:=by simp [tot]
theorem qd9 {L:List Ino}{i:Ino}(hG:Good L) (hi:okP i.names/\i.names≠[]) (hd:i.data.length<=1024) (hm:(L.find? fun j=>decide (j.names=i.names)).isSome=true\/L.length < 1024) :
  Good (insL L i)/\tot (insL L i)+z8y (L.find? fun j=>decide (j.names=i.names))=tot L+i.data.length /\
  (∀ {M:IM}{c:Nat},MOk (fun _=>True) M c->St M L->St (zl9 M (x9 i.names) i c) (insL L i)):=by
 obtain⟨lo,hi',g1,g2,g3⟩:=zos (p:=i.names) hG.rise
 have rise:∀ {M:List Ino},((lo++hi').Pairwise fun a b=>zeb a.names b.names < 0)->(lo++i :: hi').Pairwise fun a b=>zeb a.names b.names < 0:=by
  intro _ h
  rw [List.pairwise_append] at h |-
  refine⟨h.1,List.pairwise_cons.2 ⟨g2,h.2.1⟩,fun a ha b hb=>?_⟩
  rcases List.mem_cons.1 hb with rfl | hb
  ·exact g1 a ha
  ·exact h.2.2 a ha b hb
 have mem:∀ {Q:Ino->Prop},Q i->(∀ j∈lo++hi',Q j)->∀ j∈lo++i :: hi',Q j:=by
  intro Q h1 h2 j hj
  rcases List.mem_append.1 hj with h | h
  ·exact h2 j (List.mem_append_left _ h)
  ·rcases List.mem_cons.1 h with rfl | h
   ·exact h1
   ·exact h2 j (List.mem_append_right _ h)
 rcases g3 with⟨e1,e2⟩ | ⟨j,e0,e1,e2⟩
 ·have hins:insL L i=lo++i :: hi':=by rw [e1,qe5 g2 g1]
  rw [hins,e2]
  have hlen:L.length < 1024:=by rcases hm with h | h;rw [e2] at h;cases h;exact h
  refine⟨⟨mem hi (by rw [<-e1];exact hG.ok),rise (M:=[]) (by rw [<-e1];exact hG.rise),mem hd (by rw [<-e1];exact hG.small),?_⟩,?_,?_⟩
  ·rw [e1] at hlen;simp at hlen |-;omega
  ·rw [e1,zsy,zsy,zr2];simp only [z8y];omega
  ·intro M c hM hS
   have hno:∀ x∈M,x.1≠x9 i.names:=by
    intro x hx e
    have h1:x.2.1∈L:=hS.perm.mem_iff.1 (List.mem_map.2 ⟨x,hx,rfl⟩)
    have h2:=hS.key x hx
    have h3:=zkn (hG.ok _ h1).1 hi.1 (by rw [<-h2,e])
    exact List.find?_eq_none.1 e2 _ h1 (by simpa using h3)
   rw [zho (zn0 hno)]
   refine⟨?_,fun x hx=>?_,⟨mem hi (by rw [<-e1];exact hG.ok),rise (M:=[]) (by rw [<-e1];exact hG.rise),mem hd (by rw [<-e1];exact hG.small),by rw [e1] at hlen;simp at hlen |-;omega⟩⟩
   ·rw [List.map_append]
    have h1:=hS.perm
    rw [e1] at h1
    refine (h1.append_right [i]).trans ?_
    rw [List.append_assoc]
    exact List.Perm.append_left lo (List.perm_append_singleton i hi')
   ·rcases List.mem_append.1 hx with hx | hx
    ·exact hS.key x hx
    ·simp only [List.mem_singleton] at hx;subst hx;rfl
 ·have hins:insL L i=lo++i :: hi':=by rw [e1,ins_eq e0 g1]
  rw [hins,e2]
  have hsub:∀ x∈lo++hi',x∈L:=by
   intro x hx
   rw [e1]
   rcases List.mem_append.1 hx with h | h
   ·exact List.mem_append_left _ h
   ·exact List.mem_append_right _ (List.mem_cons_of_mem _ h)
  have hr2:(lo++hi').Pairwise fun a b=>zeb a.names b.names < 0:=by
   have h:=hG.rise
   rw [e1,List.pairwise_append] at h
   rw [List.pairwise_append]
   exact⟨h.1,(List.pairwise_cons.1 h.2.1).2,fun a ha b hb=>h.2.2 a ha b (List.mem_cons_of_mem _ hb)⟩
  have hlen:(lo++i :: hi').length<=1024:=by have:=hG.many;rw [e1] at this;simpa using this
  have hgood:Good (lo++i :: hi'):=⟨mem hi (fun x hx=>hG.ok x (hsub x hx)),rise (M:=[]) hr2,mem hd (fun x hx=>hG.small x (hsub x hx)),hlen⟩
  refine⟨hgood,?_,?_⟩
  ·rw [e1,zsy,zsy,zr2,zr2];simp only [z8y];omega
  ·intro M c hM hS
   have hget:=qbn hM hS hi.1
   rw [e2] at hget
   have hiff:∀ x∈M,(x.1=x9 i.names ↔ x.2.1.names=i.names):=by
    intro x hx
    have h1:x.2.1∈L:=hS.perm.mem_iff.1 (List.mem_map.2 ⟨x,hx,rfl⟩)
    have h2:=hS.key x hx
    exact⟨fun e=>zkn (hG.ok _ h1).1 hi.1 (by rw [<-h2,e]),fun e=>by rw [h2,e]⟩
   rw [zj0 (by rw [hget];rfl)]
   refine⟨?_,fun x hx=>?_,hgood⟩
   ·have h1:(M.map fun x=>if x.1=x9 i.names then (x.1,i,x.2.2) else x).map (·.2.1)=(M.map (·.2.1)).map fun z=>if z.names=i.names then i else z:=by
     rw [List.map_map,List.map_map]
     apply List.map_congr_left
     intro x hx
     simp only [Function.comp]
     by_cases e:x.1=x9 i.names
     ·rw [if_pos e,if_pos ((hiff x hx).1 e)]
     ·rw [if_neg e,if_neg fun h=>e ((hiff x hx).2 h)]
    rw [h1]
    refine (hS.perm.map _).trans ?_
    rw [e1,List.map_append,List.map_cons,if_pos e0]
    have keep:∀ {l:List Ino},(∀ x∈l,x.names≠i.names)->l.map (fun z=>if z.names=i.names then i else z)=l:=by
     intro l hl
     conv=>rhs;rw [<-List.map_id l]
     apply List.map_congr_left
     intro x hx
     rw [if_neg (hl x hx)];rfl
    have k1:=keep (l:=lo) fun x hx e=>by have:=g1 x hx;rw [e,zds.2 rfl] at this;omega
    have k2:=keep (l:=hi') fun x hx e=>by have:=g2 x hx;rw [e,zds.2 rfl] at this;omega
    exact List.Perm.of_eq (by rw [k1,k2])
   ·obtain⟨y,hy,rfl⟩:=List.mem_map.1 hx
    by_cases e:y.1=x9 i.names
    ·rw [if_pos e];exact e
    ·rw [if_neg e];exact hS.key y hy
def kindOf (o:Option Ino):Int:=match o with | some i=>i.kind | none=>0
def qbx (L:List Ino) (t:List UInt8) (k:Int) (o:Bool) (d:List UInt8):Int×List Ino:=
 if (vg t).2≠0 then ((vg t).2,L) else if (vg t).1=[] then (132,L) else if zns k o d≠0 then (zns k o d,L)
 else if 1 < (vg t).1.length/\(zfz L (vg t).1.dropLast).isSome=false then (4,L)
 else if 1 < (vg t).1.length/\kindOf (zfz L (vg t).1.dropLast)≠2 then (70,L)
 else if k≠2/\0 < (ze2 L (vg t).1).length then (130,L)
 else if (zfz L (vg t).1).isSome=false/\1024<=L.length then (8,L)
 else (0,insL L ⟨(vg t).1,k,o,d⟩)
theorem qa6 {o:Option Ino}:(zsl o)[1]?=some (.int .i64 (kindOf o)):=by cases o <;> rfl
theorem qbc {o:Option Ino}:∃ D:List UInt8,(zsl o)[3]?=some (.string (strOf D))/\D.length=z8y o:=by
 cases o with
 | none=>exact⟨[],rfl,rfl⟩
 | some i=>exact⟨i.data,rfl,rfl⟩
theorem zu6 {k:Int}{o:Bool}{d:List UInt8}(h:zns k o d=0):d.length<=1024:=by
 unfold zns at h
 split at h
 ·omega
 split at h
 ·omega
 split at h
 ·omega
 ·omega
theorem qbo {L:List Ino}{q:Path}(hq:okP q) (hne:q≠[]):zfz L q=L.find? fun i=>decide (i.names=q):=by unfold zfz;rw [if_pos ⟨hne,zum.2 hq⟩]
theorem qac:∀ {L:List Ino},(∀ i∈L,i.data.length<=1024)->tot L<=1024 * L.length
 | [],_=>by simp [tot]
 | i :: L,h=>by
  have h1:=h i (by simp)
  have h2:=qac (L:=L) fun j hj=>h j (by simp [hj])
  rw [zr2,List.length_cons];omega
theorem Up.good {H:Heap}{p m:Nat}{n b:Int}{L:List Ino}(h:Up H p m n b L):Good L:=by obtain⟨_,_,_,_,_,h4⟩:=h;exact h4.good
set_option maxHeartbeats 8000000 in
theorem qf4 {w:World}{H:Heap}{p m:Nat}{nn bb:Int}{L:List Ino}{t d:List UInt8}{k:Int}{o:Bool}(hw:w.heap=H) (hU:Up H p m nn bb L) :
  qj P zby #[.pointer (some ⟨p,0,none⟩),qkf t k o d] w fun e w'=>e=.returned (.int .i64 (qbx L t k o d).1)/\Up w'.heap p m nn bb (qbx L t k o d).2/\Ext [p,m] H w'.heap:=by
 have hG:=hU.good
 have hmany:=hG.many
 have htot:=qac hG.small
 obtain⟨M,c,u1,u2,u3,u4⟩:=id hU
 have hpl:=lt_of_get u1
 have hml:=lt_of_get u2
 have hpm:p≠m:=by rintro rfl;rw [u1] at u2;cases u2
 refine zr1 ?_
 unfold zly
 refine ji hw fun w1 hw1=>?_
 have hx1:Ext [] H w1.heap:=by rw [hw1];exact .push _
 have hb1:w1.heap[H.size]?=some (.cells (raw t k o d).toArray zl (0,0)):=by rw [hw1];exact zk
 have keep:∀ {w:World}{C:Int},qbx L t k o d=(C,L)->Ext [] H w.heap->(Ending.returned (Value.int .i64 C)=.returned (.int .i64 (qbx L t k o d).1)/\Up w.heap p m nn bb (qbx L t k o d).2/\Ext [p,m] H w.heap):=by
  intro w C h hx
  rw [h]
  exact⟨rfl,hU.ext hx (by simp) (by simp),hx.mono (by simp)⟩
 refine qp rfl ?_
 refine jg (s:=.str) (t:=strOf t) rfl hb1 rfl ?_
 refine zh (zma t rfl) ?_
 rintro e w2 ⟨x,rfl,hm2,hx12⟩
 refine⟨(x,(vg t).2),rfl,?_⟩
 have hx2:=hx1.trans hx12
 have hb2:=hx12.get hb1 (by simp)
 refine zbr (fun h=>keep (by unfold qbx;rw [if_pos h]) hx2) (fun h0=>?_)
 have hq:=zmu t
 have hP1:qbx L t k o d=if (vg t).1=[] then (132,L) else if zns k o d≠0 then (zns k o d,L)
   else if 1 < (vg t).1.length/\(zfz L (vg t).1.dropLast).isSome=false then (4,L)
   else if 1 < (vg t).1.length/\kindOf (zfz L (vg t).1.dropLast)≠2 then (70,L)
   else if k≠2/\0 < (ze2 L (vg t).1).length then (130,L)
   else if (zfz L (vg t).1).isSome=false/\1024<=L.length then (8,L)
   else (0,insL L ⟨(vg t).1,k,o,d⟩):=by unfold qbx;rw [if_neg fun h=>h h0]
 generalize (vg t).1=q at *
 have hxl:x.2.1=q.length:=by have:=hm2.len;simp at this;omega
 have hxc:x.2.1<=x.2.2:=by
  rcases hm2 with⟨rfl,_⟩ | ⟨_,_,_,_,_,_,_,h,_⟩
  ·exact Nat.le_refl _
  ·exact h
 have hq8:=hq.2
 refine zba (fun h=>keep (by rw [hP1,if_pos (List.eq_nil_of_length_eq_zero (by simp only at h;omega))]) hx2) (fun h=>?_)
 have hne:q≠[]:=by rintro rfl;apply h;simp only;simp at hxl;omega
 have hqpos:0 < q.length:=by cases q with | nil=>exact absurd rfl hne | cons a b=>simp
 rw [if_neg hne] at hP1
 refine xw rfl hb2 rfl ?_
 refine zh (qj1 t d k o rfl) ?_
 rintro e w3 ⟨rfl,hx23⟩
 refine⟨zns k o d,rfl,?_⟩
 have hx3:=hx2.trans hx23
 have hx13:=hx12.trans hx23
 refine zbr (fun h=>keep (by rw [hP1,if_pos h]) hx3) (fun hform=>?_)
 rw [if_neg fun h=>h hform] at hP1
 have hm3:=hm2.ext hx23 (by simp)
 have hgq:=qbo (L:=L) hq hne
 refine joinP_of (fun _ w7=>Ext [] w3.heap w7.heap/\¬(1 < q.length/\(zfz L q.dropLast).isSome=false)/\¬(1 < q.length/\kindOf (zfz L q.dropLast)≠2)) ?_ ?_
 ·refine zdb ((x.2.1-1:Nat):Int) (by simp only;omega) (by omega) (by omega) ?_
  refine qc (s:=.slc) (if x.2.2=0 then x.1 else x.1.map (·.add (0 * 1)),(x.2.1-1)-0,x.2.2-0) (zbd zj6 zs9 .no (.yes rfl) (Nat.zero_le _) (show x.2.1-1<=x.2.2 by omega)) ?_
  have hcut:=(Mine.cut hm3 (k:=x.2.1-1) (by omega)).cells
  rw [zdi] at hcut
  have hdl:q.take (x.2.1-1)=q.dropLast:=by rw [List.dropLast_eq_take,hxl]
  have hcut:Cells w3.heap (if x.2.2=0 then x.1 else x.1.map (·.add (0 * 1))) (strRow (q.take (x.2.1-1))):=hcut
  rw [hdl] at hcut
  have hql:q.dropLast.length=x.2.1-1:=by rw [List.length_dropLast];omega
  have hokd:okP q.dropLast:=by rw [<-hdl];exact hq.take _
  refine zy (fun hpos=>?_) (fun hnp=>?_)
  ·have hpos:1 < q.length:=by simp only at hpos;omega
   refine zh (z8g rfl (hU.ext hx3 (by simp) (by simp)) hcut (by rw [hql];simp) (by simp only;omega) hokd.fit (by omega)) ?_
   rintro e w4 ⟨rfl,hx34⟩
   refine⟨(.agg (zsl (zfz L q.dropLast)).toArray,(zfz L q.dropLast).isSome),rfl,?_⟩
   rw [zcI]
   refine ji rfl fun w5 hw5=>?_
   have hb5:w5.heap[w4.heap.size]?=some (.cells (raw [] 0 false []).toArray zl (0,0)):=by rw [hw5];exact zk
   refine stI rfl hb5 rfl zmp zov fun w6 hw6=>?_
   have hb6:w6.heap[w4.heap.size]?=some (.cells (zsl (zfz L q.dropLast)).toArray zl (0,0)):=by rw [hw6];exact qy hb5
   have hx46:Ext [] w4.heap w6.heap:=by rw [hw6,hw5];exact (Ext.push _).set_own (.inl (Nat.le_refl _))
   have hx36:=hx34.trans hx46
   cases hs:(zfz L q.dropLast).isSome with
   | false=>exact jh rfl (keep (by rw [hP1,if_pos ⟨hpos,hs⟩]) (hx3.trans hx36))
   | true=>
    refine qp rfl ?_
    refine jg (s:=.int .i64) (t:=kindOf (zfz L q.dropLast)) rfl hb6 (by rw [List.getElem?_toArray];exact qa6) ?_
    refine zbr (fun hk2=>keep (by rw [hP1,if_neg (by simp [hs]),if_pos ⟨hpos,hk2⟩]) (hx3.trans hx36)) (fun hk2=>⟨hx36,by simp [hs],fun h=>h.2 hk2⟩)
  ·have hnp:¬1 < q.length:=by simp only at hnp;omega
   exact⟨.refl _ _,fun h=>hnp h.1,fun h=>hnp h.1⟩
 rintro _ w7 ⟨hx37,hA,hB⟩
 rw [if_neg hA,if_neg hB] at hP1
 have hx7:=hx3.trans hx37
 have hsm:=hq.small
 refine zh (zgg rfl (hm3.ext hx37 (by simp)).cells hxl hxc (by omega)) ?_
 rintro e w8 ⟨rfl,hx78⟩
 refine⟨strOf (x9 q),rfl,?_⟩
 have hx18:=hx13.trans (hx37.trans hx78)
 have hb8:=hx18.get hb1 (by simp)
 refine zb8 rfl hb8 (by simp [raw]) fun w9 hw9=>?_
 have hb9:w9.heap[H.size]?=some (.cells (raw (x9 q) k o d).toArray zl (0,0)):=by rw [hw9];exact qy hb8
 have hx9:Ext [] H w9.heap:=by rw [hw9];exact (hx1.trans hx18).set_own (.inl (Nat.le_refl _))
 have hH1:H.size < w1.heap.size:=lt_of_get hb1
 have hx29:Ext [H.size] w2.heap w9.heap:=by rw [hw9];exact ((hx23.trans (hx37.trans hx78)).mono (by simp)).set_own (.inr (by simp))
 refine vw rfl fun w10 hw10=>?_
 have hx910:Ext [] w9.heap w10.heap:=by rw [hw10];exact .refl _ _
 have hx10:=hx9.trans hx910
 have hb10:=hx910.get hb9 (by simp)
 simp only [jc,zan,Nat.zero_add]
 refine jg (s:=.map) (t:=some m) rfl (hx10.get u1 (by simp)) rfl ?_
 refine jg (s:=.str) (t:=strOf (x9 q)) rfl hb10 rfl ?_
 have hget:=qbn u3 u4 hq
 rw [<-hgq] at hget
 have hval:((zc6 M (x9 q)).map qe2).getD zI=.agg (zsl (zfz L q)).toArray:=by rw [hget];cases zfz L q <;> rfl
 have look:∀ {w:World},w.heap[m]?=some (.map (ents keyS (vl qe2 M)) c)->(Instr.lookup je (.map (some m)) (.string (strOf (x9 q))) true).run P w=.ok (.tuple #[.agg (zsl (zfz L q)).toArray,.bool (zfz L q).isSome]) w:=by
  intro w hm
  have h:=zfv z0j uM zMI rfl hm u3 (k:=x9 q) trivial
  rw [hval,hget] at h
  exact h
 refine zct (l:=[.any,.bool]) (.agg (zsl (zfz L q)).toArray,(zfz L q).isSome) (look (hx10.get u2 (by simp))) ?_
 rw [zcI]
 refine ji rfl fun w11 hw11=>?_
 have hx1011:Ext [] w10.heap w11.heap:=by rw [hw11];exact .push _
 have hx11:=hx10.trans hx1011
 have hb11:=hx1011.get hb10 (by simp)
 refine⟨zct (l:=[.any,.bool]) (.agg (zsl (zfz L q)).toArray,(zfz L q).isSome) (look (hx11.get u2 (by simp))) rfl,?_⟩
 refine⟨jg (s:=.str) (t:=strOf (x9 q)) rfl hb11 rfl rfl,?_⟩
 refine⟨jg (s:=.map) (t:=some m) rfl (hx11.get u1 (by simp)) rfl rfl,?_⟩
 have ho11:w11.heap[w10.heap.size]?=some (.cells (raw [] 0 false []).toArray zl (0,0)):=by rw [hw11];exact zk
 refine stI rfl ho11 rfl zmp zov fun w12 hw12=>?_
 have hHs:H.size < w10.heap.size:=by have:=hx910.1;have:=lt_of_get hb9;omega
 have ho12:w12.heap[w10.heap.size]?=some (.cells (zsl (zfz L q)).toArray zl (0,0)):=by rw [hw12];exact qy ho11
 have hb12:w12.heap[H.size]?=some (.cells (raw (x9 q) k o d).toArray zl (0,0)):=by rw [hw12];exact zd8 hb11 (by omega)
 have hx1012:Ext [] w10.heap w12.heap:=by rw [hw12,hw11];exact (Ext.push _).set_own (.inl (Nat.le_refl _))
 have hx12':=hx10.trans hx1012
 generalize w10.heap.size=bo at *
 refine joinP_of (fun _ w15=>Ext [] w12.heap w15.heap/\¬(k≠2/\0 < (ze2 L q).length)/\¬((zfz L q).isSome=false/\1024<=L.length)) ?_ ?_
 ·refine jf ?_
  have many:∀ {w:World},Ext [] w12.heap w.heap->¬(k≠2/\0 < (ze2 L q).length)->∀ {R1 R2:Prop},(1024<=L.length->(zfz L q).isSome=false->R1)->(¬((zfz L q).isSome=false/\1024<=L.length)->R2)->qw (!(zfz L q).isSome) (ld .map (⟨p,3,none⟩:Addr) w fun (t84:(Option Nat))=>zad P (Builtin.len_ #[je] zav #[(Value.map t84)]) (.int .i64) w fun (t85:Int)=>qw (t85==1024) R1 R2) R2:=by
   intro w hx _ R1 R2 h1 h2
   have hxx:=hx12'.trans hx
   cases hs:(zfz L q).isSome with
   | true=>exact qp rfl (h2 (by simp [hs]))
   | false=>
    refine jh rfl ?_
    refine jg (s:=.map) (t:=some m) rfl (hxx.get u1 (by simp)) rfl ?_
    refine qc (s:=.int .i64) _ (z1r uM rfl (hxx.get u2 (by simp))) ?_
    have hmll:M.length=L.length:=by have:=u4.perm.length_eq;rwa [List.length_map] at this
    refine zba (fun h=>h1 (by omega) hs) (fun h=>h2 (fun h3=>h (by omega)))
  refine jg (s:=.int .i64) (t:=k) rfl hb12 rfl ?_
  refine zbr (fun hk2=>?_) (fun hk2=>?_)
  ·have hcq:Cells w12.heap x.1 (strRow q):=by
    have h1:=hm2.ext hx29 (fun b hb=>by have:=jo hm2 b hb;simp only [List.mem_singleton];omega)
    exact ((h1.ext hx910 (by simp)).ext hx1012 (by simp)).cells
   refine zh (z0g rfl (hU.ext hx12' (by simp) (by simp)) hcq hxl (by omega)) ?_
   rintro e w13 ⟨y,rfl,hm13,hx13'⟩
   refine⟨y,rfl,?_⟩
   have hyl:y.2.1=(ze2 L q).length:=by have:=hm13.len;rw [xg encI zed] at this;omega
   refine zy (fun hpos=>keep (by rw [hP1,if_pos ⟨hk2,by omega⟩]) (hx12'.trans hx13')) (fun hnp=>?_)
   have hnb:¬(k≠2/\0 < (ze2 L q).length):=fun h=>hnp (by omega)
   exact many hx13' hnb (fun h1 h2=>keep (by rw [hP1,if_neg hnb,if_pos ⟨h2,h1⟩]) (hx12'.trans hx13')) (fun h=>⟨hx13',hnb,h⟩)
  ·have hnb:¬(k≠2/\0 < (ze2 L q).length):=fun h=>h.1 hk2
   exact many (.refl _ _) hnb (fun h1 h2=>keep (by rw [hP1,if_neg hnb,if_pos ⟨h2,h1⟩]) hx12') (fun h=>⟨.refl _ _,hnb,h⟩)
 rintro _ w15 ⟨hx15,hC,hD⟩
 rw [if_neg hC,if_neg hD] at hP1
 have hx015:=hx12'.trans hx15
 obtain⟨D,hDd,hDl⟩:=qbc (o:=zfz L q)
 have hins:=qd9 (L:=L) (i:=⟨q,k,o,d⟩) hG ⟨hq,hne⟩ (zu6 hform) (by
  by_cases h:(zfz L q).isSome=true
  ·left;rw [<-hgq];exact h
  ·right
   have h2:(zfz L q).isSome=false:=by simpa using h
   have:¬1024<=L.length:=fun h3=>hD ⟨h2,h3⟩
   omega)
 obtain⟨hg2,ht2,hst2⟩:=hins
 have ht2':tot (insL L ⟨q,k,o,d⟩)+z8y (zfz L q)=tot L+d.length:=by rw [hgq];exact ht2
 have hdl:=zu6 hform
 refine vw rfl fun w16 hw16=>?_
 have hx16:Ext [] w15.heap w16.heap:=by rw [hw16];exact .refl _ _
 have hx016:=hx015.trans hx16
 have hp16:=hx016.get u1 (by simp)
 refine jg (s:=.int .i64) (t:=(tot L:Int)) rfl hp16 rfl ?_
 refine jg (s:=.str) (t:=strOf d) rfl ((hx15.trans hx16).get hb12 (by simp)) rfl ?_
 refine jg (s:=.str) (t:=strOf D) rfl ((hx15.trans hx16).get ho12 (by simp)) (by rw [List.getElem?_toArray];exact hDd) ?_
 simp only [jy]
 have hDs:D.length<=1024:=by
  rw [hDl,hgq]
  cases hf:L.find? (fun i=>decide (i.names=q)) with
  | none=>simp [z8y]
  | some i=>exact hG.small i (List.mem_of_find?_eq_some hf)
 refine zdb ((d.length:Int)-D.length) rfl (by omega) (by omega) ?_
 refine jr ((tot (insL L ⟨q,k,o,d⟩):Nat):Int) (by omega) (by omega) (by omega) ?_
 refine zb8 rfl hp16 (by simp) fun w17 hw17=>?_
 have hx17:Ext [p] w16.heap w17.heap:=by rw [hw17];exact Ext.set _ (by simp)
 have hp17:w17.heap[p]?=some (.cells #[.int .i64 nn,.int .i64 bb,.int .i64 (tot (insL L ⟨q,k,o,d⟩):Int),.map (some m)] zbl (0,0)):=by rw [hw17];exact qy hp16
 refine vw rfl fun w18 hw18=>?_
 have hx18':Ext [] w17.heap w18.heap:=by rw [hw18];exact .refl _ _
 have hp18:=hx18'.get hp17 (by simp)
 have hb18:=hx18'.get (hx17.get ((hx15.trans hx16).get hb12 (by simp)) (by simp;omega)) (by simp)
 have hm18:=hx18'.get (hx17.get (hx016.get u2 (by simp)) (by simp;omega)) (by simp)
 refine jg (s:=.map) (t:=some m) rfl hp18 rfl ?_
 refine jg (s:=.str) (t:=strOf (x9 q)) rfl hb18 rfl ?_
 refine xw rfl hb18 rfl ?_
 refine zm1 _ (zjn z0j uM rfl hm18 u3 (k:=x9 q) trivial ⟨q,k,o,d⟩ rfl) ?_
 rw [hP1]
 refine⟨rfl,⟨_,_,zd8 hp18 hpm,qy hm18,u3.upd trivial _,hst2 u3 u4⟩,?_⟩
 exact (((hx016.mono (by simp)).trans (hx17.mono (by simp))).trans (hx18'.mono (by simp))).set_own (.inr (by simp))
def z1l (L:List Ino) (q:Path):List Ino:=L.filter fun i=>!zbq i.names q
theorem Good.sub {L L':List Ino}(h:Good L) (hs:L'.Sublist L):Good L':=
 ⟨fun i hi=>h.ok i (hs.subset hi),h.rise.sublist hs,fun i hi=>h.small i (hs.subset hi),Nat.le_trans hs.length_le h.many⟩
theorem zs6 {L:List Ino}(h:Good L){i j:Ino}(hi:i∈L) (hj:j∈L) (e:i.names=j.names):i=j:=by
 obtain⟨lo,hi',g1,g2,g3⟩:=zos (p:=i.names) h.rise
 have key:∀ {x:Ino},x∈L->x.names=i.names->L.find? (fun y=>decide (y.names=i.names))=some x:=by
  intro x hx ex
  rcases g3 with⟨e1,e2⟩ | ⟨y,e0,e1,e2⟩
  ·exact absurd (by simpa using ex) (List.find?_eq_none.1 e2 x hx)
  ·rw [e1] at hx
   rcases List.mem_append.1 hx with h1 | h1
   ·have:=g1 x h1;rw [ex,zds.2 rfl] at this;omega
   ·rcases List.mem_cons.1 h1 with rfl | h1
    ·exact e2
    ·have:=g2 x h1;rw [ex,zds.2 rfl] at this;omega
 have h1:=key hi rfl
 rw [key hj e.symm] at h1
 exact (Option.some.inj h1).symm
theorem qdc {L:List Ino}{i:Ino}(hG:Good L) (hi:i∈L):tot (L.filter fun j=>decide (j.names≠i.names))+i.data.length=tot L /\
  ∀ {M:IM},St M L->St (z3j M (x9 i.names)) (L.filter fun j=>decide (j.names≠i.names)):=by
 have hgood:=hG.sub (L':=L.filter fun j=>decide (j.names≠i.names)) List.filter_sublist
 constructor
 ·obtain⟨lo,hi',g1,g2,g3⟩:=zos (p:=i.names) hG.rise
  rcases g3 with⟨e1,e2⟩ | ⟨y,e0,e1,e2⟩
  ·exact absurd (by simp) (List.find?_eq_none.1 e2 i hi)
  ·have hy:y=i:=zs6 hG (by rw [e1];simp) hi e0
   subst hy
   have k1:lo.filter (fun j=>decide (j.names≠y.names))=lo:=by
    rw [List.filter_eq_self];intro x hx
    have:=g1 x hx
    simp only [decide_eq_true_eq];intro e;rw [e,zds.2 rfl] at this;omega
   have k2:hi'.filter (fun j=>decide (j.names≠y.names))=hi':=by
    rw [List.filter_eq_self];intro x hx
    have:=g2 x hx
    simp only [decide_eq_true_eq];intro e;rw [e,zds.2 rfl] at this;omega
   have k3:L.filter (fun j=>decide (j.names≠y.names))=lo++hi':=by
    rw [e1,List.filter_append,List.filter_cons,k1,k2];simp
   rw [k3,e1,zsy,zsy,zr2];omega
 ·intro M hS
  have hiff:∀ x∈M,(x.1=x9 i.names ↔ x.2.1.names=i.names):=by
   intro x hx
   have h1:x.2.1∈L:=hS.perm.mem_iff.1 (List.mem_map.2 ⟨x,hx,rfl⟩)
   have h2:=hS.key x hx
   exact⟨fun e=>zkn (hG.ok _ h1).1 (hG.ok _ hi).1 (by rw [<-h2,e]),fun e=>by rw [h2,e]⟩
  refine⟨?_,fun x hx=>hS.key x (List.mem_filter.1 hx).1,hgood⟩
  have h1:(z3j M (x9 i.names)).map (·.2.1)=(M.map (·.2.1)).filter fun j=>decide (j.names≠i.names):=by
   rw [List.filter_map,z3j]
   congr 1
   apply List.filter_congr
   intro x hx
   simp only [Function.comp]
   by_cases e:x.1=x9 i.names
   ·rw [decide_eq_false (by simpa using (hiff x hx).1 e)]
    simp [e]
   ·have h7:x.2.1.names≠i.names:=fun h=>e ((hiff x hx).2 h)
    rw [decide_eq_true h7]
    simp [e]
  rw [h1]
  exact hS.perm.filter _
def zf6 (L:List Ino) (q:Path):List Ino:=ze2 L q++(zfz L q).toList
theorem zuq {L:List Ino}(hG:Good L){q:Path}{i:Ino}:i∈zf6 L q ↔ i∈L/\zbq i.names q=true:=by
 unfold zf6
 rw [List.mem_append]
 constructor
 ·rintro (h | h)
  ·obtain⟨h1,h2⟩:=List.mem_filter.1 h
   unfold zh7 at h2
   simp only [Bool.and_eq_true] at h2
   exact⟨h1,h2.2⟩
  ·rw [Option.mem_toList] at h
   unfold zfz at h
   split at h
   ·have h1:=List.mem_of_find?_eq_some h
    have h2:i.names=q:=by simpa using List.find?_some h
    exact⟨h1,by rw [h2,within_iff];exact⟨Nat.le_refl _,List.take_length⟩⟩
   ·cases h
 ·rintro ⟨h1,h2⟩
  obtain⟨h3,h4⟩:=within_iff.1 h2
  by_cases hlt:q.length < i.names.length
  ·left
   exact List.mem_filter.2 ⟨h1,by unfold zh7;rw [decide_eq_true hlt,h2];rfl⟩
  ·right
   have he:i.names=q:=by rw [<-h4,List.take_of_length_le (by omega)]
   have hok:=hG.ok i h1
   rw [he] at hok
   rw [Option.mem_toList,qbo hok.1 hok.2]
   cases hf:L.find? (fun j=>decide (j.names=q)) with
   | none=>exact absurd (by simpa using he) (List.find?_eq_none.1 hf i h1)
   | some j=>
    have h5:=List.mem_of_find?_eq_some hf
    have h6:j.names=q:=by simpa using List.find?_some hf
    rw [zs6 hG h5 h1 (by rw [h6,he])]
theorem zyx {L:List Ino}(hG:Good L){q:Path}:((zf6 L q).map (·.names)).Nodup:=by
 unfold zf6
 rw [List.map_append,List.nodup_append]
 refine⟨?_,?_,?_⟩
 ·rw [List.nodup_iff_pairwise_ne,List.pairwise_map]
  exact (hG.rise.filter _).imp fun {a b} h e=>by rw [e,zds.2 rfl] at h;omega
 ·cases zfz L q <;> simp
 ·intro a ha b hb
  obtain⟨x,hx,rfl⟩:=List.mem_map.1 ha
  obtain⟨y,hy,rfl⟩:=List.mem_map.1 hb
  have h2:=(List.mem_filter.1 hx).2
  unfold zh7 at h2
  simp only [Bool.and_eq_true,decide_eq_true_eq] at h2
  rw [Option.mem_toList] at hy
  unfold zfz at hy
  split at hy
  ·have h3:y.names=q:=by simpa using List.find?_some hy
   intro e
   rw [e,h3] at h2;omega
  ·cases hy
theorem qct {L:List Ino}(hG:Good L){q:Path}:(zf6 L q).length+(z1l L q).length=L.length:=by
 have h1:(zf6 L q).Perm (L.filter fun i=>zbq i.names q):=by
  have n1:(zf6 L q).Nodup:=List.nodup_iff_pairwise_ne.2 ((List.pairwise_map.1 (List.nodup_iff_pairwise_ne.1 (zyx hG))).imp fun h e=>h (by rw [e]))
  have n2:L.Nodup:=by
   rw [List.nodup_iff_pairwise_ne]
   exact hG.rise.imp fun {a b} h e=>by rw [e,zds.2 rfl] at h;omega
  refine (List.perm_ext_iff_of_nodup n1 (n2.sublist List.filter_sublist)).2 fun i=>?_
  rw [zuq hG,List.mem_filter]
 rw [h1.length_eq]
 unfold z1l
 have:=(List.filter_append_perm (fun i:Ino=>zbq i.names q) L).length_eq
 rw [List.length_append] at this
 exact this
set_option maxHeartbeats 8000000 in
theorem qio {w:World}{H:Heap}{p m:Nat}{nn bb:Int}{L:List Ino}{a:Option Addr}{n nc:Nat}{q:Path}(hw:w.heap=H) (hU:Up H p m nn bb L) (hL:Cells H a (strRow q)) (hn:n=q.length) (hnc:n<=nc) (hf:Fit q) (hq:q.length<=9223372036854775807) :
  qj P zhs #[.pointer (some ⟨p,0,none⟩),.slice a n nc] w fun e w'=>e=.returned (.int .i64 ((L.length:Int)-(z1l L q).length))/\Up w'.heap p m nn bb (z1l L q)/\Ext [p,m] H w'.heap:=by
 have hG:=hU.good
 have hmany:=hG.many
 have hU0:=hU
 obtain⟨M,c,u1,u2,u3,u4⟩:=id hU
 have hpl:=lt_of_get u1
 have hml:=lt_of_get u2
 have hpm:p≠m:=by rintro rfl;rw [u1] at u2;cases u2
 refine zql ?_
 unfold zkp
 refine zh (z0g hw hU hL hn hq) ?_
 rintro e w1 ⟨x,rfl,hm1,hx1⟩
 refine⟨x,rfl,?_⟩
 have hgl:=qct hG (q:=q)
 refine joinP_of (fun (s:Option Addr×Nat×Nat) W=>Ext [] H W.heap/\Mine W.heap H.size zl 4 s ((zf6 L q).flatMap encI)) ?_ ?_
 ·refine zh (z8g rfl (hU.ext hx1 (by simp) (by simp)) (hL.ext hx1 (by simp)) hn hnc hf hq) ?_
  rintro e w2 ⟨rfl,hx12⟩
  refine⟨(.agg (zsl (zfz L q)).toArray,(zfz L q).isSome),rfl,?_⟩
  rw [zcI]
  refine ji rfl fun w3 hw3=>?_
  have hb3:w3.heap[w2.heap.size]?=some (.cells (raw [] 0 false []).toArray zl (0,0)):=by rw [hw3];exact zk
  refine stI rfl hb3 rfl zmp zov fun w4 hw4=>?_
  have hb4:w4.heap[w2.heap.size]?=some (.cells (zsl (zfz L q)).toArray zl (0,0)):=by rw [hw4];exact qy hb3
  have hx24:Ext [] w2.heap w4.heap:=by rw [hw4,hw3];exact (Ext.push _).set_own (.inl (Nat.le_refl _))
  have hx14:=hx12.trans hx24
  have hm4:=hm1.ext hx14 (by simp)
  have hxl:x.2.1=(ze2 L q).length:=by have:=hm1.len;rw [xg encI zed] at this;omega
  cases hs:zfz L q with
  | none=>
   refine qp rfl ?_
   exact⟨hx1.trans hx14,by unfold zf6;rw [hs,Option.toList_none,List.append_nil];exact hm4⟩
  | some i=>
   refine jh rfl ?_
   rw [hs] at hb4
   refine xw rfl hb4 rfl ?_
   refine zaf (s:=.slc) (some ⟨w4.heap.size,0,none⟩,1,1) _ (zee EI uI (v:=.agg (encI i).toArray) rfl (by omega) (by omega)) ?_
   have hxp:Ext [] w4.heap (w4.heap.push (.cells (Value.agg (encI i).toArray).cells zl)):=.push _
   have hHs:H.size<=w4.heap.size:=by have:=hx1.1;have:=hx14.1;omega
   have hgl2:(ze2 L q).length<=(zf6 L q).length:=by unfold zf6;simp
   refine zbx (n:=1) (us:=encI i) (H:=w4.heap.push (.cells (Value.agg (encI i).toArray).cells zl)) EI (by omega) uI (zar uI) rfl (hm4.ext hxp (by simp)) (by simp;omega)
    (Src.slc rfl (.inr ⟨w4.heap.size,0,_,_,_,rfl,zk,by simp [Value.cells,zed],by simp [Value.cells]⟩) (by rw [zed])) zox (by omega) ?_
   intro x' W9 hm9 hl9 hx9 _
   refine⟨((hx1.trans hx14).trans hxp).own hx9 (by intro b hb hlt;have:=jo hm4 b hb;omega),?_⟩
   unfold zf6
   rw [hs,Option.toList_some,List.flatMap_append,List.flatMap_singleton]
   exact hm9
 rintro s w7 ⟨hx7,hm7⟩
 have hsl:s.2.1=(zf6 L q).length:=by have:=hm7.len;rw [xg encI zed] at this;omega
 have hnd:=zyx hG (q:=q)
 have hUw:=hU.ext hx7 (by simp) (by simp)
 have hHs:=hx7.1
 refine zae (fun (t:Int) W=>∃ i:Nat,t=(i:Int)/\i<=(zf6 L q).length/\Ext [p,m] w7.heap W.heap/\Up W.heap p m nn bb (L.filter fun j=>decide (j.names∉((zf6 L q).take i).map (·.names)))) (fun t _=>((zf6 L q).length-t).toNat)
  ⟨0,rfl,Nat.zero_le _,.refl _ _,by rw [List.take_zero,List.map_nil,List.filter_eq_self.2 (by simp)];exact hUw⟩ ?_
 rintro _ W ⟨i,rfl,hi,hxW,hUW⟩
 have hpn:p∉jw s/\m∉jw s:=⟨fun h=>by have:=jo hm7 _ h;omega,fun h=>by have:=jo hm7 _ h;omega⟩
 refine zy (fun hlt=>?_) (fun hge=>?_)
 ·have hil:i < (zf6 L q).length:=by omega
  have hget:=List.getElem?_eq_getElem hil
  have hymem:(zf6 L q)[i]∈zf6 L q:=List.getElem_mem hil
  have hyL:=((zuq hG).1 hymem).1
  have hnot:(zf6 L q)[i].names∉((zf6 L q).take i).map (·.names):=by
   intro hm
   obtain⟨z,hz,he⟩:=List.mem_map.1 hm
   obtain⟨j,hj,hzj⟩:=List.mem_take_iff_getElem.1 hz
   have h1:((zf6 L q).map (·.names))[j]'(by simp;omega)=((zf6 L q).map (·.names))[i]'(by simpa using hil):=by
    simp only [List.getElem_map]
    rw [hzj];exact he
   have h2:=(List.getElem_inj hnd).1 h1
   omega
  have hmW:Mine W.heap H.size zl 4 s ((zf6 L q).flatMap encI):=hm7.ext hxW (fun b hb h=>by simp only [List.mem_cons,List.not_mem_nil,or_false] at h;rcases h with rfl | rfl;exact hpn.1 hb;exact hpn.2 hb)
  generalize (zf6 L q)[i]=y at *
  refine zff (i:=i) zed (by omega) rfl hmW.cells hsl hget rfl ?_
  rw [zcI]
  refine ji rfl fun w9 hw9=>?_
  have hb9:w9.heap[W.heap.size]?=some (.cells (raw [] 0 false []).toArray zl (0,0)):=by rw [hw9];exact zk
  refine stI rfl hb9 rfl (zed y) zox fun w10 hw10=>?_
  have hb10:w10.heap[W.heap.size]?=some (.cells (encI y).toArray zl (0,0)):=by rw [hw10];exact qy hb9
  have hx10:Ext [] W.heap w10.heap:=by rw [hw10,hw9];exact (Ext.push _).set_own (.inl (Nat.le_refl _))
  refine vw rfl fun w11 hw11=>?_
  have hx11:Ext [] W.heap w11.heap:=by rw [hw11];exact hx10
  have hb11:w11.heap[W.heap.size]?=some (.cells (encI y).toArray zl (0,0)):=by rw [hw11];exact hb10
  have hGW:=hUW.good
  obtain⟨MW,cW,v1,v2,v3,v4⟩:=hUW
  have hvp:=lt_of_get v1
  have hvm:=lt_of_get v2
  have hyW:y∈L.filter fun j=>decide (j.names∉((zf6 L q).take i).map (·.names)):=List.mem_filter.2 ⟨hyL,decide_eq_true hnot⟩
  obtain⟨ht,hst⟩:=qdc hGW hyW
  have htl:=qac hGW.small
  have hmanyW:=hGW.many
  have hnext:(L.filter fun j=>decide (j.names∉((zf6 L q).take i).map (·.names))).filter (fun j=>decide (j.names≠y.names))=L.filter fun j=>decide (j.names∉((zf6 L q).take (i+1)).map (·.names)):=by
   rw [List.filter_filter]
   apply List.filter_congr
   intro j _
   rw [List.take_add_one,hget,Option.toList_some,List.map_append,Bool.eq_iff_iff]
   simp only [Bool.and_eq_true,decide_eq_true_eq,List.mem_append,List.map_cons,List.map_nil,List.mem_singleton,not_or]
   exact and_comm
  simp only [jc,zan,Nat.zero_add]
  have hp11:=hx11.get v1 (by simp)
  refine jg (s:=.int .i64) rfl hp11 rfl ?_
  refine jg (s:=.str) (t:=strOf y.data) rfl hb11 rfl ?_
  rw [hnext] at ht hst
  simp only [jy]
  refine zdb ((tot (L.filter fun j=>decide (j.names∉((zf6 L q).take (i+1)).map (·.names))):Nat):Int) (by omega) (by omega) (by omega) ?_
  refine zb8 rfl hp11 (by simp) fun w12 hw12=>?_
  have hx12:Ext [p] w11.heap w12.heap:=by rw [hw12];exact Ext.set _ (by simp)
  have hp12:w12.heap[p]?=some (.cells #[.int .i64 nn,.int .i64 bb,.int .i64 (tot (L.filter fun j=>decide (j.names∉((zf6 L q).take (i+1)).map (·.names))):Int),.map (some m)] zbl (0,0)):=by rw [hw12];exact qy hp11
  refine vw rfl fun w13 hw13=>?_
  have hx13:Ext [] w12.heap w13.heap:=by rw [hw13];exact .refl _ _
  have hp13:=hx13.get hp12 (by simp)
  have hb13:=hx13.get (hx12.get hb11 (by simp only [List.mem_singleton];omega)) (by simp)
  have hm13:=hx13.get (hx12.get (hx11.get v2 (by simp)) (by simp only [List.mem_singleton];omega)) (by simp)
  refine jg (s:=.map) (t:=some m) rfl hp13 rfl ?_
  refine jg (s:=.str) (t:=strOf (x9 y.names)) rfl hb13 rfl ?_
  refine zaf (s:=.any) _ _ (z6m z0j uM rfl hm13 v3 (k:=x9 y.names) trivial) ?_
  refine jr ((i+1:Nat):Int) (by omega) (by omega) (by omega) ?_
  refine⟨⟨i+1,rfl,by omega,?_,⟨_,_,zd8 hp13 hpm,qy hm13,v3.del _,hst v4⟩⟩,by omega⟩
  exact (((hxW.trans (hx11.mono (by simp))).trans (hx12.mono (by simp))).trans (hx13.mono (by simp))).set_own (.inr (by simp))
 ·have hie:i=(zf6 L q).length:=by omega
  subst hie
  have hfin:(L.filter fun j=>decide (j.names∉((zf6 L q).take (zf6 L q).length).map (·.names)))=z1l L q:=by
   unfold z1l
   apply List.filter_congr
   intro j hj
   rw [List.take_length,Bool.eq_iff_iff,decide_eq_true_eq,Bool.not_eq_true',<-Bool.not_eq_true]
   constructor
   ·intro h1 h2
    exact h1 (List.mem_map.2 ⟨j,(zuq hG).2 ⟨hj,h2⟩,rfl⟩)
   ·intro h1 h2
    obtain⟨z,hz,he⟩:=List.mem_map.1 h2
    have h3:=(zuq hG).1 hz
    rw [zs6 hG h3.1 hj he] at h3
    exact h1 h3.2
  rw [hfin] at hUW
  refine⟨?_,hUW,(hx7.mono (by simp)).trans hxW⟩
  congr 2;omega
def zxd (q:Path):Nat->List Ino->List Ino
 | 0,L=>L
 | k+1,L=>zxd q k (if (zfz L (q.take (q.length-(k+1)))).isSome=true then L else (qbx L (x9 (q.take (q.length-(k+1)))) 2 false []).2)
theorem bI2 (t:ByteArray) (w:World):(Instr.build zl #[(0,.string t),(1,.int .i64 2)]).run P w=.ok (.agg #[.string t,.int .i64 2,.bool false,.string (strOf [])]) w:=by kernel_rfl
theorem bI3 (t d:ByteArray) (w:World):(Instr.build zl #[(0,.string t),(1,.int .i64 1),(3,.string d)]).run P w=.ok (.agg #[.string t,.int .i64 1,.bool false,.string d]) w:=by kernel_rfl
set_option maxHeartbeats 4000000 in
theorem qfi {w:World}{H:Heap}{p m n nc:Nat}{nn bb:Int}{L:List Ino}{a:Option Addr}{q:Path}(hw:w.heap=H) (hU:Up H p m nn bb L) (hL:Cells H a (strRow q)) (hap:∀ x,a=some x->strRow q≠[]->x.block∉[p,m]) (hn:n=q.length) (hnc:n<=nc) (hq:okP q) :
  qj P zku #[.pointer (some ⟨p,0,none⟩),.slice a n nc] w fun e w'=>e=.returned (.tuple #[])/\Up w'.heap p m nn bb (zxd q (q.length-1) L)/\Ext [p,m] H w'.heap:=by
 have hq8:=hq.2
 obtain⟨Res,hRes⟩:∃ Res,Res=zxd q (q.length-1) L:=⟨_,rfl⟩
 rw [<-hRes]
 refine zz0 ?_
 unfold zt3
 refine zb3 (fun k s W=>∃ (i:Nat) (L':List Ino),s=(i:Int)/\(k+i=q.length\/k=0/\q.length<=i)/\1<=i/\zxd q k L'=Res/\Up W.heap p m nn bb L'/\Ext [p,m] H W.heap) (q.length-1) ⟨1,L,rfl,by omega,by omega,hRes.symm,by rw [hw];exact hU,by rw [hw];exact .refl _ _⟩ ?_
 rintro k s W ⟨i,L',rfl,hk,hi1,he,hU',hx⟩ Q hQ
 refine zy (fun h=>?_) (fun h=>?_)
 ·obtain⟨k,rfl⟩:∃ k',k=k'+1:=⟨k-1,by omega⟩
  have e1:q.length-(k+1)=i:=by omega
  unfold zxd at he
  rw [e1] at he
  refine joinP_of (fun _ W'=>∃ L2,zxd q k L2=Res/\Up W'.heap p m nn bb L2/\Ext [p,m] H W'.heap) ?_ ?_
  ·refine jf ?_
   obtain⟨a',hcut,hLc⟩:=zrz (i:=i) (n:=(i:Int)) zj6 zs9 (hL.ext hx hap) hnc (by omega) rfl
   rw [Nat.mul_one,zdi] at hLc
   refine qc (s:=.slc) (a',i,nc) (hcut _) ?_
   have hql:(q.take i).length=i:=by rw [List.length_take,Nat.min_eq_left (by omega)]
   refine zh (z8g rfl hU' hLc hql.symm (show i<=nc by omega) (hq.take i).fit (by omega)) ?_
   rintro e w2 ⟨rfl,hx2⟩
   obtain⟨g,hg⟩:∃ g,g=zfz L' (q.take i):=⟨_,rfl⟩
   rw [<-hg] at he |-
   refine⟨(_,_),rfl,?_⟩
   refine qkr g rfl fun w4 hw4=>?_
   have hx4:Ext [] W.heap w4.heap:=by rw [hw4];exact hx2.push_own
   cases g with
   | none=>
    refine jh rfl ?_
    refine qc (s:=.slc) (a',i,nc) (hcut _) ?_
    refine zh (zgg rfl (hLc.ext hx4 (by simp)) hql.symm (show i<=nc by omega) (by have:=(hq.take i).small;omega)) ?_
    rintro e w5 ⟨rfl,hx5⟩
    refine⟨_,rfl,?_⟩
    refine qc (s:=.any) _ (bI2 _ _) ?_
    have hx45:=hx4.trans hx5
    refine zh (qf4 (t:=x9 (q.take i)) (d:=[]) (k:=2) (o:=false) rfl (hU'.ext hx45 (by simp) (by simp))) ?_
    rintro e w6 ⟨rfl,hU6,hx6⟩
    refine⟨_,rfl,?_⟩
    exact⟨_,he,hU6,(hx.trans (hx45.mono (by simp))).trans hx6⟩
   | some g=>
    refine qp rfl ?_
    exact⟨L',he,hU'.ext hx4 (by simp) (by simp),hx.trans (hx4.mono (by simp))⟩
  ·rintro _ W' ⟨L2,h1,h2,h3⟩
   refine jr ((i+1:Nat):Int) (by omega) (by omega) (by omega) ?_
   exact hQ k _ _ (by omega) ⟨i+1,L2,rfl,by omega,by omega,h1,h2,h3⟩
 ·have hk0:k=0:=by omega
  subst hk0
  unfold zxd at he
  rw [<-he]
  exact⟨rfl,hU',hx⟩
def qkg (ls:List (List Fil)) (Lu:List Ino) (q:Path) (dir:Bool) (data:List UInt8) (L:List Ino):List Ino:=
 (qbx (zxd q (q.length-1) L) (x9 q) (if dir=true then 2 else 1) (dir&&zr4 ls Lu q) data).2
set_option maxHeartbeats 8000000 in
theorem qja {H0:Heap}{u p0 m0:Nat}{n0 b0:Int}{ls:List (List Fil)}{Lu:List Ino}(hU:zw6 H0 u p0 m0 n0 b0 ls Lu) (hls:ls.length<=1000000){w:World}{H:Heap}{p m n nc:Nat}{nn bb:Int}{L:List Ino}{a:Option Addr}{q:Path}{f:Fil}(hw:w.heap=H) (hx0:Ext [] H0 H) (hp0:H0.size<=p) (hm0:H0.size<=m)
  (hW:Up H p m nn bb L) (hL:Cells H a (strRow q)) (hap:∀ x,a=some x->strRow q≠[]->x.block∉[p,m]) (hn:n=q.length) (hnc:n<=nc) (hq:okP q) :
  qj P zfx #[.pointer (some ⟨u,0,none⟩),.pointer (some ⟨p,0,none⟩),.slice a n nc,.agg (zb6 f).toArray] w fun e w'=>e=.returned (.tuple #[])/\Up w'.heap p m nn bb (qkg ls Lu q f.dir f.data L)/\Ext [p,m] H w'.heap:=by
 have hplt:p < H.size/\m < H.size:=by obtain⟨_,_,h1,h2,_⟩:=hW;exact⟨lt_of_get h1,lt_of_get h2⟩
 refine zqw ?_
 unfold zlz
 refine ji hw fun w1 hw1=>?_
 have h7:w1.heap[H.size]?=some (.cells (zb6 f).toArray zn (0,0)):=by rw [hw1];exact zk
 have hx1:Ext [] H w1.heap:=by rw [hw1];exact .push _
 refine zh (l:=[]) (qfi rfl (hW.ext hx1 (by simp) (by simp)) (hL.ext hx1 (by simp)) hap hn hnc hq) ?_
 rintro e w2 ⟨rfl,hU2,hx2⟩
 refine⟨(),rfl,?_⟩
 refine vw rfl fun w3 hw3=>?_
 have hx13:Ext [p,m] w1.heap w3.heap:=by rw [hw3];exact hx2
 have hU3:Up w3.heap p m nn bb (zxd q (q.length-1) L):=by rw [hw3];exact hU2
 have h73:=hx13.get h7 (by simp;omega)
 have hxH3:Ext [p,m] H w3.heap:=(hx1.mono (by simp)).trans hx13
 have hL3:=hL.ext hxH3 hap
 have h03:Ext [] H0 w3.heap:=hx0.own hxH3 (fun b hb hlt=>by simp at hb;omega)
 refine jg (s:=.str) (t:=strOf f.data) rfl h73 rfl ?_
 have tail:∀ {W:World}{b8:Nat},Ext [] w3.heap W.heap->w3.heap.size<=b8->W.heap[b8]?=some (.cells (raw (x9 q) 1 false f.data).toArray zl (0,0))->Go.Fw.joinP Unit (fun k=>
   ld .bool (⟨H.size,1,none⟩:Addr) W fun (t18:Bool)=>
   qw t18 (
   ql P zbj #[(Value.pointer (some ⟨u,0,none⟩)),(Value.slice a n nc)] [.bool] false W fun (t21:Bool) w_7=>
   stC (⟨b8,1,none⟩:Addr) (Value.int .i64 2) w_7 fun w_8=>
   stC (⟨b8,2,none⟩:Addr) (Value.bool t21) w_8 fun w_9=>
   k () w_9) (
   k () W)) (fun _ w_10=>
   ldA P 4 (⟨b8,0,none⟩:Addr) w_10 fun t25=>
   ql P zby #[(Value.pointer (some ⟨p,0,none⟩)),(Value.agg t25)] [.int .i64] false w_10 fun (_:Int) w_11=>
   Ending.returned (.tuple #[])=.returned (.tuple #[])/\Up w_11.heap p m nn bb (qkg ls Lu q f.dir f.data L)/\Ext [p,m] H w_11.heap):=by
  intro W b8 hxW hb8 h8
  have hlt3:H.size < w3.heap.size:=lt_of_get h73
  refine joinP_of (fun _ W'=>Ext [] w3.heap W'.heap/\W'.heap[b8]?=some (.cells (raw (x9 q) (if f.dir=true then 2 else 1) (f.dir&&zr4 ls Lu q) f.data).toArray zl (0,0))) ?_ ?_
  ·refine jg (s:=.bool) (t:=f.dir) rfl (hxW.get h73 (by simp)) rfl ?_
   cases hd:f.dir with
   | false=>exact qp rfl ⟨hxW,h8⟩
   | true=>
    refine jh rfl ?_
    refine zh (qaf rfl (hU.ext (h03.trans hxW)) hls (hL3.ext hxW (by simp)) hn hnc hq) ?_
    rintro e w7 ⟨rfl,hx7⟩
    refine⟨_,rfl,?_⟩
    have h87:=hx7.get h8 (by simp)
    refine zb8 rfl h87 (by simp [raw]) fun w8 hw8=>?_
    have h88:w8.heap[b8]?=some (.cells (raw (x9 q) 2 false f.data).toArray zl (0,0)):=by rw [hw8];exact qy h87
    refine zb8 rfl h88 (by simp [raw]) fun w9 hw9=>?_
    refine⟨by rw [hw9,hw8];exact ((hxW.trans hx7).set_own (.inl hb8)).set_own (.inl hb8),by rw [hw9];exact qy h88⟩
  ·rintro _ w10 ⟨hx10,h810⟩
   refine xw rfl h810 rfl ?_
   refine zh (qf4 (t:=x9 q) (d:=f.data) (k:=if f.dir=true then 2 else 1) (o:=f.dir&&zr4 ls Lu q) rfl (hU3.ext hx10 (by simp) (by simp))) ?_
   rintro e w11 ⟨rfl,hU11,hx11⟩
   exact⟨_,rfl,rfl,hU11,(hxH3.trans (hx10.mono (by simp))).trans hx11⟩
 refine⟨?_,?_⟩
 ·refine zh (zgg rfl hL3 hn hnc (by have:=hq.small;omega)) ?_
  rintro e w4 ⟨rfl,hx4⟩
  refine⟨_,rfl,?_⟩
  refine⟨jg (s:=.str) (t:=strOf f.data) rfl (hx4.get h73 (by simp)) rfl rfl,?_⟩
  refine qc (s:=.any) _ (bI3 _ _ _) ?_
  rw [zcI]
  refine ji rfl fun w5 hw5=>?_
  have hx5:Ext [] w4.heap w5.heap:=by rw [hw5];exact .push _
  have h8:w5.heap[w4.heap.size]?=some (.cells (raw [] 0 false []).toArray zl (0,0)):=by rw [hw5];exact zk
  refine⟨qc (s:=.any) _ (bI3 _ _ _) rfl,jg (s:=.str) (t:=strOf f.data) rfl ((hx4.trans hx5).get h73 (by simp)) rfl rfl,?_⟩
  refine stI (vs:=raw (x9 q) 1 false f.data) rfl h8 rfl rfl zvz fun w6 hw6=>?_
  exact tail (by rw [hw6];exact (hx4.trans hx5).set_own (.inl hx4.1)) hx4.1 (by rw [hw6];exact qy h8)
 ·rw [zcI]
  refine ji rfl fun w5 hw5=>?_
  have hx5:Ext [] w3.heap w5.heap:=by rw [hw5];exact .push _
  have h8:w5.heap[w3.heap.size]?=some (.cells (raw [] 0 false []).toArray zl (0,0)):=by rw [hw5];exact zk
  refine⟨jg (s:=.str) (t:=strOf f.data) rfl (hx5.get h73 (by simp)) rfl rfl,?_⟩
  refine zh (zgg rfl (hL3.ext hx5 (by simp)) hn hnc (by have:=hq.small;omega)) ?_
  rintro e w4 ⟨rfl,hx4⟩
  refine⟨_,rfl,?_⟩
  refine⟨jg (s:=.str) (t:=strOf f.data) rfl ((hx5.trans hx4).get h73 (by simp)) rfl rfl,?_⟩
  refine qc (s:=.any) _ (bI3 _ _ _) ?_
  have h84:=hx4.get h8 (by simp)
  refine stI (vs:=raw (x9 q) 1 false f.data) rfl h84 rfl rfl zvz fun w6 hw6=>?_
  exact tail (by rw [hw6];exact (hx5.trans hx4).set_own (.inl (Nat.le_refl _))) (Nat.le_refl _) (by rw [hw6];exact qy h84)
theorem z2d {w:World}{t k e:TypeId}{m:Option Nat}(d:Nat) (h:P.underlying t=some (.map k e)):(Op.equalIn (d+1) t (.map m) (.map none)).run P w=.ok m.isNone w:=by
 cases m <;> simp [Op.equalIn,xu h]
theorem qgv {w:World}{x y:Operand}{t k e:TypeId}{m:Option Nat}(h:P.underlying t=some (.map k e)):(eqM .eql t x y (.map m) (.map none)).run P w=.ok (.bool m.isNone) w:=by
 have hg:(eqGuard .eql t x y (.map m) (.map none)).run P w=.ok () w:=by unfold eqGuard;split <;> rfl
 have he:(Op.equal t (.map m) (.map none)).run P w=.ok m.isNone w:=z2d 9999 h
 simp only [eqM,Sem.run_bind,hg,Result.andThen_ok,binOp,he,Sem.run_pure]
theorem qc8 {w:World}{H:Heap}{m:Nat}{es:Array MapEntry}{c:Nat}(hw:w.heap=H) (hm:H[m]?=some (.map es c)) :
  qj P zax #[.map (some m)] w fun e w'=>e=.returned (.map (some H.size))/\w'.heap=H.push (.map es c):=by
 refine zdq ?_
 unfold zbs
 refine qc (s:=.bool) _ (qgv uM) ?_
 refine qp rfl ?_
 refine qc (s:=.any) (.iface je (.map (some m))) (by simp [Instr.makeInterface,xu uM];rfl) ?_
 have hrun:(Extern.MapsClone.clone #[.iface je (.map (some m))]).run P w=.ok (.iface je (.map (some H.size))) { w with heap:=H.push (.map es c) }:=by
  have hcl:Extern.MapsClone.clone #[.iface je (.map (some m))]=(getObj m >>= fun x=>match x with
   | .map entries clock=>(newObj (.map entries clock) >>= fun r=>pure (.iface je (.map (some r))))
   | _=>stuck "maps.clone: a map expected"):=rfl
  rw [hcl]
  simp only [Sem.run_bind,z5d hw hm (by intros;simp),Result.andThen_ok]
  subst hw
  simp
 refine zl1 (l:=[.any]) (.iface je (.map (some H.size))) { w with heap:=H.push (.map es c) } (by rw [z2p (e:=Extern.MapsClone.clone) (by kernel_rfl),hrun];rfl) ⟨rfl,rfl,rfl,Nat.le_refl _⟩ ?_
 refine qc (s:=.map) (some H.size) (by simp [Instr.typeAssert,xu uM];rfl) ?_
 exact⟨rfl,rfl⟩
theorem zcU:(zc P zbl).size=4:=by kernel_rfl
theorem szU:P.cellsOf zbl=4:=by kernel_rfl
theorem zsn {w:World}{H:Heap}{p m:Nat}{nn bb:Int}{L:List Ino}(hw:w.heap=H) (hU:Up H p m nn bb L) :
  qj P zcs #[.pointer (some ⟨p,0,none⟩)] w fun e w'=>∃ p' m',e=.returned (.pointer (some ⟨p',0,none⟩))/\Up w'.heap p' m' nn bb L/\Ext [] H w'.heap/\H.size<=p'/\H.size<=m':=by
 obtain⟨M,c,h1,h2,h3,h4⟩:=hU
 refine zo1 ?_
 unfold zj1
 refine qp rfl ?_
 simp only [jc]
 refine xw hw h1 rfl ?_
 refine zxp (v:=.agg #[.int .i64 nn,.int .i64 bb,.int .i64 (tot L:Int),.map (some m)]) szU zcU (by simp [Value.cells]) (by intro v hv;simp [Value.cells] at hv;rcases hv with rfl | rfl | rfl | rfl <;> rfl) hw fun w2 hw2=>?_
 have hx2:Ext [] H w2.heap:=by rw [hw2];exact .push _
 have hb2:w2.heap[H.size]?=some (.cells #[.int .i64 nn,.int .i64 bb,.int .i64 (tot L:Int),.map (some m)] zbl (0,0)):=by rw [hw2];exact zk
 simp only [zan,Nat.zero_add]
 refine jg (s:=.map) (t:=some m) rfl (hx2.get h1 (by simp)) rfl ?_
 refine zh (qc8 rfl (hx2.get h2 (by simp))) ?_
 rintro e w3 ⟨rfl,hw3⟩
 refine⟨some w2.heap.size,rfl,?_⟩
 have hx3:Ext [] w2.heap w3.heap:=by rw [hw3];exact .push _
 have hm3:w3.heap[w2.heap.size]?=some (.map (ents keyS (vl qe2 M)) c):=by rw [hw3];exact zk
 have hb3:=hx3.get hb2 (by simp)
 refine zb8 rfl hb3 (by simp) fun w4 hw4=>?_
 have hlt:=lt_of_get hb2
 refine⟨H.size,w2.heap.size,rfl,⟨M,c,by rw [hw4];exact qy hb3,by rw [hw4];exact zd8 hm3 (by omega),h3,h4⟩,?_,Nat.le_refl _,by omega⟩
 rw [hw4]
 exact (hx2.trans hx3).set_own (.inl (Nat.le_refl _))
theorem qmz:P.underlying zfo=some (.interface #[("Error",252)]):=by kernel_rfl
theorem uEn:P.underlying jd=some (.int .i64):=by kernel_rfl
abbrev qbj (e:Int):Value:=.iface jd (.int .i64 e)
abbrev qhl (b:Nat):Value:=.iface zbu (.pointer (some ⟨b,0,none⟩))
theorem qbq (d:Nat) (t:TypeId) (v:Value){w:World}:(Op.equalIn (d+1) zfo (.iface t v) .nilIface).run P w=.ok false w:=by simp [Op.equalIn,xu qmz]
theorem eq_nil (t:TypeId) (v:Value){x:Operand}{w:World}:(eqM .eql zfo x (.const Value.nilIface) (.iface t v) Value.nilIface).run P w=.ok (.bool false) w:=by
 have hg:(eqGuard .eql zfo x (.const Value.nilIface) (.iface t v) Value.nilIface).run P w=.ok () w:=by unfold eqGuard;rfl
 have he:(Op.equal zfo (.iface t v) .nilIface).run P w=.ok false w:=qbq 9999 t v
 simp only [eqM,Sem.run_bind,hg,Result.andThen_ok,binOp,he,Sem.run_pure]
theorem qm9 (e:Int) (w:World):(Instr.makeInterface jd (.int .i64 e)).run P w=.ok (qbj e) w:=by kernel_rfl
theorem qna (b:Nat) (w:World):(Instr.makeInterface zbu (.pointer (some ⟨b,0,none⟩))).run P w=.ok (qhl b) w:=by kernel_rfl
theorem bFl (o p:ByteArray) (e:Int) (w:World):(Instr.build zer #[(0,.string o),(1,.string p),(2,qbj e)]).run P w=.ok (.agg #[.string o,.string p,qbj e]) w:=by kernel_rfl
def qf9 (H:Heap) (v:Value) (e:Int):Prop:=(e=0/\v=.nilIface)\/(e≠0/\∃ b o p,v=qhl b/\H[b]?=some (.cells #[o,p,qbj e] zer (0,0)))
theorem qe6 {w:World}{H:Heap}(o p:ByteArray) (e:Int) (hw:w.heap=H):qj P zp3 #[.string o,.string p,.int .i64 e] w fun r w'=>∃ v,r=.returned v/\qf9 w'.heap v e/\Ext [] H w'.heap:=by
 refine z2e ?_
 unfold zwk
 refine zba (fun h=>⟨_,rfl,.inl ⟨h,rfl⟩,by rw [hw];exact .refl _ _⟩) (fun h=>?_)
 refine qc (s:=.any) _ (qm9 _ _) ?_
 refine qc (s:=.any) _ (bFl _ _ _ _) ?_
 refine ji hw fun w2 hw2=>?_
 refine qc (s:=.any) _ (qna _ _) ?_
 exact⟨_,rfl,.inr ⟨h,H.size,_,_,rfl,by rw [hw2];exact zk⟩,by rw [hw2];exact .push _⟩
theorem z9j (v:Value) (xT:TypeId) (w:World):(Instr.typeAssert (.iface zbu v) xT zg5 true).run P w=.ok (.tuple #[.iface zbu v,.bool true]) w:=
 run_typeAssert_hasB (want:=#[("Unwrap",283)]) (by kernel_rfl) (by kernel_rfl) v xT w
theorem zq8 {t:TypeId}{v:Value}{name:String}{f:FuncId}{args:Array Value}{w:World}(hm:(Go.method (P.types.size+Made.depth) t v name).run P w=.ok (f,v) w):(callMethod (.iface t v) name args).run P w=(callFunc f (#[v]++args)).run P w:=by
 simp only [callMethod,Sem.run_bind]
 rw [show Sem.run P program w=.ok P w from rfl]
 simp only [Result.andThen_ok]
 rw [hm]
 simp only [Result.andThen_ok]
theorem qgi (v:Value) (w:World):(Go.method (P.types.size+Made.depth) zbu v "Unwrap").run P w=.ok (zeg,v) w:=by kernel_rfl
theorem z5m {w:World}{H:Heap}{b:Nat}{o p v:Value}(hw:w.heap=H) (hb:H[b]?=some (.cells #[o,p,v] zer (0,0))) :
  qj P zeg #[.pointer (some ⟨b,0,none⟩)] w fun e w'=>e=.returned v/\w'=w:=by
 refine zn5 ?_
 unfold zjj
 simp only [jc,Addr.add,Nat.zero_add,Option.map_none]
 exact jg (s:=.any) (t:=v) hw hb rfl ⟨rfl,trivial⟩
theorem qnv (e:Int) (w:World):(Extern.ReflectliteType.typeOf #[qbj e]).run P w=.ok (.iface za9 (.agg #[.pointer (some ⟨P.globals.size,jd,none⟩)])) w:=by kernel_rfl
theorem z9e.to {H H':Heap}{u p:Nat}{pu:Value}{ls:List (List Fil)}(h:z9e H u (upP p) ls) (hx:Ext [u] H H') (hc:∀ x,H[u]?=some (.cells #[zdr x,upP p] zcw (0,0))->H'[u]?=some (.cells #[zdr x,pu] zcw (0,0))):z9e H' u pu ls:=by
 obtain⟨x,ms,h1,h2,h3,h4,h5⟩:=h
 refine⟨x,ms,hc x h1,?_,h3,h4,fun i m hi=>?_⟩
 ·rcases h2 with h | ⟨b,o,c,T,fr,hx',hb,hs,he⟩
  ·exact .inl h
  ·by_cases hbu:b=u
   ·subst hbu
    rw [h1] at hb
    simp only [Option.some.injEq,Obj.cells.injEq] at hb
    obtain⟨rfl,_,_⟩:=hb
    cases ms with
    | nil=>exact .inl rfl
    | cons m ms=>
     exfalso
     simp only [List.map_cons,List.length_cons,List.size_toArray,List.length_nil] at hs he
     have h0:=congrArg (fun l=>l[0]?) he
     rw [Array.getElem?_toList,Array.getElem?_extract,if_pos (by simp;omega)] at h0
     simp only [List.getElem?_cons_zero,Nat.add_zero] at h0
     match o with
     | 0=>simp [zdr,qcq] at h0
     | 1=>simp [qcq,upP] at h0
     | o+2=>simp at h0
   ·exact .inr ⟨b,o,c,T,fr,hx',hx.get hb (by simpa using hbu),hs,he⟩
 ·obtain⟨M,c,g1,g2⟩:=h5 i m hi
  exact⟨M,c,hx.get g1 (by simp;rintro rfl;rw [h1] at g1;cases g1),g2⟩
theorem z9e.free {H H':Heap}{u b:Nat}{pu:Value}{ls:List (List Fil)}{c:Array Value}{T:TypeId}{f:Nat×Nat}(h:z9e H u pu ls) (hb:H[b]?=some (.cells c T f)) (hc:∀ (i:Nat) m,c[i]?≠some (Value.map m)) (hx:Ext [b] H H') (hbu:b≠u):z9e H' u pu ls:=by
 obtain⟨x,ms,h1,h2,h3,h4,h5⟩:=h
 refine⟨x,ms,hx.get h1 (by simp;exact fun e=>hbu e.symm),?_,h3,h4,fun i m hi=>?_⟩
 ·rcases h2 with h | ⟨b',o,c',T',fr,hx',hb',hs,he⟩
  ·exact .inl h
  ·by_cases hbb:b'=b
   ·subst hbb
    rw [hb] at hb'
    simp only [Option.some.injEq,Obj.cells.injEq] at hb'
    obtain⟨rfl,_,_⟩:=hb'
    cases ms with
    | nil=>exact .inl rfl
    | cons m ms=>
     exfalso
     have h0:=congrArg (fun l=>l[0]?) he
     rw [Array.getElem?_toList,Array.getElem?_extract,if_pos (by simp at hs |-;omega)] at h0
     exact hc _ _ h0
   ·exact .inr ⟨b',o,c',T',fr,hx',hx.get hb' (by simpa using hbb),hs,he⟩
 ·obtain⟨M,c',g1,g2⟩:=h5 i m hi
  exact⟨M,c',hx.get g1 (by simp;rintro rfl;rw [hb] at g1;cases g1),g2⟩
theorem zw6.free {H H':Heap}{u p m b:Nat}{nn bb:Int}{ls:List (List Fil)}{L:List Ino}{c:Array Value}{T:TypeId}{f:Nat×Nat}(h:zw6 H u p m nn bb ls L) (hb:H[b]?=some (.cells c T f)) (hc:∀ (i:Nat) m,c[i]?≠some (Value.map m)) (hT:T≠zbl) (hx:Ext [b] H H') (hbu:b≠u):zw6 H' u p m nn bb ls L:=by
 refine⟨h.1.free hb hc hx hbu,h.2.ext hx ?_ ?_⟩
 ·obtain⟨_,_,g1,g2,_⟩:=h.2
  simp only [List.mem_singleton];rintro rfl
  rw [hb] at g1
  simp only [Option.some.injEq,Obj.cells.injEq] at g1
  exact hT g1.2.1
 ·obtain⟨_,_,g1,g2,_⟩:=h.2
  simp only [List.mem_singleton];rintro rfl
  rw [hb] at g2
  cases g2
theorem qah {r:ResR}:∀ (i:Nat) m,(zsg r).toArray[i]?≠some (Value.map m):=by
 intro i m h
 match i with
 | 0 | 1 | 2 | 3 | 4=>simp [zsg] at h
 | i+5=>simp [zsg] at h
theorem qf9.ext {H H':Heap}{v:Value}{e:Int}(h:qf9 H v e) (hx:Ext [] H H'):qf9 H' v e:=by
 rcases h with h | ⟨h,b,o,p,hv,hb⟩
 ·exact .inl h
 ·exact .inr ⟨h,b,o,p,hv,hx.get hb (by simp)⟩
def z02 (Th:List Fil) (o:OpR) (r:ResR) (Th':List Fil):Prop:=
 ∀ {w:World}{H:Heap}{b m:Nat},w.heap=H->FsW H b m Th->b≠m->qj P zhx #[.pointer (some ⟨b,0,none⟩),opV o] w fun e w'=>e=.returned (resV r)/\Ext [m] H w'.heap/\FsW w'.heap b m Th'
def zsk (ls:List (List Fil)) (L:List Ino) (o:OpR) (Th:List Fil) (L':List Ino):Prop:=
 ∀ {H0:Heap}{u p0 m0:Nat}{n0 b0:Int},zw6 H0 u p0 m0 n0 b0 ls L->∀ {w:World}{H:Heap}{p m b mb:Nat}{nn bb:Int},w.heap=H->Ext [] H0 H->H0.size<=p->H0.size<=m->Up H p m nn bb L->FsW H b mb Th->b≠mb ->
  qj P zf8 #[.pointer (some ⟨u,0,none⟩),.pointer (some ⟨p,0,none⟩),opV o,.pointer (some ⟨b,0,none⟩)] w fun e w'=>e=.returned (.tuple #[])/\Up w'.heap p m nn bb L'/\Ext [p,m] H w'.heap
set_option maxHeartbeats 8000000 in
theorem qky {w:World}{H:Heap}{u p m:Nat}{nn bb:Int}{ls:List (List Fil)}{L L':List Ino}{o:OpR}{r:ResR}{Th':List Fil}(hw:w.heap=H) (hU:zw6 H u p m nn bb ls L) (hls:LsOK ls) (hT:TreeF (zni ls L))
  (hP:z02 (zib :: zni ls L) o r Th') (hC:r.code≠0/\L'=L\/r.code=0/\(o.k=3\/o.k=5)/\z0o nn bb L'=false/\zsk ls L o Th' L') :
  qj P zgi #[.pointer (some ⟨u,0,none⟩),opV o] w fun e w'=>e=.returned (resV r)/\Ext [u] H w'.heap/\∃ p' m',zw6 w'.heap u p' m' nn bb ls L':=by
 have hf4:=hls.few
 have hult:u < H.size:=by obtain⟨_,_,h,_⟩:=hU.1;exact lt_of_get h
 have hsm:(zni ls L).length<=4000:=z5j hls (by obtain⟨_,_,_,_,_,hst⟩:=hU.2;exact hst.good.many) 9 [] .root
 refine zls ?_
 unfold zi5
 refine ji hw fun w1 hw1=>?_
 refine ji rfl fun w2 hw2=>?_
 have e1:w1.heap.size=H.size+1:=by rw [hw1];simp
 have h3:w2.heap[H.size]?=some (.cells (opC o).toArray jk (0,0)):=by rw [hw2,hw1];exact za1 zk
 have h4:w2.heap[H.size+1]?=some (.cells (zsg res0).toArray zq (0,0)):=by rw [hw2,<-e1,qar];exact zk
 have hx2:Ext [] H w2.heap:=by rw [hw2,hw1];exact (Ext.push _).push_own
 have e2:w2.heap.size=H.size+2:=by rw [hw2];simp [e1]
 rw [e1]
 refine qp rfl ?_
 refine zh (qgl rfl (hU.ext hx2) hls) ?_
 rintro e w4 ⟨y,rfl,hY,hx4⟩
 refine⟨y,rfl,?_⟩
 refine zh (qjv rfl hY (by omega) hT) ?_
 rintro e w5 ⟨b,mp,rfl,hF,hx5,hb5,hm5⟩
 refine⟨(_,_),rfl,?_⟩
 have hx25:=hx4.trans hx5
 have h35:=hx25.get h3 (by simp)
 refine xw rfl h35 rfl ?_
 have hbm:b≠mp:=by
  rintro rfl
  obtain⟨h1,M,c,h2,_⟩:=hF
  rw [h1] at h2;cases h2
 refine zh (hP rfl hF hbm) ?_
 rintro e w6 ⟨rfl,hx6,hF6⟩
 refine⟨_,rfl,?_⟩
 have hx26:Ext [] w2.heap w6.heap:=hx25.own hx6 (fun c hc hlt=>by have:=hx4.1;simp at hc;omega)
 refine z8n r rfl fun w8 hw8=>?_
 have hx8:Ext [] w6.heap w8.heap:=by rw [hw8];exact .push _
 have h7:w8.heap[w6.heap.size]?=some (.cells (zsg r).toArray zq (0,0)):=by rw [hw8];exact zk
 have hx28:=hx26.trans hx8
 have hx08:=hx2.trans hx28
 have h38:=hx28.get h3 (by simp)
 have h48:=hx28.get h4 (by simp)
 have hle:H.size+2<=w6.heap.size:=by have:=hx26.1;omega
 refine joinP_of (fun _ w'=>w'.heap=w8.heap/\r.code=0) ?_ ?_
 ·refine jg (s:=.int .i64) (t:=r.code) rfl h7 rfl ?_
  refine zbr (fun h=>?_) (fun h=>?_)
  ·refine xw rfl h7 rfl ?_
   refine qaw r rfl h48 rfl fun w9 hw9=>?_
   refine xw rfl (by rw [hw9];exact qy h48) rfl ?_
   obtain⟨_,rfl⟩:r.code≠0/\L'=L:=by
    rcases hC with hC | hC
    ·exact hC
    ·exact absurd hC.1 h
   have hx9:Ext [] H w9.heap:=by rw [hw9];exact hx08.set_own (.inl (by omega))
   exact⟨rfl,hx9.mono (by simp),p,m,hU.ext hx9⟩
  ·have hk:o.k=3\/o.k=5:=by
    rcases hC with hC | hC
    ·exact absurd h hC.1
    ·exact hC.2.1
   refine jg (s:=.int .i64) (t:=o.k) rfl h38 rfl ?_
   refine zh (qgk o.k) ?_
   rintro r' w10 ⟨rfl,rfl⟩
   refine⟨_,rfl,?_⟩
   refine qp (by rcases hk with hk | hk <;> rw [hk] <;> rfl) ?_
   refine jg (s:=.int .i64) (t:=o.k) rfl h38 rfl ?_
   exact qp (by rcases hk with hk | hk <;> rw [hk] <;> rfl) ⟨rfl,h⟩
 rintro _ w13 ⟨hw13,he0⟩
 obtain⟨_,_,ho,hCh⟩:r.code=0/\(o.k=3\/o.k=5)/\z0o nn bb L'=false/\zsk ls L o Th' L':=by
  rcases hC with hC | hC
  ·exact absurd he0 hC.1
  ·exact hC
 have hF13:FsW w13.heap b mp Th':=by rw [hw13];exact hF6.ext hx8
 rw [<-hw13] at h38 h48 h7 hx08
 have hU13:=hU.ext hx08
 obtain⟨xl,ms,u1,u2⟩:=id hU13.1
 simp only [jc,Addr.add,Nat.zero_add,Option.map_none]
 refine jg (s:=.ptr) (t:=some ⟨p,0,none⟩) rfl u1 rfl ?_
 refine zh (zsn rfl hU13.2) ?_
 rintro e w14 ⟨p',m',rfl,hU14,hx14,hp',hm'⟩
 refine⟨_,rfl,?_⟩
 refine xw rfl (hx14.get h38 (by simp)) rfl ?_
 have hle13:H.size+2<=w13.heap.size:=by have:=lt_of_get h7;have:=hx08.1;omega
 refine zh (l:=[]) (hCh hU rfl (hx08.trans hx14) (by omega) (by omega) hU14 (hF13.ext hx14) hbm) ?_
 rintro e w15 ⟨rfl,hU15,hx15⟩
 refine⟨(),rfl,?_⟩
 refine zh (qht rfl hU15) ?_
 rintro e w16 ⟨rfl,hw16⟩
 refine⟨_,rfl,?_⟩
 have hx1316:Ext [] w13.heap w16.heap:=by rw [hw16];exact hx14.own hx15 (fun c hc hlt=>by simp at hc;omega)
 have h416:=hx1316.get h48 (by simp)
 have h716:=hx1316.get h7 (by simp)
 have hx016:=hx08.trans hx1316
 have hU16:Up w16.heap p' m' nn bb (L'):=by rw [hw16];exact hU15
 refine qp ho ?_
 obtain⟨x16,ms16,v1,_⟩:=id hU.1
 have v16:=hx016.get v1 (by simp)
 refine zb8 rfl v16 (by simp) fun w18 hw18=>?_
 have hx18:Ext [u] w16.heap w18.heap:=by rw [hw18];exact Ext.set _ (by simp)
 have h418:=hx18.get h416 (by simp;omega)
 have hl7:=lt_of_get h7
 refine xw rfl (hx18.get h716 (by simp;omega)) rfl ?_
 refine qaw r rfl h418 rfl fun w19 hw19=>?_
 refine xw rfl (by rw [hw19];exact qy h418) rfl ?_
 have hx19:Ext [H.size+1] w18.heap w19.heap:=by rw [hw19];exact Ext.set _ (by simp)
 have hxu:Ext [u] H w19.heap:=((hx016.mono (by simp)).trans hx18).own hx19 (fun c hc hlt=>by simp at hc;omega)
 have hu18:Up w18.heap p' m' nn bb (L'):=hU16.ext hx18 (by simp;omega) (by simp;omega)
 refine⟨rfl,hxu,p',m',hU.1.to hxu (fun x hx=>?_),hu18.ext hx19 (by simp;omega) (by simp;omega)⟩
 rw [v1] at hx
 simp only [Option.some.injEq,Obj.cells.injEq,Array.mk.injEq,List.cons.injEq,and_true] at hx
 rw [<-hx]
 refine hx19.get ?_ (by simp;omega)
 rw [hw18];exact qy v16
set_option maxHeartbeats 4000000 in
theorem qg9 {w:World}{H:Heap}{u p m:Nat}{nn bb:Int}{ls:List (List Fil)}{L L':List Ino}{o:OpR}{r:ResR}{Th':List Fil}(hw:w.heap=H) (hU:zw6 H u p m nn bb ls L) (hls:LsOK ls) (hT:TreeF (zni ls L))
  (hP:z02 (zib :: zni ls L) o r Th') (hC:r.code≠0/\L'=L\/r.code=0/\(o.k=3\/o.k=5)/\z0o nn bb L'=false/\zsk ls L o Th' L') :
  qj P zda #[.pointer (some ⟨u,0,none⟩),opV o] w fun e w'=>∃ v,e=.returned (.tuple #[resV r,v])/\qf9 w'.heap v r.code/\Ext [u] H w'.heap/\∃ p' m',zw6 w'.heap u p' m' nn bb ls L':=by
 have hult:u < H.size:=by obtain⟨_,_,h,_⟩:=hU.1;exact lt_of_get h
 refine zlm ?_
 unfold zi0
 refine ji hw fun w1 hw1=>?_
 refine ji rfl fun w2 hw2=>?_
 have e1:w1.heap.size=H.size+1:=by rw [hw1];simp
 have h3:w2.heap[H.size]?=some (.cells (opC o).toArray jk (0,0)):=by rw [hw2,hw1];exact za1 zk
 have h4:w2.heap[H.size+1]?=some (.cells (zsg res0).toArray zq (0,0)):=by rw [hw2,<-e1,qar];exact zk
 have hx2:Ext [] H w2.heap:=by rw [hw2,hw1];exact (Ext.push _).push_own
 rw [e1]
 refine xw rfl h3 rfl ?_
 refine zh (qky rfl (hU.ext hx2) hls hT hP hC) ?_
 rintro e w3 ⟨rfl,hx3,p',m',hU3⟩
 refine⟨_,rfl,?_⟩
 have h33:=hx3.get h3 (by simp;omega)
 have h43:=hx3.get h4 (by simp;omega)
 refine z8n r rfl fun w5 hw5=>?_
 have h6:w5.heap[w3.heap.size]?=some (.cells (zsg r).toArray zq (0,0)):=by rw [hw5];exact zk
 have hx35:Ext [] w3.heap w5.heap:=by rw [hw5];exact .push _
 refine vw rfl fun w6 hw6=>?_
 have hx36:Ext [] w3.heap w6.heap:=by rw [hw6];exact hx35
 rw [<-hw6] at h6
 refine xw rfl h6 rfl ?_
 refine jg (s:=.int .i64) (t:=o.k) rfl (hx36.get h33 (by simp)) rfl ?_
 refine jg (s:=.str) (t:=strOf o.p) rfl (hx36.get h33 (by simp)) rfl ?_
 refine jg (s:=.int .i64) (t:=r.code) rfl h6 rfl ?_
 refine zh (qfc o.k rfl) ?_
 rintro e w7 ⟨s,rfl,hx7⟩
 refine⟨_,rfl,?_⟩
 have h67:=hx7.get h6 (by simp)
 refine⟨jg (s:=.int .i64) (t:=r.code) rfl h67 rfl rfl,jg (s:=.str) (t:=strOf o.p) rfl ((hx36.trans hx7).get h33 (by simp)) rfl rfl,xw rfl h67 rfl rfl,?_⟩
 refine zh (qe6 s (strOf o.p) r.code rfl) ?_
 rintro e w8 ⟨v,rfl,hv,hx8⟩
 refine⟨v,rfl,?_⟩
 refine⟨xw rfl (hx8.get h67 (by simp)) rfl rfl,?_⟩
 have hx38:=(hx36.trans hx7).trans hx8
 have h48:=hx38.get h43 (by simp)
 refine qaw r rfl h48 rfl fun w9 hw9=>?_
 refine xw rfl (by rw [hw9];exact qy h48) rfl ?_
 have hU8:=hU3.ext hx38
 have hx9:Ext [H.size+1] w8.heap w9.heap:=by rw [hw9];exact Ext.set _ (by simp)
 have hxu:Ext [u] w3.heap w8.heap:=hx38.mono (by simp)
 refine⟨v,rfl,?_,((hx2.mono (by simp)).trans (hx3.trans hxu)).own hx9 (fun c hc hlt=>by simp at hc;omega),p',m',?_⟩
 ·rcases hv with h | ⟨h,b,oo,pp,hvv,hb⟩
  ·exact .inl h
  ·refine .inr ⟨h,b,oo,pp,hvv,hx9.get hb ?_⟩
   simp only [List.mem_singleton]
   rintro rfl
   rw [h48] at hb
   simp only [Option.some.injEq,Obj.cells.injEq] at hb
   exact absurd hb.2.1 (by decide)
 ·exact zw6.free hU8 h48 qah (by decide) hx9 (by omega)
end Go.Proofs.YthaaekcaaecdeaaGreatDoor
