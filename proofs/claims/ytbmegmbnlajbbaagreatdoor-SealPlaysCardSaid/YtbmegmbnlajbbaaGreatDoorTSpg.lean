/- Part 7 of the texts below the card, joined. -/
import Derived.Test.YtbmegmbnlajbbaaGreatDoorTSpf
import Derived.Laws.StructEq
import Derived.Test.YtbmegmbnlajbbaaGreatDoorTSpc
import Derived.Test.YtbmegmbnlajbbaaGreatDoorTSpa
import Derived.WalkKit
import Derived.ProofKit
import Derived.OpenShut
import Derived.Deep.DeepHandedRow
import Derived.Lib.LaidTab
import Derived.Carry
import Derived.Test.YtbmegmbnlajbbaaGreatDoorCards
import Derived.Test.YtbmegmbnlajbbaaGreatDoorTie
import Derived.Test.YtbmegmbnlajbbaaGreatDoorTSpe
import Derived.Laws.Runes
namespace Go.Proofs.YtbmegmbnlajbbaaGreatDoor
open Go Go.Fw Go.Proofs Go.Sort
theorem qmz {ys:List NR} {i:Nat} (hi:i≤ys.length):(ys.flatMap encR).take (i * 1)=(ys.take i).flatMap encR:=by
 simp [qcf,List.map_take]
theorem Seen.none {H:Heap} {a:Option Addr} {x:Option Addr × Nat × Nat} {ys:List NR} {L:List Fil} (h:Seen H a x ys L) {i:Nat} {p:Path} (hno:∀ y ∈ ys.take i,y.2 ≠ p):∀ g ∈ L.take i,nm g ≠ p:=by
 intro g hg e
 have h1:(ys.take i).map (·.2)=(L.take i).map nm:=by rw [List.map_take,h.eq,List.map_take]
 have:p ∈ (ys.take i).map (·.2):=by rw [h1];exact List.mem_map.2 ⟨g,hg,e⟩
 obtain ⟨y,hy,e2⟩:=List.mem_map.1 this
 exact hno y hy e2
theorem Seen.at {H:Heap} {a:Option Addr} {x:Option Addr × Nat × Nat} {ys:List NR} {L:List Fil} (h:Seen H a x ys L) {j:Nat} {y:NR} (hy:ys[j]?=some y):∃ g,L[j]?=some g∧nm g=y.2:=by
 have h1:(ys.map (·.2))[j]?=(L.map nm)[j]?:=by rw [h.eq]
 rw [List.getElem?_map,List.getElem?_map,hy] at h1
 cases hg:L[j]? with
 | none=>rw [hg] at h1;cases h1
 | some g =>
  rw [hg] at h1
  simp only [Option.map_some,Option.some.injEq] at h1
  exact ⟨g,rfl,h1.symm⟩
theorem Seen.small {H:Heap} {a:Option Addr} {x:Option Addr × Nat × Nat} {ys:List NR} {L:List Fil} (h:Seen H a x ys L):∀ y ∈ ys,y.2.length≤8:=by
 intro y hy
 have:y.2 ∈ L.map nm:=by rw [← h.eq];exact List.mem_map.2 ⟨y,hy,rfl⟩
 obtain ⟨g,_,e⟩:=List.mem_map.1 this
 rw [← e];exact (zli g).2
theorem Seen.count {H:Heap} {a:Option Addr} {x:Option Addr × Nat × Nat} {ys:List NR} {L:List Fil} (h:Seen H a x ys L):ys.length=L.length:=by
 have:=congrArg List.length h.eq
 simpa using this
set_option maxHeartbeats 4000000 in
theorem qma {w:World} {H:Heap} {a:Option Addr} {n:Nat} {x:Option Addr × Nat × Nat} {ys:List NR} {L:List Fil} (hw:w.heap=H) (hN:Seen H a x ys L) (hn:n=L.length) (hm:L.length≤65536) {Rb Rn:World→Prop}
  (hb:z1h L→∀ w',w'.heap=H→Rb w') (hno:¬ z1h L→∀ w',w'.heap=H→Rn w') :
  zaw Int (fun s_5 w_9 k_5 =>
  xk (decide (s_5 < (n:Int))) (
  Go.Fw.joinP Unit (fun k_6 =>
  Go.Fw.joinP Unit (fun k_7 =>
  zbi w_9 fun w_10 =>
  ixS x.1 x.2.1 1 s_5 fun t83 =>
  ld .slc t83 w_10 fun (t84:(Option Addr × Nat × Nat)) =>
  xk ((t84.2.1:Int) == 0) (
  Rb w_10) (
  ixS x.1 x.2.1 1 s_5 fun t93 =>
  zaz P (Instr.sliceAt zb6 (Value.slice x.1 x.2.1 x.2.2) none (some (Value.int .i64 s_5)) none) .slc w_10 fun (t90:(Option Addr × Nat × Nat)) =>
  ld .slc t93 w_10 fun (t94:(Option Addr × Nat × Nat)) =>
  xg P zic #[(Value.slice t90.1 t90.2.1 t90.2.2),(Value.slice t94.1 t94.2.1 t94.2.2)] [.int .i64] false w_10 fun (t95:Int) w_11 =>
  xk (decide (t95 ≥ 0)) (
  Rb w_11) (
  k_7 () w_11))) (fun _ w_12 =>
  k_6 () w_12)) (fun _ w_13 =>
  zba .i64 s_5 1 fun t80 =>
  k_5 t80 w_13)) (
  Rn w_9)) 0 w:=by
 have hyl:=hN.count
 refine jd (fun (s:Int) W=>∃ i:Nat,s=(i:Int)∧i≤L.length∧W.heap=H∧∀ j (h:j < L.length),j < i→nm L[j] ≠ []∧∀ g ∈ L.take j,nm g ≠ nm L[j]) (fun s _=>(L.length - s).toNat) ⟨0,rfl,Nat.zero_le _,hw,by omega⟩ ?_
 rintro _ W ⟨i,rfl,hi,hW,hok⟩
 refine zq (fun hlt=>?_) (fun hge=>?_)
 ·have hil:i < L.length:=by omega
  have hget:=List.getElem?_eq_getElem hil
  generalize hf:L[i]=f at hget
  refine zac (zac ?_)
  refine jw hW fun w10 hw10=>?_
  refine zl1 (i:=i) hN.cells hN.len hN.path hN.eq hget rfl fun b o c T fr z hbb hc hp=>?_
  refine jh (s:=.slc) (t:=z) hw10 hbb hc ?_
  have hzl:=hp.len
  refine zb3 (fun h0=>?_) (fun h0=>?_)
  ·exact hb ⟨i,hil,.inl (by rw [hf];exact List.length_eq_zero_iff.1 (by omega))⟩ _ hw10
  refine zl1 (i:=i) hN.cells hN.len hN.path hN.eq hget rfl fun b2 o2 c2 T2 fr2 z2 hbb2 hc2 hp2=>?_
  have hz2l:=hp2.len
  obtain ⟨a1,r1,c1⟩:=qfu (T:=zb6) (l:=x.2.1) (c:=x.2.2) (i:=i) qnx qoo hN.cells hN.cap (by have:=hN.len;omega) rfl
  refine qm (s:=.slc) (a1,i,x.2.2) (r1 _) ?_
  rw [qmz (by omega)] at c1
  refine jh (s:=.slc) (t:=z2) hw10 hbb2 hc2 ?_
  refine zl (qc8 (ys:=ys.take i) (p:=nm f) hw10 c1 (by simp;omega) (fun y hy=>hN.path y (List.mem_of_mem_take hy)) (fun y hy=>hN.small y (List.mem_of_mem_take hy)) (by simp;omega) (Mine.cells hp2) hz2l) ?_
  rintro e w11 ⟨hw11,⟨rfl,hnone⟩ | ⟨j,y,rfl,hj,hyp⟩⟩
  ·refine ⟨-1,rfl,jl rfl ?_⟩
   refine xu ((i+1:Nat):Int) (by simp) (by omega) (by omega) ?_
   refine ⟨⟨i+1,rfl,by omega,hw11,fun j hj hji=>?_⟩,by omega⟩
   by_cases e:j=i
   ·subst e
    rw [hf]
    exact ⟨fun h=>h0 (by rw [hzl,h];rfl),hN.none hnone⟩
   ·exact hok j hj (by omega)
  ·refine ⟨(j:Int),rfl,zab (by simp) ?_⟩
   obtain ⟨g,hg,hgn⟩:=hN.at (j:=j) (y:=y) (by
    rw [List.getElem?_take] at hj
    split at hj
    ·exact hj
    ·cases hj)
   have hji:j < i:=by
    rw [List.getElem?_take] at hj
    split at hj
    ·assumption
    ·cases hj
   refine hb ⟨i,hil,.inr ⟨g,List.mem_take_iff_getElem.2 ⟨j,by omega,(List.getElem?_eq_some_iff.1 hg).2⟩,?_⟩⟩ _ hw11
   rw [hf,hgn,hyp]
 ·obtain rfl:i=L.length:=by omega
  refine hno ?_ _ hW
  rintro ⟨j,hj,h | ⟨g,hg,e⟩⟩
  ·exact (hok j hj hj).1 h
  ·exact (hok j hj hj).2 g hg e
set_option maxHeartbeats 4000000 in
theorem qnt {w:World} {H:Heap} {a:Option Addr} {n:Nat} {x:Option Addr × Nat × Nat} {ys:List NR} {L:List Fil} (hw:w.heap=H) (hN:Seen H a x ys L) (hn:n=L.length) (hm:L.length≤65536) (h5:¬ z1h L) {Rb:World→Prop} {Rn:Bool × Int→World→Prop}
  (hb:qf6 L→∀ w',w'.heap=H→Rb w') (hno:¬ qf6 L→∀ (t:Bool) (i:Int) w',(t=true ↔ z1i L)→w'.heap=H→Rn (t,i) w') :
  zaw (Bool × Int) (fun s_8 w_14 k_8 =>
  xk (decide (s_8.2 < (n:Int))) (
  Go.Fw.joinP Bool (fun k_9 =>
  zbi w_14 fun w_15 =>
  ixS x.1 x.2.1 1 s_8.2 fun t106 =>
  ixS x.1 x.2.1 1 s_8.2 fun t110 =>
  ld .slc t106 w_15 fun (t107:(Option Addr × Nat × Nat)) =>
  ld .slc t110 w_15 fun (t111:(Option Addr × Nat × Nat)) =>
  zo9 .i64 (t111.2.1:Int) 1 fun t113 =>
  zaz P (Instr.sliceAt qp (Value.slice t107.1 t107.2.1 t107.2.2) none (some (Value.int .i64 t113)) none) .slc w_15 fun (t114:(Option Addr × Nat × Nat)) =>
  xg P zic #[(Value.slice x.1 x.2.1 x.2.2),(Value.slice t114.1 t114.2.1 t114.2.2)] [.int .i64] false w_15 fun (t117:Int) w_16 =>
  Go.Fw.joinP Unit (fun k_10 =>
  xk (decide ((t114.2.1:Int) > 0)) (
  xk (decide (t117 < 0)) (
  Rb w_16) (
  k_10 () w_16)) (
  k_10 () w_16)) (fun _ w_17 =>
  xk s_8.1 (
  k_9 true w_17) (
  xk (decide ((t114.2.1:Int) > 0)) (
  ixS a n 3 t117 fun t133 =>
  ld .bool (Addr.add t133 1) w_17 fun (t135:Bool) =>
  k_9 (!t135) w_17) (
  k_9 false w_17)))) (fun s_10 w_18 =>
  zba .i64 s_8.2 1 fun t103 =>
  k_8 (s_10,t103) w_18)) (
  Rn s_8 w_14)) (false,0) w:=by
 have hyl:=hN.count
 refine jd (fun (s:Bool × Int) W=>∃ i:Nat,s.2=(i:Int)∧i≤L.length∧W.heap=H∧(∀ f ∈ L.take i,(nm f).dropLast ≠ []→∃ g ∈ L,nm g=(nm f).dropLast)∧(s.1=true ↔ ∃ f ∈ L.take i,∃ g ∈ L,nm g=(nm f).dropLast∧g.dir=false)) (fun s _=>(L.length - s.2).toNat)
  ⟨0,rfl,Nat.zero_le _,hw,by simp,by simp⟩ ?_
 rintro ⟨t,_⟩ W ⟨i,rfl,hi,hW,hok,hfl⟩
 simp only at hfl
 refine zq (fun hlt=>?_) (fun hge=>?_)
 ·have hil:i < L.length:=by simp only at hlt;omega
  have hget:=List.getElem?_eq_getElem hil
  have hmem:L[i] ∈ L:=List.getElem_mem hil
  have hne:nm L[i] ≠ []:=(zj8 h5).2 _ hmem
  generalize hf:L[i]=f at hget hmem hne
  refine joinP_of (fun (t':Bool) W'=>W'.heap=H∧((nm f).dropLast ≠ []→∃ g ∈ L,nm g=(nm f).dropLast)∧(t'=true ↔ t=true ∨ ∃ g ∈ L,nm g=(nm f).dropLast∧g.dir=false)) ?_ ?_
  rotate_left
  ·rintro t' W' ⟨g1,g2,g3⟩
   refine xu ((i+1:Nat):Int) (by simp) (by omega) (by omega) ?_
   refine ⟨⟨i+1,rfl,by omega,g1,zds hget hok g2,?_⟩,by simp only;omega⟩
   rw [g3,hfl,List.take_add_one,hget]
   constructor
   ·rintro (⟨u,hu,h⟩ | h)
    ·exact ⟨u,by simp [hu],h⟩
    ·exact ⟨f,by simp,h⟩
   ·rintro ⟨u,hu,h⟩
    rcases List.mem_append.1 hu with hu | hu
    ·exact .inl ⟨u,hu,h⟩
    ·simp at hu;subst hu;exact .inr h
  refine jw hW fun w10 hw10=>?_
  refine zl1 (i:=i) hN.cells hN.len hN.path hN.eq hget rfl fun b o c T fr z hbb hc hp=>?_
  refine zl1 (i:=i) hN.cells hN.len hN.path hN.eq hget rfl fun b2 o2 c2 T2 fr2 z2 hbb2 hc2 hp2=>?_
  have hz2l:=hp2.len
  refine jh (s:=.slc) (t:=z) hw10 hbb hc ?_
  refine jh (s:=.slc) (t:=z2) hw10 hbb2 hc2 ?_
  have h8:=(zli f).2
  have hpos:0 < (nm f).length:=List.length_pos_iff.2 hne
  refine zbu (((nm f).length - 1:Nat):Int) (by omega) (by omega) (by omega) ?_
  obtain ⟨a1,r1,c1⟩:=qcm hp hne rfl
  refine qm (s:=.slc) (a1,(nm f).length - 1,z.2.2) (r1 _) ?_
  refine zl (qc8 (ys:=ys) (p:=(nm f).dropLast) hw10 hN.cells hN.len hN.path hN.small (by omega) c1 (by simp)) ?_
  have hdl:(nm f).dropLast.length=(nm f).length - 1:=by simp
  rintro e w11 ⟨hw11,⟨rfl,hnone⟩ | ⟨j,y,rfl,hj,hyp⟩⟩
  ·refine ⟨-1,rfl,zac ?_⟩
   have hno':=hN.none (i:=ys.length) (p:=(nm f).dropLast) (by rw [List.take_length];exact hnone)
   rw [hyl,List.take_length] at hno'
   refine zq (fun hp0=>zab rfl (hb ⟨f,hmem,?_,hno'⟩ _ hw11)) (fun hp0=>?_)
   ·intro h;rw [h] at hdl;simp at hdl hp0;omega
   ·have hd0:(nm f).dropLast=[]:=List.length_eq_zero_iff.1 (by simp only at hp0;omega)
    have hn70:¬ ∃ g ∈ L,nm g=(nm f).dropLast∧g.dir=false:=fun ⟨g,hg,e,_⟩=>hno' g hg e
    cases t with
    | true=>exact zab rfl ⟨hw11,fun h=>absurd hd0 h,by simp⟩
    | false=>exact jl rfl (jl (decide_eq_false hp0) ⟨hw11,fun h=>absurd hd0 h,by simp [hn70]⟩)
  ·refine ⟨(j:Int),rfl,zac ?_⟩
   obtain ⟨g,hg,hgn⟩:=hN.at hj
   rw [hyp] at hgn
   have hgm:g ∈ L:=List.mem_of_getElem? hg
   have hup:(nm f).dropLast ≠ []:=by rw [← hgn];exact (zj8 h5).2 _ hgm
   have hupl:0 < (nm f).dropLast.length:=List.length_pos_iff.2 hup
   have hpt:decide ((((a1,(nm f).length - 1,z.2.2):Option Addr × Nat × Nat).2.1:Int) > 0)=true:=by simp only [decide_eq_true_eq];omega
   refine zab hpt (jl (decide_eq_false (by omega)) ?_)
   cases t with
   | true=>exact zab rfl ⟨hw11,fun _=>⟨g,hgm,hgn⟩,by simp⟩
   | false =>
    refine jl rfl (zab hpt ?_)
    refine Bl.zdh (i:=j) zbg (by omega) hN.row hn hg rfl fun b3 o3 c3 T3 fr3 _ hb3 hsz3 hcc3 _=>?_
    simp only [jr]
    refine jh (s:=.bool) (t:=g.dir) hw11 hb3 (hcc3 1 (by omega)) ?_
    refine ⟨hw11,fun _=>⟨g,hgm,hgn⟩,?_⟩
    constructor
    ·intro h
     exact .inr ⟨g,hgm,hgn,by simpa using h⟩
    ·rintro (h | ⟨g',hg',e,hd⟩)
     ·cases h
     ·rw [← qmm h5 hg' hgm (e.trans hgn.symm),hd];rfl
 ·obtain rfl:i=L.length:=by simp only at hge;omega
  rw [List.take_length] at hok hfl
  exact hno (fun ⟨f,hf,h1,h2⟩=>by obtain ⟨g,hg,e⟩:=hok f hf h1;exact h2 g hg e) t _ W hfl hW
set_option maxHeartbeats 4000000 in
theorem qnr {w:World} {H:Heap} {a:Option Addr} {n:Nat} {x:Option Addr × Nat × Nat} {ys:List NR} {L:List Fil} (hw:w.heap=H) (hN:Seen H a x ys L) (hn:n=L.length) (hm:L.length≤65536) (h5:¬ z1h L) {Rb Rn:World→Prop}
  (hb:qhm L→∀ w',w'.heap=H→Rb w') (hno:¬ qhm L→∀ w',w'.heap=H→Rn w') :
  zaw Int (fun s_11 w_19 k_11 =>
  xk (decide (s_11 < (n:Int))) (
  zaw (Int × Int) (fun s_12 w_20 k_12 =>
  xk (decide (s_12.2 < (n:Int))) (
  Go.Fw.joinP Int (fun k_13 =>
  zbi w_20 fun w_21 =>
  ixS x.1 x.2.1 1 s_12.2 fun t154 =>
  ixS x.1 x.2.1 1 s_11 fun t159 =>
  ld .slc t154 w_21 fun (t155:(Option Addr × Nat × Nat)) =>
  ld .slc t159 w_21 fun (t160:(Option Addr × Nat × Nat)) =>
  xk ((t155.2.1:Int) == (t160.2.1:Int)) (
  ixS x.1 x.2.1 1 s_12.2 fun t166 =>
  ixS x.1 x.2.1 1 s_11 fun t170 =>
  ixS x.1 x.2.1 1 s_11 fun t174 =>
  ld .slc t166 w_21 fun (t167:(Option Addr × Nat × Nat)) =>
  ld .slc t170 w_21 fun (t171:(Option Addr × Nat × Nat)) =>
  ld .slc t174 w_21 fun (t175:(Option Addr × Nat × Nat)) =>
  zo9 .i64 (t175.2.1:Int) 1 fun t177 =>
  zaz P (Instr.sliceAt qp (Value.slice t171.1 t171.2.1 t171.2.2) none (some (Value.int .i64 t177)) none) .slc w_21 fun (t178:(Option Addr × Nat × Nat)) =>
  xg P zir #[(Value.slice t167.1 t167.2.1 t167.2.2),(Value.slice t178.1 t178.2.1 t178.2.2)] [.bool] false w_21 fun (t179:Bool) w_22 =>
  xk t179 (
  zba .i64 s_12.1 1 fun t182 =>
  k_13 t182 w_22) (
  k_13 s_12.1 w_22)) (
  k_13 s_12.1 w_21)) (fun s_13 w_23 =>
  zba .i64 s_12.2 1 fun t151 =>
  k_12 (s_13,t151) w_23)) (
  xk (decide (s_12.1 > 64)) (
  Rb w_20) (
  zba .i64 s_11 1 fun t145 =>
  k_11 t145 w_20))) (0,0) w_19) (
  Rn w_19)) 0 w:=by
 have hyl:=hN.count
 refine jd (fun (s:Int) W=>∃ i:Nat,s=(i:Int)∧i≤L.length∧W.heap=H∧∀ f ∈ L.take i,¬ 64 < (kids L (nm f).dropLast).length) (fun s _=>(L.length - s).toNat) ⟨0,rfl,Nat.zero_le _,hw,by simp⟩ ?_
 rintro _ W ⟨i,rfl,hi,hW,hok⟩
 refine zq (fun hlt=>?_) (fun hge=>?_)
 ·have hil:i < L.length:=by omega
  have hget:=List.getElem?_eq_getElem hil
  have hmem:L[i] ∈ L:=List.getElem_mem hil
  have hne:nm L[i] ≠ []:=(zj8 h5).2 _ hmem
  generalize hf:L[i]=f at hget hmem hne
  have hdl:(nm f).dropLast.length=(nm f).length - 1:=by simp
  have hpos:0 < (nm f).length:=List.length_pos_iff.2 hne
  have h8:=(zli f).2
  refine jd (fun (s:Int × Int) W=>∃ j:Nat,s.2=(j:Int)∧j≤L.length∧W.heap=H∧s.1=((kids (L.take j) (nm f).dropLast).length:Int)) (fun s _=>(L.length - s.2).toNat) ⟨0,rfl,Nat.zero_le _,hW,by simp [kids]⟩ ?_
  rintro ⟨t,_⟩ W2 ⟨j,rfl,hj,hW2,ht⟩
  simp only at ht
  subst ht
  have hkl:(kids (L.take j) (nm f).dropLast).length≤j:=Nat.le_trans (List.length_filter_le _ _) (by simp;omega)
  refine zq (fun hlt2=>?_) (fun hge2=>?_)
  ·have hjl:j < L.length:=by simp only at hlt2;omega
   have hget2:=List.getElem?_eq_getElem hjl
   generalize L[j]=g at hget2
   have hkt:=z8a (p:=(nm f).dropLast) hget2
   refine joinP_of (fun (t':Int) W'=>W'.heap=H∧t'=((kids (L.take (j+1)) (nm f).dropLast).length:Int)) ?_ ?_
   rotate_left
   ·rintro t' W' ⟨g1,g2⟩
    refine xu ((j+1:Nat):Int) (by simp) (by omega) (by omega) ?_
    exact ⟨⟨j+1,rfl,by omega,g1,g2⟩,by simp only;omega⟩
   refine jw hW2 fun w10 hw10=>?_
   refine zl1 (i:=j) hN.cells hN.len hN.path hN.eq hget2 rfl fun b o c T fr z hbb hc hp=>?_
   refine zl1 (i:=i) hN.cells hN.len hN.path hN.eq hget rfl fun b2 o2 c2 T2 fr2 z2 hbb2 hc2 hp2=>?_
   refine jh (s:=.slc) (t:=z) hw10 hbb hc ?_
   refine jh (s:=.slc) (t:=z2) hw10 hbb2 hc2 ?_
   have hzl:=hp.len
   have hz2l:=hp2.len
   refine zb3 (fun hl=>?_) (fun hl=>?_)
   ·refine zl1 (i:=j) hN.cells hN.len hN.path hN.eq hget2 rfl fun b3 o3 c3 T3 fr3 z3 hbb3 hc3 hp3=>?_
    refine zl1 (i:=i) hN.cells hN.len hN.path hN.eq hget rfl fun b4 o4 c4 T4 fr4 z4 hbb4 hc4 hp4=>?_
    refine zl1 (i:=i) hN.cells hN.len hN.path hN.eq hget rfl fun b5 o5 c5 T5 fr5 z5 hbb5 hc5 hp5=>?_
    refine jh (s:=.slc) (t:=z3) hw10 hbb3 hc3 ?_
    refine jh (s:=.slc) (t:=z4) hw10 hbb4 hc4 ?_
    refine jh (s:=.slc) (t:=z5) hw10 hbb5 hc5 ?_
    have hz3l:=hp3.len
    have hz5l:=hp5.len
    have h8g:=(zli g).2
    refine zbu (((nm f).length - 1:Nat):Int) (by omega) (by omega) (by omega) ?_
    obtain ⟨a1,r1,c1⟩:=qcm hp4 hne rfl
    refine qm (s:=.slc) (a1,(nm f).length - 1,z4.2.2) (r1 _) ?_
    refine zl (z7q (p:=nm g) (q:=(nm f).dropLast) hw10 (Mine.cells hp3) hz3l c1 hdl.symm (by omega) (by omega)) ?_
    rintro e w11 ⟨rfl,hw11⟩
    refine ⟨zc1 (nm g) (nm f).dropLast,rfl,?_⟩
    cases hwi:zc1 (nm g) (nm f).dropLast with
    | true =>
     have hk:qci (nm f).dropLast g=true:=znp.2 ⟨by omega,hwi⟩
     rw [hk,if_pos rfl] at hkt
     refine zab rfl (xu (((kids (L.take j) (nm f).dropLast).length+1:Nat):Int) (by simp) (by omega) (by omega) ⟨hw11,by rw [hkt];simp⟩)
    | false =>
     have hk:qci (nm f).dropLast g=false:=by rw [← Bool.not_eq_true,znp,hwi];simp
     rw [hk,if_neg (by decide)] at hkt
     exact jl rfl ⟨hw11,by rw [hkt]⟩
   ·have hk:qci (nm f).dropLast g=false:=by rw [← Bool.not_eq_true,znp];omega
    rw [hk,if_neg (by decide)] at hkt
    exact ⟨hw10,by rw [hkt]⟩
  ·obtain rfl:j=L.length:=by simp only at hge2;omega
   rw [List.take_length] at *
   refine zq (fun h=>?_) (fun h=>?_)
   ·exact hb ⟨f,hmem,by simp only at h;omega⟩ _ hW2
   ·refine xu ((i+1:Nat):Int) (by simp) (by omega) (by omega) ?_
    exact ⟨⟨i+1,rfl,by omega,hW2,zds hget hok (by simp only at h;omega)⟩,by omega⟩
 ·obtain rfl:i=L.length:=by omega
  rw [List.take_length] at hok
  exact hno (fun ⟨f,hf,h⟩=>hok f hf h) W hW
theorem zxk {L:List Fil} (h:zav L ≠ 0):zcg L=zav L:=by unfold zcg;rw [if_pos h]
theorem z6i {L:List Fil} (h:zav L=0):zcg L=zcl L:=by unfold zcg;rw [if_neg (by simpa using h)]
theorem zxj {L:List Fil} (h:zhd L ≠ 0):zav L=zhd L:=by unfold zav;rw [if_pos h]
theorem qhj {L:List Fil} (h:zhd L=0) (ha:L.any qai=true):zav L=1:=by unfold zav;rw [if_neg (by simpa using h),if_pos ha]
theorem qhp {L:List Fil} (h:zhd L=0) (ha:L.any qai=false) (hb:L.any qej=true):zav L=134:=by unfold zav;rw [if_neg (by simpa using h),if_neg (by simp [ha]),if_pos hb]
theorem qep {L:List Fil} (h:zhd L=0) (ha:L.any qai=false) (hb:L.any qej=false):zav L=0:=by unfold zav;rw [if_neg (by simpa using h),if_neg (by simp [ha]),if_neg (by simp [hb])]
theorem qh5 {L:List Fil} {g:Fil→Bool} (h:∀ f ∈ L,g f=false):L.any g=false:=by
 rw [List.any_eq_false]
 intro f hf
 simp [h f hf]
set_option maxHeartbeats 8000000 in
theorem qeu {w:World} {H:Heap} {a:Option Addr} {n nc:Nat} {L:List Fil} (hw:w.heap=H) (hL:Cells H a (L.flatMap zbc)) (hn:n=L.length) (hm:L.length≤65536) :
  qj P zn6 #[.slice a n nc] w fun e w'=>∃ x,e=.returned (.tuple #[zcr x,.int .i64 (zcg L)])∧Ext [] H w'.heap∧(zcg L=0→Mine w'.heap H.size zk 3 x (((zh2 L).map clean).flatMap zbc)):=by
 refine z1d ?_
 unfold zo1
 have bad:∀ {W:World} {code:Int},code ≠ 0→zcg L=code→Ext [] H W.heap→∃ x,Ending.returned (.tuple #[.slice none 0 0,.int .i64 code])=.returned (.tuple #[zcr x,.int .i64 (zcg L)])∧Ext [] H W.heap∧(zcg L=0→Mine W.heap H.size zk 3 x (((zh2 L).map clean).flatMap zbc)):=by
  intro W code h0 hc hx
  exact ⟨(none,0,0),by rw [hc];rfl,hx,fun h=>absurd (hc.symm.trans h) h0⟩
 refine jd (fun (s:(Option Addr × Nat × Nat) × Int) W=>∃ i:Nat,s.2=(i:Int)∧i≤L.length∧Ext [] H W.heap∧zln W.heap H.size s.1 ((L.take i).map nm)∧∀ g ∈ L.take i,(zbo g.path).2=0) (fun s _=>(L.length - s.2).toNat)
  ⟨0,rfl,Nat.zero_le _,by rw [hw];exact .refl _ _,.nil,by simp⟩ ?_
 rintro ⟨x,_⟩ W ⟨i,rfl,hi,hx,hP,hok⟩
 simp only at hP
 refine zq (fun hlt=>?_) (fun hge=>?_)
 ·have hil:i < L.length:=by simp only at hlt;omega
  have hget:=List.getElem?_eq_getElem hil
  generalize L[i]=f at hget
  refine Bl.zdh (i:=i) zbg (by omega) (hL.ext hx (by simp)) hn hget rfl fun b o c T fr _ hb hsz hc _=>?_
  refine jh (s:=.str) (t:=strOf f.path) rfl hb (hc 0 (by omega)) ?_
  refine zl (qcz f.path rfl) ?_
  rintro e w2 ⟨y,rfl,hm2,hx2⟩
  refine ⟨(y,(zbo f.path).2),rfl,?_⟩
  refine zb1 (fun h=>?_) (fun h=>?_)
  ·have hfb:=zy2 hget h hok
   have h':(zbo f.path).2 ≠ 0:=h
   exact bad h (by rw [zxk (by rw [zxj (by rw [hfb];exact h'),hfb];exact h'),zxj (by rw [hfb];exact h'),hfb]) (hx.trans hx2)
  ·refine qjp rfl (hP.ext hx2) (by have:=hx.1;have:=hx2.1;omega) hm2 (by simp;omega) fun x' w4 hP4 hx4=>?_
   refine xu ((i+1:Nat):Int) (by simp) (by omega) (by omega) ?_
   refine ⟨⟨i+1,rfl,by omega,(hx.trans hx2).own hx4 (fun c hc hlt=>by have:=(hP.ge) c hc;omega),?_,zds hget hok h⟩,by simp only;omega⟩
   have e:(L.take (i+1)).map nm=(L.take i).map nm++[(zbo f.path).1]:=by rw [List.take_add_one,hget];simp [nm]
   rw [e];exact hP4
 obtain rfl:i=L.length:=by simp only at hge;omega
 rw [List.take_length] at hP hok
 have hfb:=ztp hok
 obtain ⟨ys,y1,y2,y3⟩:=hP
 have hN:Seen W.heap a x ys L:=⟨hL.ext hx (by simp),y1.cells,by have:=y1.len;rw [qo2] at this;omega,zgz y1,y3,y2⟩
 have keep:∀ {W':World},W'.heap=W.heap→Ext [] H W'.heap:=fun h=>by rw [h];exact hx
 refine jd (fun (s:Int) W'=>∃ i:Nat,s=(i:Int)∧i≤L.length∧W'.heap=W.heap∧∀ g ∈ L.take i,qai g=false) (fun s _=>(L.length - s).toNat) ⟨0,rfl,Nat.zero_le _,rfl,by simp⟩ ?_
 rintro _ W5 ⟨i,rfl,hi,hW5,hna⟩
 refine zq (fun hlt=>?_) (fun hge=>?_)
 ·have hil:i < L.length:=by omega
  have hget:=List.getElem?_eq_getElem hil
  have hmem:L[i] ∈ L:=List.getElem_mem hil
  generalize L[i]=f at hget hmem
  have next:qai f=false→∀ {W':World},W'.heap=W.heap→zba .i64 (i:Int) 1 fun t48=>(∃ i:Nat,t48=(i:Int)∧i≤L.length∧W'.heap=W.heap∧∀ g ∈ L.take i,qai g=false)∧(L.length - t48).toNat < ((L.length:Int) - (i:Int)).toNat:=by
   intro hf W' hW'
   refine xu ((i+1:Nat):Int) (by simp) (by omega) (by omega) ?_
   exact ⟨⟨i+1,rfl,by omega,hW',zds hget hna hf⟩,by omega⟩
  refine zac (zac ?_)
  refine Bl.zdh (i:=i) zbg (by omega) hN.row hn hget rfl fun b o c T fr _ hb hsz hc _=>?_
  simp only [jr]
  refine jh (s:=.bool) (t:=f.dir) hW5 hb (hc 1 (by omega)) ?_
  cases hd:f.dir with
  | false=>exact jl rfl (next (by simp [qai,hd]) hW5)
  | true =>
   refine zab rfl ?_
   refine Bl.zdh (i:=i) zbg (by omega) hN.row hn hget rfl fun b o c T fr _ hb hsz hc _=>?_
   simp only [jr]
   refine jh (s:=.str) (t:=strOf f.data) hW5 hb (hc 2 (by omega)) ?_
   have hbe:(!((strOf f.data).toList == (ByteArray.mk #[]).toList))=!decide (f.data=[]):=by
    rw [zau]
    have:(ByteArray.mk #[]).toList=[]:=zau (L:=[])
    rw [this]
    cases f.data <;> simp
   rw [hbe]
   by_cases h:f.data=[]
   ·exact jl (by simp [h]) (next (by simp [qai,h]) hW5)
   ·refine zab (by simp [h]) (bad (by decide) ?_ (keep hW5))
    have h1:=qhj hfb (List.any_eq_true.2 ⟨f,hmem,by simp [qai,hd,h]⟩)
    rw [zxk (by rw [h1];decide),h1]
 obtain rfl:i=L.length:=by omega
 rw [List.take_length] at hna
 have hna:=qh5 hna
 refine jd (fun (s:Int) W'=>∃ i:Nat,s=(i:Int)∧i≤L.length∧W'.heap=W.heap∧∀ g ∈ L.take i,qej g=false) (fun s _=>(L.length - s).toNat) ⟨0,rfl,Nat.zero_le _,hW5,by simp⟩ ?_
 rintro _ W6 ⟨i,rfl,hi,hW6,hnb⟩
 refine zq (fun hlt=>?_) (fun hge=>?_)
 ·have hil:i < L.length:=by omega
  have hget:=List.getElem?_eq_getElem hil
  have hmem:L[i] ∈ L:=List.getElem_mem hil
  generalize L[i]=f at hget hmem
  refine Bl.zdh (i:=i) zbg (by omega) hN.row hn hget rfl fun b o c T fr _ hb hsz hc _=>?_
  simp only [jr]
  refine jh (s:=.str) (t:=strOf f.data) hW6 hb (hc 2 (by omega)) ?_
  refine zq (fun h=>?_) (fun h=>?_)
  ·have h1:=qhp hfb hna (List.any_eq_true.2 ⟨f,hmem,by simp only [jy] at h;simp [qej];omega⟩)
   exact bad (by decide) (by rw [zxk (by rw [h1];decide),h1]) (keep hW6)
  ·refine xu ((i+1:Nat):Int) (by simp) (by omega) (by omega) ?_
   exact ⟨⟨i+1,rfl,by omega,hW6,zds hget hnb (by simp only [jy] at h;simp [qej];omega)⟩,by omega⟩
 obtain rfl:i=L.length:=by omega
 rw [List.take_length] at hnb
 have hp0:=qep hfb hna (qh5 hnb)
 have hchk:=z6i hp0
 refine qma hW6 hN hn hm (fun h5 w' hw'=>bad (code:=5) (by decide) (by rw [hchk,qal h5]) (keep hw')) fun h5 W7 hW7=>?_
 refine qnt hW7 hN hn hm h5 (fun h4 w' hw'=>bad (code:=4) (by decide) (by rw [hchk,qbb h5 h4]) (keep hw')) fun h4 t _ W8 ht hW8=>?_
 cases t with
 | true=>exact zab rfl (bad (code:=70) (by decide) (by rw [hchk,z4r h5 h4 (ht.1 rfl)]) (keep hW8))
 | false =>
  have h70:¬ z1i L:=fun h=>by have:=ht.2 h;cases this
  refine jl rfl ?_
  refine qnr hW8 hN hn hm h5 (fun h8 w' hw'=>bad (code:=8) (by decide) (by rw [hchk,qa1 h5 h4 h70 h8]) (keep hw')) fun h8 W9 hW9=>?_
  have hc0:zcg L=0:=by rw [hchk,qau h5 h4 h70 h8]
  refine qja hW9 hN hn hm fun x' _ w' hm' hx'=>?_
  exact ⟨x',by rw [hc0];rfl,hx.trans hx',fun _=>hm'.mono hx.1⟩
theorem z4u {L:List Fil}:(zj1 L).2.length=32:=by rw [zio];exact zf7
theorem qij {w:World} {H:Heap} {B:Nat} {l:Option Addr × Nat × Nat} {L:List Fil} (hw:w.heap=H) (hM:Mine H B zk 3 l (((zh2 L).map clean).flatMap zbc)) (hd:∀ f ∈ L,f.data.length≤1024) (hm:L.length≤65536) (hp:(zh2 L).Perm L) (hbl:(zj1 L).1.length≤500000000) :
  qj P zr9 #[.slice l.1 l.2.1 l.2.2] w fun e w'=>∃ x',e=.returned (.tuple #[zcr x',arr (zj1 L).2])∧za3 w'.heap H.size x' (zj1 L).1∧Ext [] H w'.heap:=by
 refine qac ?_
 unfold zrk
 refine jv hw fun w1 hw1=>?_
 have hx1:Ext [] H w1.heap:=by rw [hw1];exact .push _
 have hd1:w1.heap[H.size]?=some (.cells (zc P zf) zf (0,0)):=by rw [hw1];exact zn
 have s1:=lt_of_get hd1
 have e1:zcn ((zh2 L).map clean) 9 []=zj1 L:=by rw [z2m,zio]
 refine zl (qj5 ((zh2 L).map clean) (fun f hf=>by
   obtain ⟨g,hg,rfl⟩:=List.mem_map.1 hf
   exact hd g (hp.mem_iff.1 hg)) (by rw [List.length_map,hp.length_eq];exact hm) 9 (B:=H.size) (BL:=B) (BD:=0) (x:=(none,0,0)) (d:=(none,0,0)) (Ls:=[]) (p:=[]) rfl .nil (by omega) (hM.ext hx1 (by simp)) (.inl ⟨rfl,rfl⟩) rfl (by simp) (by rw [e1];simpa using hbl)) ?_
 rintro e w2 ⟨x',rfl,hB2,hx2,hs2⟩
 refine ⟨(x',arr (zcn ((zh2 L).map clean) 9 []).2),rfl,?_⟩
 simp only [e1] at hB2 ⊢
 have hx2':Ext [] w1.heap w2.heap:=hx2.mono (by simp [xw])
 have hd2:=hx2'.get hd1 (by simp)
 refine z9j (k:=(zj1 L).2) z4u rfl hd2 zcD fun w3 hw3=>?_
 have hx3:Ext [H.size] w2.heap w3.heap:=by rw [hw3];exact Ext.set _ (by simp)
 have hd3:w3.heap[H.size]?=some (.cells (byteCells (zj1 L).2).toArray zf (0,0)):=by rw [hw3];exact qw hd2
 refine je rfl hd3 (by simp [z4u]) ?_
 refine ⟨x',rfl,?_,(hx1.trans hx2').own hx3 (fun c hc hlt=>by simp at hc;omega)⟩
 exact hB2.keep hx3 (fun m hm c T fr hc=>by
  simp at hm;subst hm
  rw [hd2] at hc
  simp only [Option.some.injEq,Obj.cells.injEq] at hc
  rw [← hc.2.1];exact ⟨by decide,by decide⟩)
theorem qn2 {L:List Fil} (h:zcg L=0):¬ z1h L∧∀ f ∈ L,f.data.length≤1024:=by
 unfold zcg at h
 split at h
 ·rename_i h1;exact absurd h h1
 ·rename_i h1
  exact ⟨(qcs h).1,qf7 (by simpa using h1)⟩
set_option maxHeartbeats 2000000 in
theorem qj1 {w:World} {H:Heap} {fp:List Nat} {p:Nat} {q:Int} {r:Bl.SM} {a:Option Addr} {n nc:Nat} {L:List Fil} (hw:w.heap=H) (hS:Bl.zeq H fp p q r) (hfp:∀ b ∈ fp,b < H.size)
  (hL:Cells H a (L.flatMap zbc)) (hn':n=L.length) (hm:L.length≤65536)
  (hb:Bl.total r < 1000000000000) (hn:r.length < 100000000000) (hq:0≤q) (hq2:q≤9223372036854775807) (hlen:∀ x ∈ r,x.2.1.2.length < 1099511627776) :
  qj P zr7 #[.pointer (some ⟨p,0,none⟩),.slice a n nc] w (qop H fp p q r (zcg L) (zj1 L) (1+18 * L.length)):=by
 refine z8n ?_
 unfold zr2
 refine jv hw fun w1 hw1=>?_
 have hx1:Ext [] H w1.heap:=by rw [hw1];exact .push _
 have hd1:w1.heap[H.size]?=some (.cells (zc P zf) zf (0,0)):=by rw [hw1];exact zn
 have s1:=lt_of_get hd1
 refine zl (qeu rfl (hL.ext hx1 (by simp)) hn' hm) ?_
 rintro e w2 ⟨x,rfl,hx2,h2⟩
 refine ⟨(x,zcg L),rfl,?_⟩
 have hd2:=hx2.get hd1 (by simp)
 have hx02:=hx1.trans hx2
 refine zb1 (fun hc=>?_) (fun hc=>?_)
 ·refine zll rfl hd2 fun w3 hx3=>?_
  have hxx:Ext fp H w3.heap:=(hx02.mono (by simp)).own hx3 (fun c hc hlt=>by simp at hc;omega)
  have hsz:=hxx.1
  exact ⟨zcg L,Bl.nought,r,fp,rfl,Bl.zd1,(hS.ext hx02 (by simp)).ext hx3 (fun b hb h=>by simp at h;have:=hfp b hb;omega),hxx,fun b hb=>by have:=hfp b hb;omega,fun b hb=>.inl hb,⟨fun _=>⟨rfl,rfl,rfl⟩,fun h=>absurd h hc⟩,by omega,by omega,hlen⟩
 have hc:zcg L=0:=hc
 obtain ⟨n5,hdl⟩:=qn2 hc
 have hM:=h2 hc
 have hl18:=z6a n5 hdl
 obtain ⟨hperm,_⟩:=zh5 (zj8 n5).1
 have s2:=hx2.1
 refine zl (qij rfl hM hdl hm hperm (by omega)) ?_
 rintro e w12 ⟨x2,rfl,hbl,hx12⟩
 refine ⟨(x2,arr (zj1 L).2),rfl,?_⟩
 refine qni (R:=qop H fp p q r (zcg L) (zj1 L) (1+18 * L.length)) (T:=zj1 L) rfl (hx02.trans hx12) hS hfp (Nat.le_refl _) (hx12.get hd2 (by simp)) hbl z4u (qex n5 hdl hm) hb (by omega) hn hq hq2 hlen fun code d r' fp' w' a1 a2 a3 a4 a5 a6 a7 a8 a9 a10=>?_
 exact ⟨code,d,r',fp',rfl,a1,a2,a3,a4,a5,⟨fun h=>absurd hc h,fun _=>⟨a6,a7⟩⟩,by omega,by omega,a10⟩
theorem fFl:(P.fieldsOf zk).toList.map (fun f=>(f.name,f.type,f.offset))=[("Path",qc,0),("Dir",qkk,1),("Data",qc,2)]:=by kernel_rfl
theorem uFl:P.underlying zk=some (.struct (P.fieldsOf zk)):=by kernel_rfl
theorem qnu:P.stoodInHeld zk=false:=by kernel_rfl
theorem qj8:P.eqGuardType P.depth zk=false:=by kernel_rfl
theorem qkb:P.underlying qkk=some .bool:=by kernel_rfl
theorem qd9 {cs:Array Value} {t:TypeId} {o:Nat} {v:Value} {w:World} (ha:(isAgg t).run P w=.ok false w) (hc:cs[o]?=some v):(part t cs o).run P w=.ok v w:=by
 simp [part,ha,hc]
theorem qjg {a b:List UInt8}:(a == b)=decide (a=b):=by rw [Bool.eq_iff_iff];simp
theorem qox {f:Fil} {w:World}:(Op.equalIn 10000 zk (.agg (zbc f).toArray) (.agg (zbc f).toArray)).run P w=.ok true w:=by
 rw [run_equalIn_agg w 9999 zk _ _ uFl qnu]
 have hf:=fFl
 generalize (P.fieldsOf zk).toList=fs at hf
 have hl:fs.length=3:=by simpa using congrArg List.length hf
 obtain ⟨f0,f1,f2,rfl⟩:∃ a b c,fs=[a,b,c]:=by
  match fs,hl with
  | [a,b,c],_=>exact ⟨a,b,c,rfl⟩
 simp only [List.map_cons,List.map_nil,List.cons.injEq,Prod.mk.injEq,and_true] at hf
 obtain ⟨⟨n0,t0,o0⟩,⟨n1,t1,o1⟩,n2,t2,o2⟩:=hf
 have e0:∀ w,(part f0.type (zbc f).toArray f0.offset).run P w=.ok (.string (strOf f.path)) w:=fun w=>by rw [t0,o0];exact qd9 (by kernel_rfl) rfl
 have e1:∀ w,(part f1.type (zbc f).toArray f1.offset).run P w=.ok (.bool f.dir) w:=fun w=>by rw [t1,o1];exact qd9 (by kernel_rfl) rfl
 have e2:∀ w,(part f2.type (zbc f).toArray f2.offset).run P w=.ok (.string (strOf f.data)) w:=fun w=>by rw [t2,o2];exact qd9 (by kernel_rfl) rfl
 have q0:(Op.equalIn 9999 f0.type (.string (strOf f.path)) (.string (strOf f.path))).run P w=.ok true w:=by rw [t0,run_equalIn_string w 9998 _ _ _ z0e,zau,qjg];simp
 have q1:(Op.equalIn 9999 f1.type (.bool f.dir) (.bool f.dir)).run P w=.ok true w:=by rw [t1,run_equalIn_bool' w 9998 _ _ _ qkb];simp
 have q2:(Op.equalIn 9999 f2.type (.string (strOf f.data)) (.string (strOf f.data))).run P w=.ok true w:=by rw [t2,run_equalIn_string w 9998 _ _ _ z0e,zau,qjg];simp
 simp only [Op.eqFields,n0,n1,n2,ne_eq,String.reduceEq,not_false_eq_true,if_true,Sem.run_bind,e0,e1,e2,Result.andThen_ok,q0,q1,q2,Bool.not_true,Bool.false_eq_true,if_false,Sem.run_pure]
theorem qod {x y:Operand} {f:Fil} {w:World}:(eqM .neq zk x y (.agg (zbc f).toArray) (.agg (zbc f).toArray)).run P w=.ok (.bool false) w:=by
 simp only [eqM,Sem.run_bind,run_eqGuard_agg w .neq zk x y _ _ qj8,Result.andThen_ok,run_neq_struct w,qox,Bool.not_true]
theorem qjm {w:World} {H:Heap} {a b:Option Addr} {n nc m mc:Nat} {L:List Fil} (hw:w.heap=H) (hA:Cells H a (L.flatMap zbc)) (hn:n=L.length) (hB:Cells H b (L.flatMap zbc)) (hm:m=L.length) (hL:L.length≤1099511627776) :
  qj P zsi #[.slice a n nc,.slice b m mc] w fun e w'=>e=.returned (.bool true)∧w'.heap=H:=by
 subst hn hm
 refine z7s ?_
 unfold zsp
 refine jl (by simp) ?_
 refine jd (fun (s:Int) W=>∃ i:Nat,s=(i:Int)∧i≤L.length∧W.heap=H) (fun s _=>(L.length - s).toNat) ⟨0,rfl,Nat.zero_le _,hw⟩ ?_
 rintro _ W ⟨i,rfl,hi,hW⟩
 refine zq (fun hlt=>?_) (fun hge=>⟨rfl,hW⟩)
 have hil:i < L.length:=by omega
 have hget:=List.getElem?_eq_getElem hil
 generalize L[i]=f at hget
 refine jw hW fun W1 hW1=>?_
 refine Bl.zdh (i:=i) zbg (by omega) hA rfl hget rfl fun ba oa ca Ta fra _ hba hsa hca _=>?_
 refine Bl.zdh (i:=i) zbg (by omega) hB rfl hget rfl fun b2 o2 c2 T2 fr2 _ hb2 hs2 hc2 _=>?_
 have ext3:∀ {c:Array Value} {o:Nat},o+3≤c.size→(∀ j,j < 3→c[o+j]?=(zbc f)[j]?)→c.extract o (o+3)=(zbc f).toArray:=by
  intro c o hs hc
  apply Array.ext_getElem?
  intro j
  rw [Array.getElem?_extract]
  by_cases hj:j < 3
  ·rw [if_pos (by omega),hc j hj];simp
  ·rw [if_neg (by omega),Array.getElem?_eq_none (by simp [zbg];omega)]
 refine zre hW1 hba hsa ?_
 rw [ext3 hsa hca]
 refine zre hW1 hb2 hs2 ?_
 rw [ext3 hs2 hc2]
 refine qm (s:=.bool) false qod ?_
 refine jl rfl ?_
 refine xu ((i+1:Nat):Int) (by simp) (by omega) (by omega) ?_
 exact ⟨⟨i+1,rfl,by omega,hW1⟩,by omega⟩
theorem qcc {pre q:Int} {r r' rl rl':Bl.SM} {T:List (List UInt8) × List UInt8} {code code':Int} {d d':List UInt8} (h:zwa pre q r T code d r') (h':zwa pre q rl T code' d' rl') (hv:∀ k,Bl.zay r k=Bl.zay rl k) (ht:Bl.total r=Bl.total rl):code=code'∧d=d'∧∀ k,Bl.zay r' k=Bl.zay rl' k:=by
 by_cases h0:pre=0
 ·obtain ⟨a1,a2⟩:=h.2 h0
  obtain ⟨b1,b2⟩:=h'.2 h0
  obtain ⟨rfl,hv'⟩:=Bl.qcb a1 b1 hv ht
  exact ⟨rfl,a2.trans b2.symm,hv'⟩
 ·obtain ⟨a1,a2,a3⟩:=h.1 h0
  obtain ⟨b1,b2,b3⟩:=h'.1 h0
  exact ⟨a1.trans b1.symm,a2.trans b2.symm,by rw [a3,b3];exact hv⟩
theorem qk4 {r:Bl.SM} {c:Nat} (h:MOk (fun L:List UInt8=>L.length=32) r c) {k L:List UInt8} (hv:Bl.zay r k=some L):L.length≤Bl.total r:=by
 have h1:=Bl.z6m h (k:=k) (c':=0) (v:=((none,0,0),[]))
 have h2:Bl.qic r k=L.length:=by unfold Bl.qic;rw [hv]
 simp only [List.length_nil] at h1
 omega
def dgS (s:Rest):List UInt8 × Rest:=match s with | none=>(Bl.nought,none) | some R=>if 32≤R.length then (R.take 32,some (R.drop 32)) else (Bl.nought,none)
theorem zwo {s:Rest}:(dgS s).1.length=32:=by
 unfold dgS
 cases s with
 | none=>exact Bl.zd1
 | some R =>
  simp only
  split
  ·simp;omega
  ·exact Bl.zd1
theorem slA {b:Nat} {w:World}:(Instr.sliceAt zf (Value.pointer (some (⟨b,0,none⟩:Addr))) none none none).run P w=.ok (.slice (some ⟨b,0,none⟩) 32 32) w:=by
 rw [zdw (l:=0) (h:=32) Bl.u27 sz8 .no .no (by omega) (by omega)]
 simp [Addr.add]
theorem qok {w:World} {H:Heap} {b:Nat} {c:Array Value} {T:TypeId} {y:Option Addr × Nat × Nat} {k:List UInt8} (hk:k.length≤32) (hw:w.heap=H) (hb:H[b]?=some (.cells c T (0,0))) (hs:c.size=32) (hy:Cells H y.1 (byteCells k)) (hl:y.2.1=k.length) {K:Int→World→Prop}
  (hK:∀ n w',w'.heap=H.setIfInBounds b (.cells (setCells c 0 (byteCells k)) T (0,0))→K n w') :
  zal P (Builtin.copy_ #[zh,zh] zdf #[(Value.slice (some ⟨b,0,none⟩) 32 32),(Value.slice y.1 y.2.1 y.2.2)]) (.int .i64) w K:=by
 obtain ⟨w4,hrun,hcm4,hw4⟩:=qg5 (P:=P) (w:=w) (st:=zh) (xt:=zh) (ty:=zdf) (od:=0) (dl:=32) (dc:=32) (sa:=y.1) (sl:=y.2.1) (sc:=y.2.2) (vs:=byteCells k) uS8 sz8 hw hy (by rw [hl];simp;omega) vg hb (by rw [hs];simpa using hk)
 exact zad _ w4 hrun (hK _ w4 hw4) hcm4
theorem qpq:zc P zf=(byteCells Bl.nought).toArray:=by kernel_rfl
theorem qka {w:World} {H:Heap} {b:Nat} {F:List Nat} {s:Rest} (hw:w.heap=H) (hI:InW H b F s) (hF:∀ c ∈ F,c < H.size) :
  qj P zf1 #[.pointer (some ⟨b,0,none⟩)] w fun e w'=>e=.returned (arr (dgS s).1)∧InW w'.heap b F (dgS s).2∧Ext [b] H w'.heap:=by
 have hbl:=hI.lt
 refine zvh ?_
 unfold zi5
 refine jv hw fun w1 hw1=>?_
 have hx1:Ext [] H w1.heap:=by rw [hw1];exact .push _
 have hb1:w1.heap[H.size]?=some (.cells (zc P zf) zf (0,0)):=by rw [hw1];exact zn
 refine jv rfl fun w2 hw2=>?_
 have hx2:Ext [] w1.heap w2.heap:=by rw [hw2];exact .push _
 have hb2:w2.heap[w1.heap.size]?=some (.cells (zc P zf) zf (0,0)):=by rw [hw2];exact zn
 refine jw rfl fun w3 hw3=>?_
 have hx3:Ext [] H w3.heap:=by rw [hw3];exact hx1.trans hx2
 have hb3:w3.heap[w1.heap.size]?=some (.cells (zc P zf) zf (0,0)):=by rw [hw3];exact hb2
 have hd3:w3.heap[H.size]?=some (.cells (zc P zf) zf (0,0)):=by rw [hw3];exact hx2.get hb1 (by simp)
 have s1:=lt_of_get hb1
 have s3:=lt_of_get hb3
 have hI3:=hI.ext hx3 (by simp) (by simp)
 refine qm (s:=.slc) (some ⟨w1.heap.size,0,none⟩,32,32) slA ?_
 have htake:qj P zfu #[.pointer (some ⟨b,0,none⟩),.int .i64 32] w3 fun e w'=>Ext [b] w3.heap w'.heap∧InW w'.heap b F (dgS s).2∧∃ y k,e=.returned (zcr y)∧Cells w'.heap y.1 (byteCells k)∧y.2.1=k.length∧k.length≤32∧(∀ c ∈ xw y,c ∈ F)∧setCells (zc P zf) 0 (byteCells k)=(byteCells (dgS s).1).toArray:=by
  have hnil:setCells (zc P zf) 0 (byteCells [])=(byteCells Bl.nought).toArray:=by rw [qpq];rfl
  cases s with
  | none =>
   obtain ⟨x,e,h1,h2,h3,h4⟩:=id hI3
   refine zqh ?_
   unfold zij
   refine zac ?_
   refine jl rfl ?_
   simp only [xq,jr]
   refine jh (s:=.int .i64) (t:=e) rfl h1 rfl ?_
   refine zab (by simpa using h4) ?_
   exact ⟨.refl _ _,hI3,(none,0,0),[],rfl,.inl rfl,rfl,by simp,by simp [xw],hnil⟩
  | some R =>
   refine (qgy (n:=32) rfl hI3 (by omega)).mono ?_
   rintro e w' ⟨hx,⟨hl,rfl,h3⟩ | ⟨hl,y,rfl,hC,hy,ho,h3⟩⟩
   ·have e1:dgS (some R)=(Bl.nought,none):=by unfold dgS;simp only;rw [if_neg (by omega)]
    rw [e1]
    exact ⟨hx,h3,(none,0,0),[],rfl,.inl rfl,rfl,by simp,by simp [xw],hnil⟩
   ·have e1:dgS (some R)=(R.take 32,some (R.drop 32)):=by unfold dgS;simp only;rw [if_pos hl]
    rw [e1]
    have hl32:(R.take 32).length=32:=by simp;omega
    exact ⟨hx,h3,y,R.take 32,rfl,hC,by rw [hl32,hy],by omega,ho,zan (by rw [zcD];simp [hl32])⟩
 refine zl htake ?_
 rintro e w4 ⟨hx4,hI4,y,k,rfl,hC,hyl,hk,ho,hset⟩
 refine ⟨y,rfl,⟨qm (s:=.slc) (some ⟨w1.heap.size,0,none⟩,32,32) slA rfl,?_⟩⟩
 have hb4:=hx4.get hb3 (by simp;omega)
 have hd4:=hx4.get hd3 (by simp;omega)
 refine qok hk rfl hb4 zcD hC hyl fun n w5 hw5=>?_
 rw [hset] at hw5
 have hx5:Ext [w1.heap.size] w4.heap w5.heap:=by rw [hw5];exact Ext.set _ (by simp)
 have hb5:w5.heap[w1.heap.size]?=some (.cells (byteCells (dgS s).1).toArray zf (0,0)):=by rw [hw5];exact qw hb4
 refine je rfl hb5 (by simp [zwo]) ?_
 have hd5:=hx5.get hd4 (by simp;omega)
 refine z9j (k:=(dgS s).1) zwo rfl hd5 zcD fun w6 hw6=>?_
 have hx6:Ext [H.size] w5.heap w6.heap:=by rw [hw6];exact Ext.set _ (by simp)
 have hd6:w6.heap[H.size]?=some (.cells (byteCells (dgS s).1).toArray zf (0,0)):=by rw [hw6];exact qw hd5
 refine je rfl hd6 (by simp [zwo]) ?_
 refine ⟨rfl,?_,?_⟩
 ·refine (hI4.ext hx5 (by simp;omega) fun c hc h=>?_).ext hx6 (by simp;omega) fun c hc h=>?_
  ·simp at h;subst h;have:=hF _ hc;omega
  ·simp at h;subst h;have:=hF _ hc;omega
 ·have h03:Ext [b] H w3.heap:=hx3.mono (by simp)
  exact ((h03.trans hx4).own hx5 (fun c hc hlt=>by simp at hc;omega)).own hx6 (fun c hc hlt=>by simp at hc;omega)
theorem bNk (n:Int) (w:World):(Instr.build zi #[(0,.int .i64 n)]).run P w=.ok (.agg #[.int .i64 n,.string .empty,.int .i64 0,.slice none 0 0,.slice none 0 0]) w:=by kernel_rfl
theorem qpd (s:ByteArray) (n:Int) (a0 a1 a2 a3 a4 a5 a6 a7 a8 a9 a10 a11 a12 a13 a14 a15 a16 a17 a18 a19 a20 a21 a22 a23 a24 a25 a26 a27 a28 a29 a30 a31:UInt8) (w:World):(Instr.build ql #[(0,.string s),(1,.int .i64 n),(2,arr [a0,a1,a2,a3,a4,a5,a6,a7,a8,a9,a10,a11,a12,a13,a14,a15,a16,a17,a18,a19,a20,a21,a22,a23,a24,a25,a26,a27,a28,a29,a30,a31])]).run P w=.ok (.agg ([Value.string s,Value.int .i64 n]++byteCells [a0,a1,a2,a3,a4,a5,a6,a7,a8,a9,a10,a11,a12,a13,a14,a15,a16,a17,a18,a19,a20,a21,a22,a23,a24,a25,a26,a27,a28,a29,a30,a31]).toArray) w:=by kernel_rfl
theorem bT3 (s:ByteArray) (n:Int) {k:List UInt8} (hk:k.length=32) (w:World):(Instr.build ql #[(0,.string s),(1,.int .i64 n),(2,arr k)]).run P w=.ok (.agg ([Value.string s,Value.int .i64 n]++byteCells k).toArray) w:=by
 match k,hk with
 | [a0,a1,a2,a3,a4,a5,a6,a7,a8,a9,a10,a11,a12,a13,a14,a15,a16,a17,a18,a19,a20,a21,a22,a23,a24,a25,a26,a27,a28,a29,a30,a31],_=>exact qpd s n a0 a1 a2 a3 a4 a5 a6 a7 a8 a9 a10 a11 a12 a13 a14 a15 a16 a17 a18 a19 a20 a21 a22 a23 a24 a25 a26 a27 a28 a29 a30 a31 w
theorem qm0 (m:Nat) (n:Nat) (w:World):(Builtin.min_ #[zdi,zdi] zdi #[.int .u64 (n:Int),.int .u64 (m:Int)]).run P w=.ok (.int .u64 ((min n m:Nat):Int)) w:=by
 rw [run_min_int2]
 congr 2
 split <;> omega
def zgo:Nat→Rest→List (List UInt8) × Rest
 | 0,s=>([],s)
 | k+1,s=>((zgo k s).1++[(dgS (zgo k s).2).1],(dgS (zgo k s).2).2)
def qg1 (s:Rest):Itm × Rest:=(⟨(txS 16 s).1,((min (nmS (txS 16 s).2).1 9:Nat):Int),(dgS (nmS (txS 16 s).2).2).1⟩,(dgS (nmS (txS 16 s).2).2).2)
def zer:Nat→Rest→List Itm × Rest
 | 0,s=>([],s)
 | k+1,s=>((zer k s).1++[(qg1 (zer k s).2).1],(qg1 (zer k s).2).2)
def zb9 (s:Rest):Nod × Rest :=
 if min (nmS s).1 9=1 then (⟨1,(txS 64 (nmS s).2).1,0,[],[]⟩,(txS 64 (nmS s).2).2)
 else if min (nmS s).1 9=2 then (⟨2,[],((min (nmS (nmS s).2).1 1025:Nat):Int),(zgo ((min (nmS (nmS s).2).1 1025+63) / 64) (nmS (nmS s).2).2).1,[]⟩,(zgo ((min (nmS (nmS s).2).1 1025+63) / 64) (nmS (nmS s).2).2).2)
 else if min (nmS s).1 9=3 then (⟨3,[],0,[],(zer (min (nmS (nmS s).2).1 65) (nmS (nmS s).2).2).1⟩,(zer (min (nmS (nmS s).2).1 65) (nmS (nmS s).2).2).2)
 else (⟨((min (nmS s).1 9:Nat):Int),[],0,[],[]⟩,(nmS s).2)
theorem zsv {s:Rest}:∀ {k:Nat},(zgo k s).1.length=k
 | 0=>rfl
 | k+1=>by rw [zgo,List.length_append,zsv];rfl
theorem z2e {s:Rest}:∀ {k:Nat},∀ p ∈ (zgo k s).1,p.length=32
 | 0,p,h=>by cases h
 | k+1,p,h=>by
  simp only [zgo,List.mem_append,List.mem_singleton] at h
  rcases h with h | rfl
  ·exact z2e p h
  ·exact zwo
theorem zvn {s:Rest}:∀ {k:Nat},(zer k s).1.length=k
 | 0=>rfl
 | k+1=>by rw [zer,List.length_append,zvn];rfl
theorem z7n {s:Rest}:∀ {k:Nat},∀ p ∈ (zer k s).1,p.sum.length=32
 | 0,p,h=>by cases h
 | k+1,p,h=>by
  simp only [zer,List.mem_append,List.mem_singleton] at h
  rcases h with h | rfl
  ·exact z7n p h
  ·exact zwo
theorem z97 {s:Rest}:(∀ p ∈ (zb9 s).1.parts,p.length=32)∧∀ i ∈ (zb9 s).1.items,i.sum.length=32:=by
 unfold zb9
 split
 ·simp
 ·split
  ·exact ⟨z2e,by simp⟩
  ·split
   ·exact ⟨by simp,z7n⟩
   ·simp
structure NodM (H:Heap) (B:Nat) (n:Nod) (xp xi:Option Addr × Nat × Nat):Prop where
 parts:Mine H B zf 32 xp (n.parts.flatMap Bl.zgg)
 items:Mine H B ql 34 xi (n.items.flatMap zfk)
 p32:∀ p ∈ n.parts,p.length=32
 i32:∀ i ∈ n.items,i.sum.length=32
theorem NodM.nodW {H:Heap} {B:Nat} {n:Nod} {xp xi:Option Addr × Nat × Nat} (h:NodM H B n xp xi):NodW H n xp xi:=by
 have l1:=h.parts.len
 have l2:=h.items.len
 rw [qg Bl.zgg Bl.zd7] at l1
 rw [qg zfk zax] at l2
 exact ⟨h.parts.cells,by omega,h.items.cells,by omega,h.p32,h.i32⟩
theorem NodM.ext {H H':Heap} {B:Nat} {n:Nod} {xp xi:Option Addr × Nat × Nat} {M:List Nat} (h:NodM H B n xp xi) (hx:Ext M H H') (hM:∀ m ∈ M,m < B):NodM H' B n xp xi :=
 ⟨h.parts.ext hx (fun c hc hm=>by have:=jc h.parts c hc;have:=hM c hm;omega),h.items.ext hx (fun c hc hm=>by have:=jc h.items c hc;have:=hM c hm;omega),h.p32,h.i32⟩
theorem NodM.mono {H:Heap} {B B':Nat} {n:Nod} {xp xi:Option Addr × Nat × Nat} (h:NodM H B n xp xi) (hB:B'≤B):NodM H B' n xp xi :=
 ⟨h.parts.mono hB,h.items.mono hB,h.p32,h.i32⟩
theorem NodM.bare {H:Heap} {B:Nat} {n:Nod} (hp:n.parts=[]) (hi:n.items=[]):NodM H B n (none,0,0) (none,0,0) :=
 ⟨by rw [hp];exact .inl ⟨rfl,rfl⟩,by rw [hi];exact .inl ⟨rfl,rfl⟩,by rw [hp];simp,by rw [hi];simp⟩
theorem qg2 {w:World} {H:Heap} {B:Nat} {x:Option Addr × Nat × Nat} {T:List Itm} {i:Itm} {Q:World→Prop} (hw:w.heap=H) (hm:Mine H B ql 34 x (T.flatMap zfk)) (hBs:B≤H.size) (hlen:T.length≤1073741824) (hQ:∀ w',Ext [] H w'.heap→Q w') {K:(Option Addr × Nat × Nat)→World→Prop}
  (hK:∀ x' w',Mine w'.heap B ql 34 x' ((T++[i]).flatMap zfk)→Ext (xw x) H w'.heap→(∀ c ∈ xw x',c ∈ xw x ∨ H.size≤c)→K x' w') :
  zal P (Instr.buildSlice zai 1 #[(0,.agg (zfk i).toArray)]) .slc w fun (t27:(Option Addr × Nat × Nat)) w_13=>Q w_13 ∧
  zal P (Builtin.append_ #[zai,zai] zai #[(Value.slice x.1 x.2.1 x.2.2),(Value.slice t27.1 t27.2.1 t27.2.2)]) .slc w_13 K:=by
 have hlx:x.2.1=T.length:=by
  have:=hm.len
  rw [qg zfk zax] at this
  omega
 refine zad (s:=.slc) (some ⟨w.heap.size,0,none⟩,1,1) _ (zd0 ET uST (v:=.agg (zfk i).toArray) (by simp [Value.cells,zax]) (by omega) (by omega)) ?_
 subst hw
 have hxp:Ext [] w.heap (w.heap.push (.cells (Value.agg (zfk i).toArray).cells ql)):=.push _
 refine ⟨hQ _ hxp,?_⟩
 refine zcq (bts:=56) (n:=1) (us:=zfk i) (H:=w.heap.push (.cells (Value.agg (zfk i).toArray).cells ql)) ET (by omega) uST (za5 uST) rfl (hm.ext hxp (by simp)) (by simp;omega)
  (Src.slc rfl (.inr ⟨w.heap.size,0,_,_,_,rfl,zn,by simp [zfv],by simp [zfv,List.take_of_length_le]⟩) (by rw [zax])) z3r (by omega) ?_
 intro x' w4 hm4 hl4 hx4 hs4
 refine hK x' w4 (by rw [List.flatMap_append,List.flatMap_singleton];exact hm4) ((hxp.mono (by simp)).trans hx4) (fun c hc=>?_)
 rcases hs4 c hc with h | h
 ·exact .inl h
 ·right;have:=hxp.1;omega
set_option maxHeartbeats 8000000 in
theorem qkq {w:World} {H:Heap} {b:Nat} {F:List Nat} {s:Rest} (hw:w.heap=H) (hI:InW H b F s) (hF:∀ c ∈ F,c < H.size) :
  qj P zr5 #[.pointer (some ⟨b,0,none⟩)] w fun e w'=>∃ xp xi,e=.returned (.agg (zdu (zb9 s).1 xp xi).toArray)∧NodM w'.heap H.size (zb9 s).1 xp xi∧InW w'.heap b F (zb9 s).2∧Ext [b] H w'.heap:=by
 have hbl:=hI.lt
 refine z5z ?_
 unfold zrd
 refine jv hw fun w1 hw1=>?_
 have hx1:Ext [] H w1.heap:=by rw [hw1];exact .push _
 have hd1:w1.heap[H.size]?=some (.cells (zc P zi) zi (0,0)):=by rw [hw1];exact zn
 have s1:=lt_of_get hd1
 refine zl (z9q rfl (hI.ext hx1 (by simp) (by simp))) ?_
 rintro e w2 ⟨rfl,hI2,hx2⟩
 refine ⟨((nmS s).1:Int),rfl,?_⟩
 have s2:=hx2.1
 refine qm (s:=.int .u64) ((min (nmS s).1 9:Nat):Int) (qm0 9 _ _) ?_
 refine z4e (by omega) (by omega) ?_
 refine qm (s:=.any) _ (bNk _ _) ?_
 refine qid ⟨((min (nmS s).1 9:Nat):Int),[],0,[],[]⟩ (none,0,0) (none,0,0) rfl fun w4 hw4=>?_
 have hx4:Ext [] w2.heap w4.heap:=by rw [hw4];exact .push _
 have hn4:w4.heap[w2.heap.size]?=some (.cells (zdu ⟨((min (nmS s).1 9:Nat):Int),[],0,[],[]⟩ (none,0,0) (none,0,0)).toArray zi (0,0)):=by rw [hw4];exact zn
 have s4:=lt_of_get hn4
 have hd4:=hx4.get (hx2.get hd1 (by simp;omega)) (by simp)
 have hI4:=hI2.ext hx4 (by simp) (by simp)
 have hx04:Ext [b] H w4.heap:=((hx1.mono (by simp)).trans hx2).trans (hx4.mono (by simp))
 refine Go.Fw.joinP_of (fun _ W=>∃ xp xi,W.heap[w2.heap.size]?=some (.cells (zdu (zb9 s).1 xp xi).toArray zi (0,0))∧(Mine W.heap w4.heap.size zf 32 xp ((zb9 s).1.parts.flatMap Bl.zgg)∧Mine W.heap w4.heap.size ql 34 xi ((zb9 s).1.items.flatMap zfk))∧InW W.heap b F (zb9 s).2∧Ext [b] H W.heap∧W.heap[H.size]?=some (.cells (zc P zi) zi (0,0))) ?_ ?_
 rotate_left
 ·rintro _ W ⟨xp,xi,h1,h2,h3,h4,hd⟩
  refine je rfl h1 rfl ?_
  refine zbj (v:=.agg (zdu (zb9 s).1 xp xi).toArray) (by rw [szN];rfl) (by simp [Value.cells,zdu]) (by
   intro v hv
   simp only [Value.cells,zdu,List.mem_cons,List.not_mem_nil,or_false] at hv
   rcases hv with rfl | rfl | rfl | rfl | rfl <;> rfl) rfl hd (by rw [zcN];simp [Value.cells,zdu]) fun w5 hw5=>?_
  rw [zan (by rw [zcN];simp [Value.cells,zdu])] at hw5
  have hx5:Ext [H.size] W.heap w5.heap:=by rw [hw5];exact Ext.set _ (by simp)
  have hd5:w5.heap[H.size]?=some (.cells (zdu (zb9 s).1 xp xi).toArray zi (0,0)):=by rw [hw5];exact qw hd
  refine je rfl hd5 rfl ?_
  have hnod:NodM w5.heap H.size (zb9 s).1 xp xi:=by
   obtain ⟨m1,m2⟩:=h2
   exact (NodM.ext ⟨m1,m2,z97.1,z97.2⟩ hx5 (fun c hc=>by simp at hc;omega)).mono (by omega)
  refine ⟨xp,xi,rfl,hnod,h3.ext hx5 (by simp;omega) (fun c hc h=>by simp at h;subst h;have:=hF _ hc;omega),h4.own hx5 (fun c hc hlt=>by simp at hc;omega)⟩
 refine jh (s:=.int .i64) (t:=((min (nmS s).1 9:Nat):Int)) rfl hn4 rfl ?_
 refine zac ?_
 have nil2:∀ {W:World},Mine W.heap w4.heap.size zf 32 (none,0,0) (([]:List (List UInt8)).flatMap Bl.zgg)∧Mine W.heap w4.heap.size ql 34 (none,0,0) (([]:List Itm).flatMap zfk):=⟨.inl ⟨rfl,rfl⟩,.inl ⟨rfl,rfl⟩⟩
 have bn:w2.heap.size ≠ b:=by have:=hx2.1;have:=hx1.1;omega
 have fn:∀ c ∈ F,w2.heap.size ≠ c:=fun c hc=>by have:=hF c hc;have:=hx2.1;have:=hx1.1;omega
 refine zb3 (fun h1=>?_) (fun h1=>?_)
 ·have h1:min (nmS s).1 9=1:=by omega
  have hr:zb9 s=(⟨1,(txS 64 (nmS s).2).1,0,[],[]⟩,(txS 64 (nmS s).2).2):=by unfold zb9;rw [if_pos h1]
  rw [h1] at hn4
  refine zl (qft (most:=64) rfl hI4 (by omega)) ?_
  rintro e w5 ⟨rfl,hI5,hx5⟩
  refine ⟨strOf (txS 64 (nmS s).2).1,rfl,?_⟩
  have hn5:=hx5.get hn4 (by simp;exact bn)
  refine zcd rfl hn5 (by simp [zdu]) fun w6 hw6=>?_
  have hx6:Ext [w2.heap.size] w5.heap w6.heap:=by rw [hw6];exact Ext.set _ (by simp)
  rw [hr]
  refine ⟨(none,0,0),(none,0,0),by rw [hw6];exact qw hn5,nil2,hI5.ext hx6 (by simp;exact bn.symm) (fun c hc h=>by simp at h;exact fn c hc h.symm),(hx04.trans hx5).own hx6 (fun c hc hlt=>by simp at hc;omega),hx6.get (hx5.get hd4 (by simp;omega)) (by simp;omega)⟩
 refine zb3 (fun h2=>?_) (fun h2=>?_)
 ·have h1:min (nmS s).1 9 ≠ 1:=by omega
  have h2:min (nmS s).1 9=2:=by omega
  generalize hs2:nmS (nmS s).2=a2 at *
  have hr:zb9 s=(⟨2,[],((min a2.1 1025:Nat):Int),(zgo ((min a2.1 1025+63) / 64) a2.2).1,[]⟩,(zgo ((min a2.1 1025+63) / 64) a2.2).2):=by unfold zb9;rw [if_neg h1,if_pos h2,hs2]
  rw [h2] at hn4
  refine zl (z9q rfl hI4) ?_
  rintro e w5 ⟨rfl,hI5,hx5⟩
  refine ⟨((nmS (nmS s).2).1:Int),rfl,?_⟩
  rw [hs2] at hI5 ⊢
  refine qm (s:=.int .u64) ((min a2.1 1025:Nat):Int) (qm0 1025 _ _) ?_
  generalize hK:min a2.1 1025=K at *
  have hK2:K≤1025:=by omega
  refine z4e (by omega) (by omega) ?_
  have hn5:=hx5.get hn4 (by simp;exact bn)
  refine zcd rfl hn5 (by simp [zdu]) fun w6 hw6=>?_
  have hx6:Ext [w2.heap.size] w5.heap w6.heap:=by rw [hw6];exact Ext.set _ (by simp)
  have hn6:w6.heap[w2.heap.size]?=some (.cells (zdu ⟨2,[],(K:Int),[],[]⟩ (none,0,0) (none,0,0)).toArray zi (0,0)):=by rw [hw6];exact qw hn5
  refine jh (s:=.int .i64) (t:=(K:Int)) rfl hn6 rfl ?_
  have hparts:qj P ziv #[.int .i64 (K:Int)] w6 fun e w'=>e=.returned (.int .i64 (((K+63) / 64:Nat):Int))∧w'=w6:=by
   refine ztr ?_
   unfold zlm
   refine xu ((K:Int)+64) rfl (by omega) (by omega) ?_
   refine zbu ((K:Int)+63) (by omega) (by omega) (by omega) ?_
   refine zyl (K+63) 64 (by omega) rfl (by omega) (by omega) ?_
   exact ⟨rfl,rfl⟩
  refine zl hparts ?_
  rintro e w7 ⟨rfl,rfl⟩
  refine ⟨(((K+63) / 64:Nat):Int),rfl,?_⟩
  have hI6:=hI5.ext hx6 (by simp;exact bn.symm) (fun c hc h=>by simp at h;exact fn c hc h.symm)
  have hx06:=(hx04.trans hx5).own hx6 (fun c hc hlt=>by simp at hc;omega)
  have hd6:=hx6.get (hx5.get hd4 (by simp;omega)) (by simp;omega)
  have s46:w4.heap.size≤w7.heap.size:=Nat.le_trans hx5.1 hx6.1
  generalize hM:(K+63) / 64=M at *
  rw [hr]
  refine jd (fun (t:Int) W=>∃ (i:Nat) (xp:Option Addr × Nat × Nat),t=(i:Int)∧i≤M∧W.heap[w2.heap.size]?=some (.cells (zdu ⟨2,[],(K:Int),(zgo i a2.2).1,[]⟩ xp (none,0,0)).toArray zi (0,0))∧Mine W.heap w4.heap.size zf 32 xp ((zgo i a2.2).1.flatMap Bl.zgg) ∧
   InW W.heap b F (zgo i a2.2).2∧Ext [b] H W.heap∧W.heap[H.size]?=some (.cells (zc P zi) zi (0,0))∧w4.heap.size≤W.heap.size) (fun t _=>(M - t).toNat) ⟨0,(none,0,0),rfl,Nat.zero_le _,hn6,.inl ⟨rfl,rfl⟩,hI6,hx06,hd6,s46⟩ ?_
  rintro _ W ⟨i,xp,rfl,hi,g1,g2,g3,g4,g5,g6⟩
  refine zq (fun hlt=>?_) (fun hge=>?_)
  ·refine jw rfl fun w8 hw8=>?_
   rw [← hw8] at g1 g2 g3 g4 g5 g6
   refine jh (s:=.slc) (t:=xp) rfl g1 rfl ?_
   refine zl (qka rfl g3 (fun c hc=>by have:=hF c hc;have:=g4.1;omega)) ?_
   rintro e w9 ⟨rfl,hI9,hx9⟩
   refine ⟨arr (dgS (zgo i a2.2).2).1,rfl,?_⟩
   have k1:=hx9.get g1 (by simp;exact bn)
   have k2:=g2.ext hx9 (fun c hc h=>by simp at h;subst h;have:=jc g2 _ hc;omega)
   have s9:=hx9.1
   refine ⟨jh (s:=.slc) (o:=3) (t:=xp) (K:=fun z=>Value.slice z.1 z.2.1 z.2.2=Value.slice xp.1 xp.2.1 xp.2.2) rfl k1 rfl rfl,?_⟩
   refine z9z rfl k2 (by omega) zwo (by rw [zsv];omega) (fun w10 hx10=>jh (s:=.slc) (o:=3) (t:=xp) (K:=fun z=>Value.slice z.1 z.2.1 z.2.2=Value.slice xp.1 xp.2.1 xp.2.2) rfl (hx10.get k1 (by simp)) rfl rfl) fun xp2 w11 hm11 hx11 hs11=>?_
   have own3:∀ {c:Nat},c < w4.heap.size→c ∉ xw xp:=fun h hc=>by have:=jc g2 _ hc;omega
   have k11:=hx11.get k1 (own3 s4)
   refine zcd rfl k11 (by simp [zdu]) fun w12 hw12=>?_
   have hx12:Ext [w2.heap.size] w11.heap w12.heap:=by rw [hw12];exact Ext.set _ (by simp)
   have s11:=hx11.1
   have s12:=hx12.1
   refine xu ((i+1:Nat):Int) (by simp) (by omega) (by omega) ?_
   refine ⟨⟨i+1,xp2,rfl,by omega,by rw [hw12];exact qw k11,hm11.ext hx12 (fun c hc h=>by simp at h;subst h;have:=jc hm11 _ hc;omega),?_,?_,?_,by omega⟩,by omega⟩
   ·refine (hI9.ext hx11 (own3 (by omega)) fun c hc=>own3 (by have:=hF c hc;omega)).ext hx12 (by simp;exact bn.symm) (fun c hc h=>by simp at h;exact fn c hc h.symm)
   ·exact ((g4.trans hx9).own hx11 (fun c hc hlt=>by have:=jc g2 _ hc;omega)).own hx12 (fun c hc hlt=>by simp at hc;omega)
   ·exact hx12.get (hx11.get (hx9.get g5 (by simp;omega)) (own3 (by omega))) (by simp;omega)
  ·obtain rfl:i=M:=by omega
   exact ⟨xp,(none,0,0),g1,⟨g2,.inl ⟨rfl,rfl⟩⟩,g3,g4,g5⟩
 refine zb3 (fun h3=>?_) (fun h3=>?_)
 ·have h1:min (nmS s).1 9 ≠ 1:=by omega
  have h2:min (nmS s).1 9 ≠ 2:=by omega
  have h3:min (nmS s).1 9=3:=by omega
  generalize hs2:nmS (nmS s).2=a2 at *
  have hr:zb9 s=(⟨3,[],0,[],(zer (min a2.1 65) a2.2).1⟩,(zer (min a2.1 65) a2.2).2):=by unfold zb9;rw [if_neg h1,if_neg h2,if_pos h3,hs2]
  rw [h3] at hn4
  refine zl (z9q rfl hI4) ?_
  rintro e w7 ⟨rfl,hI6,hx5⟩
  refine ⟨((nmS (nmS s).2).1:Int),rfl,?_⟩
  rw [hs2] at hI6 ⊢
  refine qm (s:=.int .u64) ((min a2.1 65:Nat):Int) (qm0 65 _ _) ?_
  generalize hM:min a2.1 65=M at *
  have hn6:=hx5.get hn4 (by simp;exact bn)
  have hx06:=hx04.trans hx5
  have hd6:=hx5.get hd4 (by simp;omega)
  have s46:w4.heap.size≤w7.heap.size:=hx5.1
  rw [hr]
  refine jd (fun (t:Int) W=>∃ (i:Nat) (xi:Option Addr × Nat × Nat),t=(i:Int)∧i≤M∧W.heap[w2.heap.size]?=some (.cells (zdu ⟨3,[],0,[],(zer i a2.2).1⟩ (none,0,0) xi).toArray zi (0,0))∧Mine W.heap w4.heap.size ql 34 xi ((zer i a2.2).1.flatMap zfk) ∧
   InW W.heap b F (zer i a2.2).2∧Ext [b] H W.heap∧W.heap[H.size]?=some (.cells (zc P zi) zi (0,0))∧w4.heap.size≤W.heap.size) (fun t _=>(M - t).toNat) ⟨0,(none,0,0),rfl,Nat.zero_le _,hn6,.inl ⟨rfl,rfl⟩,hI6,hx06,hd6,s46⟩ ?_
  rintro _ W ⟨i,xi,rfl,hi,g1,g2,g3,g4,g5,g6⟩
  refine zq (fun hlt=>?_) (fun hge=>?_)
  ·refine jw rfl fun w8 hw8=>?_
   rw [← hw8] at g1 g2 g3 g4 g5 g6
   have re:∀ {W':World},W'.heap[w2.heap.size]?=some (.cells (zdu ⟨3,[],0,[],(zer i a2.2).1⟩ (none,0,0) xi).toArray zi (0,0))→ld .slc (⟨w2.heap.size,4,none⟩:Addr) W' fun z=>Value.slice z.1 z.2.1 z.2.2=Value.slice xi.1 xi.2.1 xi.2.2:=fun h=>jh (s:=.slc) (o:=4) (t:=xi) (K:=fun z=>Value.slice z.1 z.2.1 z.2.2=Value.slice xi.1 xi.2.1 xi.2.2) rfl h rfl rfl
   refine jh (s:=.slc) (t:=xi) rfl g1 rfl ?_
   refine zl (qft (most:=16) rfl g3 (by omega)) ?_
   rintro e w9 ⟨rfl,hI9,hx9⟩
   refine ⟨strOf (txS 16 (zer i a2.2).2).1,rfl,?_⟩
   have k9:=hx9.get g1 (by simp;exact bn)
   refine ⟨re k9,?_⟩
   refine zl (z9q rfl hI9) ?_
   rintro e w10 ⟨rfl,hI10,hx10⟩
   refine ⟨((nmS (txS 16 (zer i a2.2).2).2).1:Int),rfl,?_⟩
   have k10:=hx10.get k9 (by simp;exact bn)
   refine ⟨re k10,?_⟩
   refine qm (s:=.int .u64) ((min (nmS (txS 16 (zer i a2.2).2).2).1 9:Nat):Int) (qm0 9 _ _) ?_
   refine z4e (by omega) (by omega) ?_
   have s9:=hx9.1
   have s10:=hx10.1
   have s04:=g4.1
   refine zl (qka rfl hI10 (fun c hc=>by have:=hF c hc;omega)) ?_
   rintro e w11 ⟨rfl,hI11,hx11⟩
   refine ⟨arr (dgS (nmS (txS 16 (zer i a2.2).2).2).2).1,rfl,?_⟩
   have k11:=hx11.get k10 (by simp;exact bn)
   refine ⟨qm (s:=.int .u64) ((min (nmS (txS 16 (zer i a2.2).2).2).1 9:Nat):Int) (qm0 9 _ _) rfl,re k11,?_⟩
   refine qm (s:=.any) (.agg (zfk (qg1 (zer i a2.2).2).1).toArray) (by rw [bT3 _ _ zwo];unfold zfk qg1;rw [Bl.zgx zwo];rfl) ?_
   have hx811:=(hx9.trans hx10).trans hx11
   have k2:=g2.ext hx811 (fun c hc h=>by simp at h;subst h;have:=jc g2 _ hc;omega)
   have s11:=hx11.1
   refine qg2 (i:=(qg1 (zer i a2.2).2).1) rfl k2 (by omega) (by rw [zvn];omega) (fun w12 hx12=>re (hx12.get k11 (by simp))) fun xi2 w13 hm13 hx13 hs13=>?_
   have own3:∀ {c:Nat},c < w4.heap.size→c ∉ xw xi:=fun h hc=>by have:=jc g2 _ hc;omega
   have k13:=hx13.get k11 (own3 s4)
   refine zcd rfl k13 (by simp [zdu]) fun w14 hw14=>?_
   have hx14:Ext [w2.heap.size] w13.heap w14.heap:=by rw [hw14];exact Ext.set _ (by simp)
   have s13:=hx13.1
   have s14:=hx14.1
   refine ⟨((i+1:Nat):Int),(by rw [wrap_u64] <;> omega),?_⟩
   have hI:InW w11.heap b F (zer (i+1) a2.2).2:=hI11
   refine ⟨⟨i+1,xi2,rfl,by omega,by rw [hw14];exact qw k13,hm13.ext hx14 (fun c hc h=>by simp at h;subst h;have:=jc hm13 _ hc;omega),?_,?_,?_,by omega⟩,by omega⟩
   ·refine (hI.ext hx13 (own3 (by omega)) fun c hc=>own3 (by have:=hF c hc;omega)).ext hx14 (by simp;exact bn.symm) (fun c hc h=>by simp at h;exact fn c hc h.symm)
   ·exact ((g4.trans hx811).own hx13 (fun c hc hlt=>by have:=jc g2 _ hc;omega)).own hx14 (fun c hc hlt=>by simp at hc;omega)
   ·exact hx14.get (hx13.get (hx811.get g5 (by simp;omega)) (own3 (by omega))) (by simp;omega)
  ·obtain rfl:i=M:=by omega
   exact ⟨(none,0,0),xi,g1,⟨.inl ⟨rfl,rfl⟩,g2⟩,g3,g4,g5⟩
 ·have h1:min (nmS s).1 9 ≠ 1:=by omega
  have h2:min (nmS s).1 9 ≠ 2:=by omega
  have h3:min (nmS s).1 9 ≠ 3:=by omega
  have hr:zb9 s=(⟨((min (nmS s).1 9:Nat):Int),[],0,[],[]⟩,(nmS s).2):=by unfold zb9;rw [if_neg h1,if_neg h2,if_neg h3]
  rw [hr]
  exact ⟨(none,0,0),(none,0,0),hn4,nil2,hI4,hx04,hd4⟩
def zhu:Nod:=⟨0,[],0,[],[]⟩
def zsd (L:List UInt8):Nod × Int:=if (zb9 (some L)).2=some []∧zc4 (zb9 (some L)).1=true then ((zb9 (some L)).1,0) else (zhu,21)
theorem qfy {m:Nat} {s:Rest}:(txS m s).1.length≤m:=by
 unfold txS
 cases s with
 | none=>simp
 | some R =>
  simp only
  cases h:zxn m R with
  | none=>simp
  | some y =>
   unfold zxn at h
   cases h2:rdNum R with
   | none=>rw [h2] at h;cases h
   | some z =>
    rw [h2] at h
    simp only at h
    split at h
    ·cases h
    ·rename_i h3
     simp only [Option.some.injEq] at h
     rw [← h];simp;omega
theorem zwg {s:Rest}:∀ {k:Nat},∀ i ∈ (zer k s).1,i.name.length≤16
 | 0,p,h=>by cases h
 | k+1,p,h=>by
  simp only [zer,List.mem_append,List.mem_singleton] at h
  rcases h with h | rfl
  ·exact zwg p h
  ·exact qfy
theorem zwl {s:Rest}:(zb9 s).1.size≤1025∧(∀ i ∈ (zb9 s).1.items,i.name.length≤16)∧(zb9 s).1.items.length≤65:=by
 unfold zb9
 split
 ·simp
 ·split
  ·exact ⟨by simp only;omega,by simp,by simp⟩
  ·split
   ·exact ⟨by simp,zwg,by simp only;rw [zvn];omega⟩
   ·simp
theorem bN0 (w:World):(Instr.build zi #[]).run P w=.ok (.agg (zdu zhu (none,0,0) (none,0,0)).toArray) w:=by kernel_rfl
theorem stN {w:World} {H:Heap} {b:Nat} {c:Array Value} {T:TypeId} (n:Nod) (xp xi:Option Addr × Nat × Nat) (hw:w.heap=H) (hb:H[b]?=some (.cells c T (0,0))) (hs:c.size=5) {K:World→Prop}
  (hK:∀ w',w'.heap=H.setIfInBounds b (.cells (zdu n xp xi).toArray T (0,0))→K w'):zby P (storeVar zi (⟨b,0,none⟩:Addr) (.agg (zdu n xp xi).toArray)) w K:=by
 refine zbj (v:=.agg (zdu n xp xi).toArray) (by rw [szN];rfl) (by simp [Value.cells,zdu]) (by
   intro v hv
   simp only [Value.cells,zdu,List.mem_cons,List.not_mem_nil,or_false] at hv
   rcases hv with rfl | rfl | rfl | rfl | rfl <;> rfl) hw hb (by rw [hs];simp [Value.cells,zdu]) fun w5 hw5=>hK w5 ?_
 rw [zan (by rw [hs];simp [Value.cells,zdu])] at hw5
 simpa [Value.cells] using hw5
theorem zty {w:World} {H:Heap} {b:Nat} {R:Array Value→World→Prop} (hw:w.heap=H) (hb:H[b]?=some (.cells (zc P zi) zi (0,0))) (hR:∀ w',Ext [b] H w'.heap→R (zdu zhu (none,0,0) (none,0,0)).toArray w') :
  zaz P (Instr.build zi #[]) .any w fun (t:Value)=>zby P (storeVar zi (⟨b,0,none⟩:Addr) t) w fun w2=>ldA P 5 (⟨b,0,none⟩:Addr) w2 fun t4=>R t4 w2:=by
 refine qm (s:=.any) _ (bN0 _) ?_
 refine stN zhu (none,0,0) (none,0,0) hw hb zcN fun w2 hw2=>?_
 have hb2:w2.heap[b]?=some (.cells (zdu zhu (none,0,0) (none,0,0)).toArray zi (0,0)):=by rw [hw2];exact qw hb
 refine je rfl hb2 rfl ?_
 exact hR w2 (by rw [hw2];exact Ext.set _ (by simp))
set_option maxHeartbeats 4000000 in
theorem qh0 {w:World} {H:Heap} {a:Option Addr} {n nc:Nat} {L:List UInt8} (hw:w.heap=H) (hL:Cells H a (byteCells L)) (hn:n=L.length) (hl:L.length≤1099511627776) :
  qj P zou #[.slice a n nc] w fun e w'=>∃ xp xi,e=.returned (.tuple #[.agg (zdu (zsd L).1 xp xi).toArray,.int .i64 (zsd L).2])∧NodM w'.heap H.size (zsd L).1 xp xi∧Ext [] H w'.heap:=by
 refine z0m ?_
 unfold zon
 refine jv hw fun w1 hw1=>?_
 have hx1:Ext [] H w1.heap:=by rw [hw1];exact .push _
 have hd1:w1.heap[H.size]?=some (.cells (zc P zi) zi (0,0)):=by rw [hw1];exact zn
 have s1:=lt_of_get hd1
 refine zl (qm4 rfl (hL.ext hx1 (by simp)) hn hl) ?_
 rintro e w2 ⟨b,F,rfl,hI2,hx2,hb2,hF2,hb2l,hF2l⟩
 refine ⟨some ⟨b,0,none⟩,rfl,?_⟩
 have hd2:=hx2.get hd1 (by simp)
 refine zl (qkq rfl hI2 hF2l) ?_
 rintro e w3 ⟨xp,xi,rfl,hN3,hI3,hx3⟩
 refine ⟨.agg (zdu (zb9 (some L)).1 xp xi).toArray,rfl,?_⟩
 have hsm:=zwl (s:=some L)
 have hdec:zsd L=if (zb9 (some L)).2=some []∧zc4 (zb9 (some L)).1=true then ((zb9 (some L)).1,0) else (zhu,21):=rfl
 generalize zb9 (some L)=D at *
 have hx13:Ext [] w1.heap w3.heap:=hx2.own hx3 (fun c hc hlt=>by simp at hc;omega)
 have hd3:=hx13.get hd1 (by simp)
 refine qid D.1 xp xi rfl fun w5 hw5=>?_
 have hx5:Ext [] w3.heap w5.heap:=by rw [hw5];exact .push _
 have hn5:w5.heap[w3.heap.size]?=some (.cells (zdu D.1 xp xi).toArray zi (0,0)):=by rw [hw5];exact zn
 have s3:=hx13.1
 have hd5:=hx5.get hd3 (by simp)
 have hx05:=(hx1.trans hx13).trans hx5
 have bad:∀ {W W':World},¬ (D.2=some []∧zc4 D.1=true)→Ext [] w5.heap W.heap→Ext [H.size] W.heap W'.heap→∃ xp xi,Ending.returned (.tuple #[.agg (zdu zhu (none,0,0) (none,0,0)).toArray,.int .i64 21])=.returned (.tuple #[.agg (zdu (zsd L).1 xp xi).toArray,.int .i64 (zsd L).2])∧NodM W'.heap H.size (zsd L).1 xp xi∧Ext [] H W'.heap:=by
  intro W W' h hxa hxb
  rw [hdec,if_neg h]
  exact ⟨_,_,rfl,.bare rfl rfl,(hx05.trans hxa).own hxb (fun c hc hlt=>by simp at hc;omega)⟩
 refine Go.Fw.joinP_of (fun _ W=>Ext [] w5.heap W.heap∧(D.2=some []∧zc4 D.1=true)) ?_ ?_
 ·refine zl (qmg rfl (hI3.ext hx5 (by simp) (by simp))) ?_
  rintro e w6 ⟨rfl,rfl⟩
  refine ⟨decide (D.2=some []),rfl,?_⟩
  by_cases he:D.2=some []
  ·refine jl (by simp [he]) ?_
   refine je rfl hn5 rfl ?_
   refine zl (qhu rfl (hN3.nodW.ext hx5) (by omega) (fun i hi=>by have:=hsm.2.1 i hi;omega) (by omega)) ?_
   rintro e w8 ⟨rfl,hx8⟩
   refine ⟨zc4 D.1,rfl,?_⟩
   cases hr:zc4 D.1 with
   | true=>exact jl rfl ⟨hx8,he,rfl⟩
   | false=>exact zab rfl (zty rfl (hx8.get hd5 (by simp)) fun w9 hx9=>bad (fun h=>by rw [hr] at h;cases h.2) hx8 hx9)
  ·exact zab (by simp [he]) (zty rfl hd5 fun w7 hx7=>bad (fun h=>he h.1) (.refl _ _) hx7)
 ·rintro _ W ⟨hx,hok⟩
  refine je rfl (hx.get hn5 (by simp)) rfl ?_
  refine stN D.1 xp xi rfl (hx.get hd5 (by simp)) zcN fun w11 hw11=>?_
  have hx11:Ext [H.size] W.heap w11.heap:=by rw [hw11];exact Ext.set _ (by simp)
  have hd11:w11.heap[H.size]?=some (.cells (zdu D.1 xp xi).toArray zi (0,0)):=by rw [hw11];exact qw (hx.get hd5 (by simp))
  refine je rfl hd11 rfl ?_
  rw [hdec,if_pos hok]
  refine ⟨xp,xi,rfl,?_,(hx05.trans hx).own hx11 (fun c hc hlt=>by simp at hc;omega)⟩
  have s2:=hx2.1
  exact (((hN3.ext hx5 (by simp)).ext hx (by simp)).ext hx11 (fun c hc=>by simp at hc;omega)).mono (by omega)
def zup (v:Option (List UInt8)) (k:List UInt8) (kind:Int):Nod × Int :=
 if Bl.got v k ≠ 0 then (zhu,Bl.got v k) else if (zsd (v.getD [])).2 ≠ 0 ∨ (zsd (v.getD [])).1.kind ≠ kind then (zhu,21) else ((zsd (v.getD [])).1,0)
set_option maxHeartbeats 4000000 in
theorem qgd {w:World} {H:Heap} {fp:List Nat} {p:Nat} {q:Int} {r:Bl.SM} {c:Nat} {k:List UInt8} {kind:Int} (hw:w.heap=H) (hS:Bl.Store H fp p q r c) (hk:k.length=32) (hR:Bl.Rounds H) (hlen:∀ L,Bl.zay r k=some L→L.length < 1099511627776) :
  qj P zh7 #[.pointer (some ⟨p,0,none⟩),arr k,.int .i64 kind] w fun e w'=>∃ xp xi,e=.returned (.tuple #[.agg (zdu (zup (Bl.zay r k) k kind).1 xp xi).toArray,.int .i64 (zup (Bl.zay r k) k kind).2])∧NodM w'.heap H.size (zup (Bl.zay r k) k kind).1 xp xi∧Ext [] H w'.heap:=by
 refine qa6 ?_
 unfold zvx
 rw [show (arr k).cells=(byteCells k).toArray from rfl]
 refine jv hw fun w1 hw1=>?_
 have hx1:Ext [] H w1.heap:=by rw [hw1];exact .push _
 have hb1:w1.heap[H.size]?=some (.cells (byteCells k).toArray zf (0,0)):=by rw [hw1];exact zn
 have s1:=lt_of_get hb1
 refine jv rfl fun w2 hw2=>?_
 have hx2:Ext [] w1.heap w2.heap:=by rw [hw2];exact .push _
 have hd2:w2.heap[w1.heap.size]?=some (.cells (zc P zi) zi (0,0)):=by rw [hw2];exact zn
 have s2:=lt_of_get hd2
 have hx02:=hx1.trans hx2
 refine je rfl (hx2.get hb1 (by simp)) (by simp [hk]) ?_
 refine zl (Bl.qgd (k:=k) rfl (hS.ext hx02 (by simp)) hk (hR.ext hx02 (by simp)) hlen) ?_
 rintro e w3 ⟨x,rfl,hx3,hgot,hno⟩
 refine ⟨(x,Bl.got (Bl.zay r k) k),rfl,?_⟩
 have hd3:=hx3.get hd2 (by simp)
 have hx03:=hx02.trans hx3
 refine zb1 (fun h=>?_) (fun h=>?_)
 ·have hv:zup (Bl.zay r k) k kind=(zhu,Bl.got (Bl.zay r k) k):=by unfold zup;rw [if_pos h]
  refine zty rfl hd3 fun w4 hx4=>?_
  rw [hv]
  exact ⟨_,_,rfl,.bare rfl rfl,hx03.own hx4 (fun c hc hlt=>by simp at hc;omega)⟩
 have h:Bl.got (Bl.zay r k) k=0:=h
 obtain ⟨L,hL,hm⟩:=hgot h
 have hv:zup (Bl.zay r k) k kind=if (zsd L).2 ≠ 0 ∨ (zsd L).1.kind ≠ kind then (zhu,21) else ((zsd L).1,0):=by
  unfold zup;rw [if_neg (by simpa using h),hL];rfl
 have hxl:x.2.1=L.length:=by have:=hm.len;simp at this;omega
 refine zl (qh0 (L:=L) rfl hm.cells hxl (by have:=hlen L hL;omega)) ?_
 rintro e w5 ⟨xp,xi,rfl,hN5,hx5⟩
 refine ⟨(.agg (zdu (zsd L).1 xp xi).toArray,(zsd L).2),rfl,?_⟩
 generalize zsd L=D at *
 have hd5:=hx5.get hd3 (by simp)
 have s3:=hx3.1
 have s5:=hx5.1
 refine qid D.1 xp xi rfl fun w7 hw7=>?_
 have hx7:Ext [] w5.heap w7.heap:=by rw [hw7];exact .push _
 have hn7:w7.heap[w5.heap.size]?=some (.cells (zdu D.1 xp xi).toArray zi (0,0)):=by rw [hw7];exact zn
 have hd7:=hx7.get hd5 (by simp)
 have hx07:=(hx03.trans hx5).trans hx7
 have bad:∀ {W':World},(D.2 ≠ 0 ∨ D.1.kind ≠ kind)→Ext [w1.heap.size] w7.heap W'.heap→∃ xp xi,Ending.returned (.tuple #[.agg (zdu zhu (none,0,0) (none,0,0)).toArray,.int .i64 21])=.returned (.tuple #[.agg (zdu (zup (Bl.zay r k) k kind).1 xp xi).toArray,.int .i64 (zup (Bl.zay r k) k kind).2])∧NodM W'.heap H.size (zup (Bl.zay r k) k kind).1 xp xi∧Ext [] H W'.heap:=by
  intro W' h hxb
  rw [hv,if_pos h]
  exact ⟨_,_,rfl,.bare rfl rfl,hx07.own hxb (fun c hc hlt=>by simp at hc;omega)⟩
 refine Go.Fw.joinP_of (fun _ W=>W.heap=w7.heap∧¬ (D.2 ≠ 0 ∨ D.1.kind ≠ kind)) ?_ ?_
 ·refine zb1 (fun h1=>?_) (fun h1=>?_)
  ·exact zty rfl hd7 fun w8 hx8=>bad (.inl h1) hx8
  ·refine jh (s:=.int .i64) (t:=D.1.kind) rfl hn7 rfl ?_
   refine zb1 (fun h2=>?_) (fun h2=>?_)
   ·exact zty rfl hd7 fun w8 hx8=>bad (.inr h2) hx8
   ·exact ⟨rfl,fun h=>h.elim (fun h=>h h1) (fun h=>h h2)⟩
 ·rintro _ W ⟨hW,hok⟩
  rw [← hW] at hn7 hd7
  have hxW:Ext [] H W.heap:=by rw [hW];exact hx07
  refine je rfl hn7 rfl ?_
  refine stN D.1 xp xi rfl hd7 zcN fun w11 hw11=>?_
  have hx11:Ext [w1.heap.size] W.heap w11.heap:=by rw [hw11];exact Ext.set _ (by simp)
  have hd11:w11.heap[w1.heap.size]?=some (.cells (zdu D.1 xp xi).toArray zi (0,0)):=by rw [hw11];exact qw hd7
  refine je rfl hd11 rfl ?_
  rw [hv,if_neg hok]
  refine ⟨xp,xi,rfl,?_,hxW.own hx11 (fun c hc hlt=>by simp at hc;omega)⟩
  have k1:=hN5.ext hx7 (by simp)
  rw [← hW] at k1
  exact (k1.ext hx11 (fun c hc=>by simp at hc;omega)).mono (by omega)
theorem qf4 {w:World} {H:Heap} {b:Nat} (hw:w.heap=H) (hb:H[b]?=some (.cells #[.pointer none,.slice none 0 0] ji (0,0))) :
  qj P zbq #[.pointer (some ⟨b,0,none⟩)] w fun e w'=>e=.returned (.string (strOf []))∧w'.heap=H:=by
 refine zf0 ?_
 unfold zc0
 refine jw hw fun w1 hw1=>?_
 simp only [xq,jr,Nat.zero_add]
 refine jh (s:=.slc) (t:=(none,0,0)) hw1 hb rfl ?_
 refine jh (s:=.slc) (t:=(none,0,0)) hw1 hb rfl ?_
 refine zad (s:=.ptr) none w1 (Lib.run_unsafeSliceData_nil w1 _ _ _ _) ?_
 refine ⟨jh (s:=.slc) (t:=(none,0,0)) hw1 hb rfl rfl,?_⟩
 refine zad (s:=.str) (strOf []) w1 (Lib.run_unsafeString_none w1 _ _ _ _) ?_
 exact ⟨rfl,hw1⟩
def z3x (g:List UInt8→Nod × Int) (size:Int):Nat→List (List UInt8)→List UInt8→List UInt8 × Int
 | _,[],acc=>(acc,0)
 | i,p :: ps,acc=>if (g p).2 ≠ 0 then ([],(g p).2) else if ((g p).1.data.length:Int) ≠ min 64 (size - 64 * i) then ([],21) else z3x g size (i+1) ps (acc++(g p).1.data)
def zgp (r:Bl.SM) (n:Nod):List UInt8 × Int:=z3x (fun k=>zup (Bl.zay r k) k 1) n.size 0 n.parts []
theorem z6c {L:List UInt8}:(zsd L).1.data.length≤64∧((zsd L).2=0→(zsd L).1.kind=1→(zsd L).1.data ≠ []):=by
 unfold zsd
 split
 ·rename_i h
  constructor
  ·unfold zb9
   split
   ·exact qfy
   ·split
    ·simp
    ·split <;> simp
  ·intro _ hk hd
   have h2:=h.2
   unfold zc4 at h2
   rw [if_pos hk] at h2
   simp only [decide_eq_true_eq] at h2
   simp only at hd
   rw [hd] at h2
   simp at h2
 ·exact ⟨by simp [zhu],by intro h;simp at h⟩
theorem qgi {v:Option (List UInt8)} {k:List UInt8}:(zup v k 1).1.data.length≤64∧((zup v k 1).2=0→(zup v k 1).1.data ≠ []):=by
 unfold zup
 split
 ·rename_i h;exact ⟨by simp [zhu],fun h'=>absurd h' h⟩
 ·split
  ·exact ⟨by simp [zhu],by intro h;simp at h⟩
  ·rename_i h
   refine ⟨z6c.1,fun _=>z6c.2 ?_ ?_⟩
   ·exact Decidable.byContradiction fun h'=>h (.inl h')
   ·exact Decidable.byContradiction fun h'=>h (.inr h')
set_option maxHeartbeats 4000000 in
theorem qg4 {w:World} {H:Heap} {fp:List Nat} {p:Nat} {q:Int} {r:Bl.SM} {c:Nat} {n:Nod} {xp xi:Option Addr × Nat × Nat} (hw:w.heap=H) (hS:Bl.Store H fp p q r c) (hR:Bl.Rounds H) (hlen:∀ k L,Bl.zay r k=some L→L.length < 1099511627776)
  (hN:NodW H n xp xi) (hpl:n.parts.length≤65536) (hs1:-1099511627776≤n.size) (hs2:n.size≤1099511627776) :
  qj P zbz #[.pointer (some ⟨p,0,none⟩),.agg (zdu n xp xi).toArray] w fun e w'=>e=.returned (.tuple #[.string (strOf (zgp r n).1),.int .i64 (zgp r n).2])∧Ext [] H w'.heap:=by
 refine zya ?_
 unfold zmg
 refine jv hw fun w1 hw1=>?_
 have hx1:Ext [] H w1.heap:=by rw [hw1];exact .push _
 have hb1:w1.heap[H.size]?=some (.cells (zdu n xp xi).toArray zi (0,0)):=by rw [hw1];exact zn
 have s1:=lt_of_get hb1
 refine jv rfl fun w2 hw2=>?_
 have hx2:Ext [] w1.heap w2.heap:=by rw [hw2];exact .push _
 have hd2:w2.heap[w1.heap.size]?=some (.cells #[.pointer none,.slice none 0 0] ji (0,0)):=by rw [hw2,zcB];exact zn
 have s2:=lt_of_get hd2
 have hx02:=hx1.trans hx2
 refine jh (s:=.slc) (t:=xp) rfl (hx2.get hb1 (by simp)) rfl ?_
 refine jd (fun (s:Int) W=>∃ (i:Nat) (acc:List UInt8),s=(i:Int)∧i≤n.parts.length∧z3x (fun k=>zup (Bl.zay r k) k 1) n.size i (n.parts.drop i) acc=zgp r n∧Ext [] H W.heap∧w2.heap.size≤W.heap.size∧acc.length≤64 * i∧W.heap[H.size]?=some (.cells (zdu n xp xi).toArray zi (0,0)) ∧
   Bd W.heap w2.heap.size w1.heap.size acc∧((acc=[]∧W.heap[w1.heap.size]?=some (.cells #[.pointer none,.slice none 0 0] ji (0,0))) ∨ acc ≠ [])) (fun s _=>(n.parts.length - s).toNat)
  ⟨0,[],rfl,Nat.zero_le _,rfl,hx02,Nat.le_refl _,by simp,hx2.get hb1 (by simp),⟨(none,0,0),none,hd2,.inl rfl,s2,.inl ⟨rfl,rfl⟩⟩,.inl ⟨rfl,hd2⟩⟩ ?_
 rintro _ W ⟨i,acc,rfl,hi,hc,hx,hsz,hal,hbW,hB,hne⟩
 have hxl:xp.2.1=n.parts.length:=hN.plen
 refine zq (fun hlt=>?_) (fun hge=>?_)
 ·have hil:i < n.parts.length:=by omega
  have hget:=List.getElem?_eq_getElem hil
  have hk32:=hN.p32 _ (List.getElem_mem hil)
  rw [List.drop_eq_getElem_cons hil] at hc
  generalize n.parts[i]=k at hget hk32 hc
  refine zjm (i:=i) Bl.zd7 (by omega) rfl (hN.parts.ext hx (by simp)) hxl hget rfl ?_
  rw [Bl.zgx hk32]
  refine qie hk32 rfl fun w5 hw5=>?_
  have hx5:Ext [] W.heap w5.heap:=by rw [hw5];exact .push _
  have hb5:w5.heap[W.heap.size]?=some (.cells (byteCells k).toArray zf (0,0)):=by rw [hw5];exact zn
  refine je rfl hb5 (by simp [hk32]) ?_
  have hx05:=hx.trans hx5
  refine zl (qgd (k:=k) rfl (hS.ext hx05 (by simp)) hk32 (hR.ext hx05 (by simp)) (hlen k)) ?_
  rintro e w6 ⟨yp,yi,rfl,hN6,hx6⟩
  refine ⟨(.agg (zdu (zup (Bl.zay r k) k 1).1 yp yi).toArray,(zup (Bl.zay r k) k 1).2),rfl,?_⟩
  have hgd:=qgi (v:=Bl.zay r k) (k:=k)
  unfold z3x at hc
  generalize zup (Bl.zay r k) k 1=D at *
  refine qid D.1 yp yi rfl fun w8 hw8=>?_
  have hx8:Ext [] w6.heap w8.heap:=by rw [hw8];exact .push _
  have hn8:w8.heap[w6.heap.size]?=some (.cells (zdu D.1 yp yi).toArray zi (0,0)):=by rw [hw8];exact zn
  have hxW8:=(hx5.trans hx6).trans hx8
  refine zb1 (fun h=>?_) (fun h=>?_)
  ·rw [if_pos h] at hc
   rw [← hc]
   exact ⟨rfl,hx.trans hxW8⟩
  have h:D.2=0:=h
  rw [if_neg (by simpa using h)] at hc
  refine jh (s:=.str) (t:=strOf D.1.data) rfl hn8 rfl ?_
  refine jh (s:=.int .i64) (t:=n.size) rfl (hxW8.get hbW (by simp)) rfl ?_
  refine zfq ((64 * i:Nat):Int) (by omega) (by omega) (by omega) ?_
  refine zbu (n.size - 64 * (i:Int)) (by omega) (by omega) (by omega) ?_
  refine qm (s:=.int .i64) (min 64 (n.size - 64 * (i:Int))) (by
   rw [run_min_int2];congr 2
   by_cases h:(n.size - 64 * (i:Int)) < 64
   ·rw [if_pos h];omega
   ·rw [if_neg h];omega) ?_
  refine zb1 (fun h2=>?_) (fun h2=>?_)
  ·simp only [jy] at h2
   rw [if_pos h2] at hc
   rw [← hc]
   exact ⟨rfl,hx.trans hxW8⟩
  simp only [jy] at h2
  rw [if_neg (by simpa using h2)] at hc
  refine jh (s:=.str) (t:=strOf D.1.data) rfl hn8 rfl ?_
  have hB8:Bd w8.heap w2.heap.size w1.heap.size acc:=by
   obtain ⟨x,pp,b1,b2,b3,b4⟩:=hB
   exact ⟨x,pp,hxW8.get b1 (by simp),b2,b3,b4.ext hxW8 (by simp)⟩
  have s8:=hxW8.1
  refine zl (zj3 (M:=D.1.data) rfl hB8 (by omega) (by omega)) ?_
  rintro e w9 ⟨rfl,hB9,F,hx9,hF⟩
  refine ⟨((D.1.data.length:Int),.nilIface),rfl,?_⟩
  refine xu ((i+1:Nat):Int) (by simp) (by omega) (by omega) ?_
  have s9:=hx9.1
  refine ⟨⟨i+1,acc++D.1.data,rfl,by omega,hc,(hx.trans hxW8).own hx9 (fun c hc hlt=>by rcases hF c hc with h | h <;> omega),by omega,by simp;omega,hx9.get (hxW8.get hbW (by simp)) (fun hc=>by rcases hF _ hc with h | h <;> omega),hB9,.inr (by have:=hgd.2 h;simp [this])⟩,by omega⟩
 ·obtain rfl:i=n.parts.length:=by omega
  rw [List.drop_length] at hc
  unfold z3x at hc
  rw [← hc]
  rcases hne with ⟨rfl,h0⟩ | h0
  ·refine zl (qf4 rfl h0) ?_
   rintro e w6 ⟨rfl,h6⟩
   exact ⟨strOf [],rfl,rfl,by rw [h6];exact hx⟩
  ·refine zl (string_c rfl hB h0 (by omega)) ?_
   rintro e w6 ⟨rfl,F6,hx6,hF6⟩
   exact ⟨strOf acc,rfl,rfl,hx.own hx6 (by intro b hb hlt;have:=hF6 b hb;omega)⟩
theorem qcr {w:World} {H:Heap} {B:Nat} {x:Option Addr × Nat × Nat} {p:Path} (hw:w.heap=H) (hm:Mine H B qc 1 x (strRow p)) (hp:p.length≤1099511627776) :
  qj P zbh #[.slice x.1 x.2.1 x.2.2] w fun e w'=>∃ x',e=.returned (zcr x')∧Mine w'.heap H.size qc 1 x' (strRow p)∧Ext [] H w'.heap:=by
 have hl:x.2.1=p.length:=by have:=hm.len;simp at this;omega
 have hC:=hm.cells
 refine zhx ?_
 unfold zcw
 by_cases h:x.1.isNone=true
 ·have hx0:x.1=none:=by simpa using h
  refine zab h ?_
  rcases hm with ⟨_,h2⟩ | ⟨_,_,h2,_⟩
  ·exact ⟨(none,0,0),rfl,.inl ⟨rfl,h2⟩,by rw [hw];exact .refl _ _⟩
  ·rw [hx0] at h2;cases h2
 ·refine jl (by cases hh:x.1 with
   | none=>rw [hh] at h;exact absurd rfl h
   | some v=>rfl) ?_
  refine qo5 hw fun w1 hx1 hm1=>?_
  refine qmo (xs:=[]) (ys:=p) rfl hm1 hx1.1 (hC.ext hx1 (by simp)) hl (by simp;omega) fun x' w2 hm2 hx2=>?_
  exact ⟨x',rfl,hm2,hx1.own hx2 (fun c hc hlt=>by simp [xw] at hc;omega)⟩
def zls (g:List UInt8→Int→Nod × Int) (ct:Nod→List UInt8 × Int) (rec:List Itm→Path→List Fil→List Fil × Int) (names:Path):List Itm→List Fil→List Fil × Int
 | [],out=>(out,0)
 | it :: its,out =>
  if out.length=512 then ([],8) else if 8 < names.length+1 then ([],42)
  else if (g it.sum it.kind).2 ≠ 0 then ([],(g it.sum it.kind).2)
  else if it.kind=3 then
   if (rec (g it.sum it.kind).1.items (names++[it.name]) (out++[⟨vw (names++[it.name]),true,[]⟩])).2 ≠ 0 then ([],(rec (g it.sum it.kind).1.items (names++[it.name]) (out++[⟨vw (names++[it.name]),true,[]⟩])).2)
   else zls g ct rec names its (rec (g it.sum it.kind).1.items (names++[it.name]) (out++[⟨vw (names++[it.name]),true,[]⟩])).1
  else if (ct (g it.sum it.kind).1).2 ≠ 0 then ([],(ct (g it.sum it.kind).1).2)
  else zls g ct rec names its (out++[⟨vw (names++[it.name]),false,(ct (g it.sum it.kind).1).1⟩])
def zsy (g:List UInt8→Int→Nod × Int) (ct:Nod→List UInt8 × Int):Nat→List Itm→Path→List Fil→List Fil × Int
 | 0,_,_,_=>([],42)
 | f+1,items,names,out=>zls g ct (zsy g ct f) names items out
def zdy (H:Heap) (B:Nat) (out:Option Addr × Nat × Nat) (res:List Fil × Int) (e:Ending) (w':World):Prop :=
 ∃ x',e=.returned (.tuple #[zcr x',.int .i64 res.2])∧Ext (xw out) H w'.heap∧(res.2=0→Mine w'.heap B zk 3 x' (res.1.flatMap zbc)∧res.1.length≤512)∧∀ c ∈ xw x',c ∈ xw out ∨ H.size≤c
def zof (H:Heap) (B:Nat) (out:Option Addr × Nat × Nat) (res:List Fil × Int) (next:List Fil→List Fil × Int) (s:Option Addr × Nat × Nat) (w':World):Prop :=
 ∃ L,next L=res∧Ext (xw out) H w'.heap∧Mine w'.heap B zk 3 s (L.flatMap zbc)∧L.length≤512∧∀ c ∈ xw s,c ∈ xw out ∨ H.size≤c
theorem zvt {v:Option (List UInt8)} {k:List UInt8} {kind:Int}:(zup v k kind).1.items.length≤65∧(∀ i ∈ (zup v k kind).1.items,i.name.length≤16)∧(zup v k kind).1.size≤1025∧0≤(zup v k kind).1.size∧(zup v k kind).1.parts.length≤65536:=by
 have hd:∀ L,(zsd L).1.items.length≤65∧(∀ i ∈ (zsd L).1.items,i.name.length≤16)∧(zsd L).1.size≤1025∧0≤(zsd L).1.size∧(zsd L).1.parts.length≤65536:=by
  intro L
  unfold zsd
  split
  ·have:=zwl (s:=some L)
   refine ⟨this.2.2,this.2.1,this.1,?_,?_⟩
   ·unfold zb9;repeat' split
    all_goals simp
   ·unfold zb9;repeat' split
    all_goals simp [zsv]
    all_goals omega
  ·simp [zhu]
 unfold zup
 split
 ·simp [zhu]
 ·split
  ·simp [zhu]
  ·exact hd _
theorem qgj {w:World} {H:Heap} {B:Nat} {x:Option Addr × Nat × Nat} {T:List Fil} {i:Fil} (hw:w.heap=H) (hm:Mine H B zk 3 x (T.flatMap zbc)) (hBs:B≤H.size) (hlen:T.length≤1073741824) {K:(Option Addr × Nat × Nat)→World→Prop}
  (hK:∀ x' w',Mine w'.heap B zk 3 x' ((T++[i]).flatMap zbc)→Ext (xw x) H w'.heap→(∀ c ∈ xw x',c ∈ xw x ∨ H.size≤c)→K x' w') :
  zal P (Instr.buildSlice zo 1 #[(0,.agg (zbc i).toArray)]) .slc w fun (t27:(Option Addr × Nat × Nat)) w_13 =>
  zal P (Builtin.append_ #[zo,zo] zo #[(Value.slice x.1 x.2.1 x.2.2),(Value.slice t27.1 t27.2.1 t27.2.2)]) .slc w_13 K:=by
 have hlx:x.2.1=T.length:=by have:=hm.len;rw [qah] at this;omega
 refine zad (s:=.slc) (some ⟨w.heap.size,0,none⟩,1,1) _ (zd0 EFi uFs (v:=.agg (zbc i).toArray) (by simp [Value.cells,zbg]) (by omega) (by omega)) ?_
 subst hw
 have hxp:Ext [] w.heap (w.heap.push (.cells (Value.agg (zbc i).toArray).cells zk)):=.push _
 refine zcq (bts:=40) (n:=1) (us:=zbc i) (H:=w.heap.push (.cells (Value.agg (zbc i).toArray).cells zk)) EFi (by omega) uFs (za5 uFs) rfl (hm.ext hxp (by simp)) (by simp;omega)
  (Src.slc rfl (.inr ⟨w.heap.size,0,_,_,_,rfl,zn,by simp [zfv],by simp [zfv,List.take_of_length_le]⟩) (by rw [zbg])) ztj (by omega) ?_
 intro x' w4 hm4 hl4 hx4 hs4
 refine hK x' w4 (by rw [List.flatMap_append,List.flatMap_singleton];exact hm4) ((hxp.mono (by simp)).trans hx4) (fun c hc=>?_)
 rcases hs4 c hc with h | h
 ·exact .inl h
 ·right;have:=hxp.1;omega
theorem qmb {H:Heap} {B:Nat} {out:Option Addr × Nat × Nat} {res:List Fil × Int} {next:List Fil→List Fil × Int} {fp:List Nat} {p:Nat} {q:Int} {r:Bl.SM} {c:Nat} {rec:List Itm→Path→List Fil→List Fil × Int} {names':Path} {d:Bool} {D:Nod} {yp yi y28 o:Option Addr × Nat × Nat} {b13 b15:Nat} {L:List Fil} {w:World}
  (hS:Bl.Store w.heap fp p q r c) (hR:Bl.Rounds w.heap) (hfp:∀ b ∈ fp,b < B) (hB0:0 < B) (hBs:B≤H.size) (hlen:∀ k L,Bl.zay r k=some L→L.length < 1099511627776)
  (hx:Ext (xw out) H w.heap) (h13:w.heap[b13]?=some (.cells (zdu D yp yi).toArray zi (0,0))) (h15:w.heap[b15]?=some (.cells (zbc ⟨vw names',d,[]⟩).toArray zk (0,0))) (hb15:H.size≤b15) (hb13:H.size≤b13)
  (hno:b15 ∉ xw o) (hno13:b13 ∉ xw o) (hD:NodM w.heap B D yp yi) (hDp:D.parts.length≤65536) (hDs:0≤D.size) (hDs2:D.size≤1025) (hY:Mine w.heap B qc 1 y28 (strRow names'))
  (hO:Mine w.heap B zk 3 o (L.flatMap zbc)) (hL:L.length < 512) (hoo:∀ c ∈ xw o,c ∈ xw out ∨ H.size≤c)
  (hdir:d=true→res=if (rec D.items names' (L++[(⟨vw names',true,[]⟩:Fil)])).2 ≠ 0 then ([],(rec D.items names' (L++[(⟨vw names',true,[]⟩:Fil)])).2) else next (rec D.items names' (L++[(⟨vw names',true,[]⟩:Fil)])).1)
  (hfile:d=false→res=if (zgp r D).2 ≠ 0 then ([],(zgp r D).2) else next (L++[(⟨vw names',false,(zgp r D).1⟩:Fil)]))
  (hrec:d=true→∀ {w2:World} {o2:Option Addr × Nat × Nat},Ext (xw o) w.heap w2.heap→Mine w2.heap B zk 3 o2 ((L++[(⟨vw names',true,[]⟩:Fil)]).flatMap zbc)→(∀ c ∈ xw o2,c ∈ xw o ∨ w.heap.size≤c)→NodM w2.heap B D yp yi→Mine w2.heap B qc 1 y28 (strRow names') →
   qj P zb4 #[.pointer (some ⟨p,0,none⟩),.agg (zdu D yp yi).toArray,.slice y28.1 y28.2.1 y28.2.2,.slice o2.1 o2.2.1 o2.2.2] w2 (zdy w2.heap B o2 (rec D.items names' (L++[(⟨vw names',true,[]⟩:Fil)])))) :
  Go.Fw.joinP Unit (fun k_2 =>
  ld .bool (⟨b15,1,none⟩:Addr) w fun (t56:Bool) =>
  xk (!t56) (
  ldA P 5 (⟨b13,0,none⟩:Addr) w fun t60 =>
  xg P zbz #[(Value.pointer (some ⟨p,0,none⟩)),(Value.agg t60)] [.str,.int .i64] true w fun (t61:(ByteArray × Int)) w_16 =>
  stC (⟨b15,2,none⟩:Addr) (Value.string t61.1) w_16 fun w_17 =>
  xk (t61.2 != 0) (
  zdy H B out res (.returned (Value.tuple #[(Value.slice none 0 0),(Value.int .i64 t61.2)])) w_17) (
  k_2 () w_17)) (
  k_2 () w)) (fun _ w_18 =>
  ldA P 3 (⟨b15,0,none⟩:Addr) w_18 fun t69 =>
  zal P (Instr.buildSlice zo 1 #[(0,(Value.agg t69))]) .slc w_18 fun (t70:(Option Addr × Nat × Nat)) w_19 =>
  zal P (Builtin.append_ #[zo,zo] zo #[(Value.slice o.1 o.2.1 o.2.2),(Value.slice t70.1 t70.2.1 t70.2.2)]) .slc w_19 fun (t71:(Option Addr × Nat × Nat)) w_20 =>
  ld .bool (⟨b15,1,none⟩:Addr) w_20 fun (t73:Bool) =>
  xk t73 (
  ldA P 5 (⟨b13,0,none⟩:Addr) w_20 fun t76 =>
  xg P zb4 #[(Value.pointer (some ⟨p,0,none⟩)),(Value.agg t76),(Value.slice y28.1 y28.2.1 y28.2.2),(Value.slice t71.1 t71.2.1 t71.2.2)] [.slc,.int .i64] true w_20 fun (t79:((Option Addr × Nat × Nat) × Int)) w_21 =>
  xk (t79.2 != 0) (
  zdy H B out res (.returned (Value.tuple #[(Value.slice none 0 0),(Value.int .i64 t79.2)])) w_21) (
  zof H B out res next (t79.1.1,t79.1.2.1,t79.1.2.2) w_21)) (
  zof H B out res next (t71.1,t71.2.1,t71.2.2) w_20)):=by
 have bs:=lt_of_get h15
 have sH:=hx.1
 refine Go.Fw.joinP_of (fun _ W=>Ext [b15] w.heap W.heap∧W.heap[b15]?=some (.cells (zbc ⟨vw names',d,if d then [] else (zgp r D).1⟩).toArray zk (0,0))∧(d=true→W.heap=w.heap)∧(d=false→(zgp r D).2=0)) ?_ ?_
 ·refine jh (s:=.bool) (t:=d) rfl h15 rfl ?_
  cases d with
  | true=>exact jl rfl ⟨.refl _ _,h15,fun _=>rfl,fun h=>by cases h⟩
  | false =>
   refine zab rfl ?_
   refine je rfl h13 rfl ?_
   refine zl (qg4 rfl hS hR hlen hD.nodW hDp (by omega) (by omega)) ?_
   rintro e w16 ⟨rfl,hx16⟩
   refine ⟨(strOf (zgp r D).1,(zgp r D).2),rfl,?_⟩
   have k15:=hx16.get h15 (by simp)
   refine zcd rfl k15 (by simp [zbc]) fun w17 hw17=>?_
   have hx17:Ext [b15] w16.heap w17.heap:=by rw [hw17];exact Ext.set _ (by simp)
   refine zb1 (fun h=>?_) (fun h=>?_)
   ·have h:(zgp r D).2 ≠ 0:=h
    have hr:=hfile rfl
    rw [if_pos h] at hr
    refine ⟨(none,0,0),by rw [hr];rfl,(hx.trans (hx16.mono (by simp))).own hx17 (fun c hc hlt=>by simp at hc;omega),fun h0=>?_,by simp [xw]⟩
    rw [hr] at h0;exact absurd h0 h
   ·exact ⟨(hx16.mono (by simp)).trans hx17,by rw [hw17];exact qw k15,(fun h=>by cases h),fun _=>h⟩
 rintro _ W ⟨hxW,hbW,hWd,hok⟩
 have sW:=hxW.1
 refine je rfl hbW rfl ?_
 have hOW:=hO.ext hxW (fun c hc h=>by simp at h;subst h;exact hno hc)
 refine qgj rfl hOW (by omega) (by omega) fun x71 w20 hm20 hx20 hs20=>?_
 have s20:=hx20.1
 refine jh (s:=.bool) (t:=d) rfl (hx20.get hbW hno) rfl ?_
 have hx020:Ext (xw out) H w20.heap:=(hx.own hxW (fun c hc hlt=>by simp at hc;omega)).own hx20 (fun c hc hlt=>by
  rcases hoo c hc with h | h
  ·exact h
  ·omega)
 have ho20:∀ c ∈ xw x71,c ∈ xw out ∨ H.size≤c:=fun c hc=>by
  rcases hs20 c hc with h | h
  ·exact hoo c h
  ·right;omega
 cases d with
 | false =>
  have h0:=hok rfl
  have hr:=hfile rfl
  rw [if_neg (by simpa using h0)] at hr
  exact jl rfl ⟨_,hr.symm,hx020,hm20,by simp;omega,ho20⟩
 | true =>
  refine zab rfl ?_
  have hWw:=hWd rfl
  rw [hWw] at hx20 hs20
  have k13:=hx20.get h13 hno13
  refine je rfl k13 rfl ?_
  have hN:=hD.parts
  have ne1:=zge hD.parts hO (by decide)
  have ne2:=zge hD.items hO (by decide)
  have ne3:=zge hY hO (by decide)
  refine zl (hrec rfl hx20 hm20 hs20 ⟨hD.parts.ext hx20 ne1,hD.items.ext hx20 ne2,hD.p32,hD.i32⟩ (hY.ext hx20 ne3)) ?_
  rintro e w21 ⟨x79,rfl,hx21,hres,hs21⟩
  have hr:=hdir rfl
  generalize rec D.items names' (L++[(⟨vw names',true,[]⟩:Fil)])=Z at *
  refine ⟨(x79,Z.2),rfl,?_⟩
  have hx021:Ext (xw out) H w21.heap:=hx020.own hx21 (fun c hc hlt=>by
   rcases ho20 c hc with h | h
   ·exact h
   ·omega)
  have ho21:∀ c ∈ xw x79,c ∈ xw out ∨ H.size≤c:=fun c hc=>by
   rcases hs21 c hc with h | h
   ·exact ho20 c h
   ·right;omega
  refine zb1 (fun h=>?_) (fun h=>?_)
  ·have h:Z.2 ≠ 0:=h
   rw [if_pos h] at hr
   refine ⟨(none,0,0),by rw [hr];rfl,hx021,fun h0=>?_,by simp [xw]⟩
   rw [hr] at h0;exact absurd h0 h
  ·have h:Z.2=0:=h
   rw [if_neg (by simpa using h)] at hr
   exact ⟨Z.1,hr.symm,hx021,(hres h).1,(hres h).2,ho21⟩
theorem bFd (s:ByteArray) (b:Bool) (w:World):(Instr.build zk #[(0,.string s),(1,.bool b)]).run P w=.ok (.agg #[.string s,.bool b,.string .empty]) w:=by kernel_rfl
theorem qmv {i:Itm}:(zfk i).toArray.extract 2 34=(Bl.zgg i.sum).toArray:=by
 apply Array.toList_inj.1
 have:=Bl.zd7 i.sum
 simp [zfk,List.take_of_length_le,this]
theorem stF {w:World} {H:Heap} {b:Nat} {c:Array Value} {T:TypeId} (f:Fil) (hw:w.heap=H) (hb:H[b]?=some (.cells c T (0,0))) (hs:c.size=3) {K:World→Prop}
  (hK:∀ w',w'.heap=H.setIfInBounds b (.cells (zbc f).toArray T (0,0))→K w'):zby P (storeVar zk (⟨b,0,none⟩:Addr) (.agg (zbc f).toArray)) w K:=by
 refine zbj (v:=.agg (zbc f).toArray) (by rw [szF];rfl) (by simp [Value.cells,zbc]) (by simpa [Value.cells] using ztj) hw hb (by rw [hs];simp [Value.cells,zbc]) fun w5 hw5=>hK w5 ?_
 rw [zan (by rw [hs];simp [Value.cells,zbc])] at hw5
 simpa [Value.cells] using hw5
def gV (r:Bl.SM) (k:List UInt8) (kind:Int):Nod × Int:=zup (Bl.zay r k) k kind
set_option maxHeartbeats 4000000 in
theorem ql8 {H:Heap} {B:Nat} {out:Option Addr × Nat × Nat} {res:List Fil × Int} {fp:List Nat} {p:Nat} {q:Int} {r:Bl.SM} {c:Nat} {rec:List Itm→Path→List Fil→List Fil × Int} {names:Path} {it:Itm} {its:List Itm} {y28 o:Option Addr × Nat × Nat} {b11:Nat} {L:List Fil} {w:World} {next:List Fil→List Fil × Int}
  (hS:Bl.Store w.heap fp p q r c) (hR:Bl.Rounds w.heap) (hfp:∀ b ∈ fp,b < B) (hB0:0 < B) (hBs:B≤H.size) (hlen:∀ k L,Bl.zay r k=some L→L.length < 1099511627776)
  (hx:Ext (xw out) H w.heap) (h11:w.heap[b11]?=some (.cells (zfk it).toArray ql (0,0))) (h32:it.sum.length=32) (hno:b11 ∉ xw o) (hsm:tlen (names++[it.name])+(names++[it.name]).length≤1099511627776)
  (hY:Mine w.heap B qc 1 y28 (strRow (names++[it.name])))
  (hO:Mine w.heap B zk 3 o (L.flatMap zbc)) (hL:L.length≤512) (hoo:∀ c ∈ xw o,c ∈ xw out ∨ H.size≤c)
  (hnx:next=zls (gV r) (zgp r) rec names its) (hres:res=zls (gV r) (zgp r) rec names (it :: its) L)
  (hrec:names.length+1≤8→∀ {w2:World} {o2:Option Addr × Nat × Nat} {D:Nod} {yp yi:Option Addr × Nat × Nat} {L2:List Fil},Bl.Store w2.heap fp p q r c→Bl.Rounds w2.heap→B≤w2.heap.size→NodM w2.heap B D yp yi→D.items.length≤65→(∀ i ∈ D.items,i.name.length≤16)→Mine w2.heap B qc 1 y28 (strRow (names++[it.name]))→Mine w2.heap B zk 3 o2 (L2.flatMap zbc)→L2.length≤512 →
   qj P zb4 #[.pointer (some ⟨p,0,none⟩),.agg (zdu D yp yi).toArray,.slice y28.1 y28.2.1 y28.2.2,.slice o2.1 o2.2.1 o2.2.2] w2 (zdy w2.heap B o2 (rec D.items (names++[it.name]) L2))) :
  xk ((o.2.1:Int) == 512) (
  zdy H B out res (.returned (Value.tuple #[(Value.slice none 0 0),(Value.int .i64 8)])) w) (
  xk (decide ((y28.2.1:Int) > 8)) (
  zdy H B out res (.returned (Value.tuple #[(Value.slice none 0 0),(Value.int .i64 42)])) w) (
  ldA P 32 (⟨b11,2,none⟩:Addr) w fun t40 =>
  ld (.int .i64) (⟨b11,1,none⟩:Addr) w fun (t42:Int) =>
  xg P zh7 #[(Value.pointer (some ⟨p,0,none⟩)),(Value.agg t40),(Value.int .i64 t42)] [.any,.int .i64] true w fun (t43:(Value × Int)) w_9 =>
  zbn (zc P zi) zi w_9 fun b13 w_10 =>
  zby P (storeVar zi (⟨b13,0,none⟩:Addr) t43.1) w_10 fun w_11 =>
  xk (t43.2 != 0) (
  zdy H B out res (.returned (Value.tuple #[(Value.slice none 0 0),(Value.int .i64 t43.2)])) w_11) (
  zbi w_11 fun w_12 =>
  ld (.int .i64) (⟨b11,1,none⟩:Addr) w_12 fun (t52:Int) =>
  ((xg P zca #[(Value.slice y28.1 y28.2.1 y28.2.2)] [.str] false w_12 fun (t50:ByteArray) w_13 =>
  ((ld (.int .i64) (⟨b11,1,none⟩:Addr) w_13 fun (t52_1:Int) =>
  (Value.int .i64 t52_1)=(Value.int .i64 t52)) ∧
  zaz P (Instr.build zk #[(0,(Value.string t50)),(1,(Value.bool (t52 == 3)))]) .any w_13 fun (t54:Value) =>
  zbn (zc P zk) zk w_13 fun b15 w_14 =>
  ((zaz P (Instr.build zk #[(0,(Value.string t50)),(1,(Value.bool (t52 == 3)))]) .any w_14 fun (t54_1:Value) =>
  t54_1=t54) ∧
  ((ld (.int .i64) (⟨b11,1,none⟩:Addr) w_14 fun (t52_2:Int) =>
  (Value.int .i64 t52_2)=(Value.int .i64 t52)) ∧
  zby P (storeVar zk (⟨b15,0,none⟩:Addr) t54) w_14 fun w_15 =>
  Go.Fw.joinP Unit (fun k_2 =>
  ld .bool (⟨b15,1,none⟩:Addr) w_15 fun (t56:Bool) =>
  xk (!t56) (
  ldA P 5 (⟨b13,0,none⟩:Addr) w_15 fun t60 =>
  xg P zbz #[(Value.pointer (some ⟨p,0,none⟩)),(Value.agg t60)] [.str,.int .i64] true w_15 fun (t61:(ByteArray × Int)) w_16 =>
  stC (⟨b15,2,none⟩:Addr) (Value.string t61.1) w_16 fun w_17 =>
  xk (t61.2 != 0) (
  zdy H B out res (.returned (Value.tuple #[(Value.slice none 0 0),(Value.int .i64 t61.2)])) w_17) (
  k_2 () w_17)) (
  k_2 () w_15)) (fun _ w_18 =>
  ldA P 3 (⟨b15,0,none⟩:Addr) w_18 fun t69 =>
  zal P (Instr.buildSlice zo 1 #[(0,(Value.agg t69))]) .slc w_18 fun (t70:(Option Addr × Nat × Nat)) w_19 =>
  zal P (Builtin.append_ #[zo,zo] zo #[(Value.slice o.1 o.2.1 o.2.2),(Value.slice t70.1 t70.2.1 t70.2.2)]) .slc w_19 fun (t71:(Option Addr × Nat × Nat)) w_20 =>
  ld .bool (⟨b15,1,none⟩:Addr) w_20 fun (t73:Bool) =>
  xk t73 (
  ldA P 5 (⟨b13,0,none⟩:Addr) w_20 fun t76 =>
  xg P zb4 #[(Value.pointer (some ⟨p,0,none⟩)),(Value.agg t76),(Value.slice y28.1 y28.2.1 y28.2.2),(Value.slice t71.1 t71.2.1 t71.2.2)] [.slc,.int .i64] true w_20 fun (t79:((Option Addr × Nat × Nat) × Int)) w_21 =>
  xk (t79.2 != 0) (
  zdy H B out res (.returned (Value.tuple #[(Value.slice none 0 0),(Value.int .i64 t79.2)])) w_21) (
  zof H B out res next (t79.1.1,t79.1.2.1,t79.1.2.2) w_21)) (
  zof H B out res next (t71.1,t71.2.1,t71.2.2) w_20)))))) ∧
  (zbn (zc P zk) zk w_12 fun b15_1 w_22 =>
  ((ld (.int .i64) (⟨b11,1,none⟩:Addr) w_22 fun (t52_3:Int) =>
  (Value.int .i64 t52_3)=(Value.int .i64 t52)) ∧
  xg P zca #[(Value.slice y28.1 y28.2.1 y28.2.2)] [.str] false w_22 fun (t50_1:ByteArray) w_23 =>
  ((ld (.int .i64) (⟨b11,1,none⟩:Addr) w_23 fun (t52_4:Int) =>
  (Value.int .i64 t52_4)=(Value.int .i64 t52)) ∧
  zaz P (Instr.build zk #[(0,(Value.string t50_1)),(1,(Value.bool (t52 == 3)))]) .any w_23 fun (t54_2:Value) =>
  zby P (storeVar zk (⟨b15_1,0,none⟩:Addr) t54_2) w_23 fun w_24 =>
  Go.Fw.joinP Unit (fun k_3 =>
  ld .bool (⟨b15_1,1,none⟩:Addr) w_24 fun (t56_1:Bool) =>
  xk (!t56_1) (
  ldA P 5 (⟨b13,0,none⟩:Addr) w_24 fun t60_1 =>
  xg P zbz #[(Value.pointer (some ⟨p,0,none⟩)),(Value.agg t60_1)] [.str,.int .i64] true w_24 fun (t61_1:(ByteArray × Int)) w_25 =>
  stC (⟨b15_1,2,none⟩:Addr) (Value.string t61_1.1) w_25 fun w_26 =>
  xk (t61_1.2 != 0) (
  zdy H B out res (.returned (Value.tuple #[(Value.slice none 0 0),(Value.int .i64 t61_1.2)])) w_26) (
  k_3 () w_26)) (
  k_3 () w_24)) (fun _ w_27 =>
  ldA P 3 (⟨b15_1,0,none⟩:Addr) w_27 fun t69_1 =>
  zal P (Instr.buildSlice zo 1 #[(0,(Value.agg t69_1))]) .slc w_27 fun (t70_1:(Option Addr × Nat × Nat)) w_28 =>
  zal P (Builtin.append_ #[zo,zo] zo #[(Value.slice o.1 o.2.1 o.2.2),(Value.slice t70_1.1 t70_1.2.1 t70_1.2.2)]) .slc w_28 fun (t71_1:(Option Addr × Nat × Nat)) w_29 =>
  ld .bool (⟨b15_1,1,none⟩:Addr) w_29 fun (t73_1:Bool) =>
  xk t73_1 (
  ldA P 5 (⟨b13,0,none⟩:Addr) w_29 fun t76_1 =>
  xg P zb4 #[(Value.pointer (some ⟨p,0,none⟩)),(Value.agg t76_1),(Value.slice y28.1 y28.2.1 y28.2.2),(Value.slice t71_1.1 t71_1.2.1 t71_1.2.2)] [.slc,.int .i64] true w_29 fun (t79_1:((Option Addr × Nat × Nat) × Int)) w_30 =>
  xk (t79_1.2 != 0) (
  zdy H B out res (.returned (Value.tuple #[(Value.slice none 0 0),(Value.int .i64 t79_1.2)])) w_30) (
  zof H B out res next (t79_1.1.1,t79_1.1.2.1,t79_1.1.2.2) w_30)) (
  zof H B out res next (t71_1.1,t71_1.2.1,t71_1.2.2) w_29))))))))):=by
 have hol:o.2.1=L.length:=by have:=hO.len;rw [qah] at this;omega
 have hyl:y28.2.1=names.length+1:=by have:=hY.len;simp at this;omega
 have bad:∀ {W:World} {code:Int},res=([],code)→code ≠ 0→Ext (xw out) H W.heap→zdy H B out res (.returned (.tuple #[.slice none 0 0,.int .i64 code])) W:=by
  intro W code hr hc hxW
  refine ⟨(none,0,0),by rw [hr];rfl,hxW,fun h0=>?_,by simp [xw]⟩
  rw [hr] at h0;exact absurd h0 hc
 rw [zls] at hres
 refine zb3 (fun h=>?_) (fun h=>?_)
 ·exact bad (by rw [hres,if_pos (by omega)]) (by decide) hx
 rw [if_neg (by omega)] at hres
 refine zq (fun h8=>?_) (fun h8=>?_)
 ·exact bad (by rw [hres,if_pos (by omega)]) (by decide) hx
 rw [if_neg (by omega)] at hres
 refine zre rfl h11 (by simp [zax]) ?_
 rw [qmv,Bl.zgx h32]
 refine jh (s:=.int .i64) (t:=it.kind) rfl h11 rfl ?_
 refine zl (qgd (k:=it.sum) (kind:=it.kind) rfl hS h32 hR (hlen it.sum)) ?_
 rintro e w9 ⟨yp,yi,rfl,hN9,hx9⟩
 refine ⟨(.agg (zdu (gV r it.sum it.kind).1 yp yi).toArray,(gV r it.sum it.kind).2),rfl,?_⟩
 have hit:=zvt (v:=Bl.zay r it.sum) (k:=it.sum) (kind:=it.kind)
 change NodM w9.heap w.heap.size (gV r it.sum it.kind).1 yp yi at hN9
 change (gV r it.sum it.kind).1.items.length≤65∧(∀ i ∈ (gV r it.sum it.kind).1.items,i.name.length≤16)∧(gV r it.sum it.kind).1.size≤1025∧0≤(gV r it.sum it.kind).1.size∧(gV r it.sum it.kind).1.parts.length≤65536 at hit
 generalize gV r it.sum it.kind=D at *
 refine qid D.1 yp yi rfl fun w11 hw11=>?_
 have hx11:Ext [] w9.heap w11.heap:=by rw [hw11];exact .push _
 have h13:w11.heap[w9.heap.size]?=some (.cells (zdu D.1 yp yi).toArray zi (0,0)):=by rw [hw11];exact zn
 have hxw11:=hx9.trans hx11
 have sH:=hx.1
 have s9:=hx9.1
 refine zb1 (fun h=>?_) (fun h=>?_)
 ·have h:D.2 ≠ 0:=h
  exact bad (by rw [hres,if_pos h]) h (hx.trans (hxw11.mono (by simp)))
 have h:D.2=0:=h
 rw [if_neg (by simpa using h)] at hres
 refine jw rfl fun w12 hw12=>?_
 rw [← hw12] at hx11 hxw11 h13
 have k11:=hxw11.get h11 (by simp)
 refine jh (s:=.int .i64) (t:=it.kind) rfl k11 rfl ?_
 have tail:∀ {w15:World} {b15:Nat},Ext [] w12.heap w15.heap→w12.heap.size≤b15→w15.heap[b15]?=some (.cells (zbc ⟨vw (names++[it.name]),it.kind == 3,[]⟩).toArray zk (0,0))→Go.Fw.joinP Unit (fun k_2 =>
  ld .bool (⟨b15,1,none⟩:Addr) w15 fun (t56:Bool) =>
  xk (!t56) (
  ldA P 5 (⟨w9.heap.size,0,none⟩:Addr) w15 fun t60 =>
  xg P zbz #[(Value.pointer (some ⟨p,0,none⟩)),(Value.agg t60)] [.str,.int .i64] true w15 fun (t61:(ByteArray × Int)) w_16 =>
  stC (⟨b15,2,none⟩:Addr) (Value.string t61.1) w_16 fun w_17 =>
  xk (t61.2 != 0) (
  zdy H B out res (.returned (Value.tuple #[(Value.slice none 0 0),(Value.int .i64 t61.2)])) w_17) (
  k_2 () w_17)) (
  k_2 () w15)) (fun _ w_18 =>
  ldA P 3 (⟨b15,0,none⟩:Addr) w_18 fun t69 =>
  zal P (Instr.buildSlice zo 1 #[(0,(Value.agg t69))]) .slc w_18 fun (t70:(Option Addr × Nat × Nat)) w_19 =>
  zal P (Builtin.append_ #[zo,zo] zo #[(Value.slice o.1 o.2.1 o.2.2),(Value.slice t70.1 t70.2.1 t70.2.2)]) .slc w_19 fun (t71:(Option Addr × Nat × Nat)) w_20 =>
  ld .bool (⟨b15,1,none⟩:Addr) w_20 fun (t73:Bool) =>
  xk t73 (
  ldA P 5 (⟨w9.heap.size,0,none⟩:Addr) w_20 fun t76 =>
  xg P zb4 #[(Value.pointer (some ⟨p,0,none⟩)),(Value.agg t76),(Value.slice y28.1 y28.2.1 y28.2.2),(Value.slice t71.1 t71.2.1 t71.2.2)] [.slc,.int .i64] true w_20 fun (t79:((Option Addr × Nat × Nat) × Int)) w_21 =>
  xk (t79.2 != 0) (
  zdy H B out res (.returned (Value.tuple #[(Value.slice none 0 0),(Value.int .i64 t79.2)])) w_21) (
  zof H B out res next (t79.1.1,t79.1.2.1,t79.1.2.2) w_21)) (
  zof H B out res next (t71.1,t71.2.1,t71.2.2) w_20)):=by
  intro w15 b15 hx15 hb15 h15
  have hx015:=hxw11.trans hx15
  have s12:=hxw11.1
  refine qmb (rec:=rec) (names':=names++[it.name]) (d:=it.kind == 3) (D:=D.1) (L:=L) (hS.ext hx015 (by simp)) (hR.ext hx015 (by simp)) hfp hB0 hBs hlen (hx.trans (hx015.mono (by simp))) (hx15.get h13 (by simp)) h15 (by omega) (by omega)
   (fun hc=>by have:=(za9 hO _ hc).1;omega) (fun hc=>by have:=(za9 hO _ hc).1;omega) (((hN9.ext hx11 (by simp)).ext hx15 (by simp)).mono (by omega)) hit.2.2.2.2 hit.2.2.2.1 hit.2.2.1 (hY.ext hx015 (by simp)) (hO.ext hx015 (by simp)) (by omega) hoo ?_ ?_ ?_
  ·intro hd
   have hd:it.kind=3:=by simpa using hd
   rw [hres,if_pos hd,hnx]
  ·intro hd
   have hd:it.kind ≠ 3:=by simpa using hd
   rw [hres,if_neg hd,hnx]
  ·intro _ w2 o2 hx2 hm2 ho2 hD2 hY2
   have hx12:=hx015.1
   refine hrec (by omega) ((hS.ext hx015 (by simp)).ext hx2 fun b hb h=>?_) ((hR.ext hx015 (by simp)).ext hx2 fun h=>?_) (by have:=hx2.1;omega) hD2 hit.1 hit.2.1 hY2 hm2 (by simp;omega)
   ·have:=jc hO b h;have:=hfp b hb;omega
   ·have:=jc hO 0 h;omega
 have re:∀ {W':World},Ext [] w12.heap W'.heap→ld (.int .i64) (⟨b11,1,none⟩:Addr) W' fun z=>Value.int .i64 z=Value.int .i64 it.kind:=fun h=>jh (s:=.int .i64) (o:=1) (t:=it.kind) (K:=fun z=>Value.int .i64 z=Value.int .i64 it.kind) rfl (h.get k11 (by simp)) rfl rfl
 have hb:∀ W,(Instr.build zk #[(0,.string (strOf (vw (names++[it.name])))),(1,.bool (it.kind == 3))]).run P W=.ok (.agg (zbc ⟨vw (names++[it.name]),it.kind == 3,[]⟩).toArray) W:=fun W=>bFd _ _ W
 have hY12:=hY.ext hxw11 (by simp)
 have hyl2:y28.2.1=(names++[it.name]).length:=by simp;omega
 refine ⟨?_,?_⟩
 ·refine zl (z16 (p:=names++[it.name]) rfl hY12.cells hyl2 (zgz hY12) hsm) ?_
  rintro e w13 ⟨rfl,hx13⟩
  refine ⟨strOf (vw (names++[it.name])),rfl,re hx13,?_⟩
  refine qm (s:=.any) _ (hb _) ?_
  refine jv rfl fun w14 hw14=>?_
  have hx14:Ext [] w13.heap w14.heap:=by rw [hw14];exact .push _
  have h14:w14.heap[w13.heap.size]?=some (.cells (zc P zk) zk (0,0)):=by rw [hw14];exact zn
  refine ⟨qm (s:=.any) _ (hb _) rfl,re (hx13.trans hx14),?_⟩
  refine stF ⟨vw (names++[it.name]),it.kind == 3,[]⟩ rfl h14 zcF fun w15 hw15=>?_
  have s13:=hx13.1
  have hx15:Ext [w13.heap.size] w14.heap w15.heap:=by rw [hw15];exact Ext.set _ (by simp)
  exact tail ((hx13.trans hx14).own hx15 (fun c hc hlt=>by simp at hc;omega)) s13 (by rw [hw15];exact qw h14)
 ·refine jv rfl fun w22 hw22=>?_
  have hx22:Ext [] w12.heap w22.heap:=by rw [hw22];exact .push _
  have h22:w22.heap[w12.heap.size]?=some (.cells (zc P zk) zk (0,0)):=by rw [hw22];exact zn
  refine ⟨re hx22,?_⟩
  have hY22:=hY12.ext hx22 (by simp)
  refine zl (z16 (p:=names++[it.name]) rfl hY22.cells hyl2 (zgz hY22) hsm) ?_
  rintro e w23 ⟨rfl,hx23⟩
  refine ⟨strOf (vw (names++[it.name])),rfl,re (hx22.trans hx23),?_⟩
  refine qm (s:=.any) _ (hb _) ?_
  have h23:=hx23.get h22 (by simp)
  refine stF ⟨vw (names++[it.name]),it.kind == 3,[]⟩ rfl h23 zcF fun w24 hw24=>?_
  have hx24:Ext [w12.heap.size] w23.heap w24.heap:=by rw [hw24];exact Ext.set _ (by simp)
  exact tail ((hx22.trans hx23).own hx24 (fun c hc hlt=>by simp at hc;omega)) (Nat.le_refl _) (by rw [hw24];exact qw h23)
set_option maxHeartbeats 8000000 in
theorem qm3 {fp:List Nat} {p:Nat} {q:Int} {r:Bl.SM} {c:Nat} {B:Nat} (hfp:∀ b ∈ fp,b < B) (hB0:0 < B) (hlen:∀ k L,Bl.zay r k=some L→L.length < 1099511627776):∀ (f:Nat) {w:World} {H:Heap} {n:Nod} {xp xi nx out:Option Addr × Nat × Nat} {names:Path} {L:List Fil},w.heap=H→Bl.Store H fp p q r c→Bl.Rounds H→B≤H.size→NodM H B n xp xi→n.items.length≤65→(∀ i ∈ n.items,i.name.length≤16) →
  Mine H B qc 1 nx (strRow names)→(∀ x ∈ names,x.length≤16)→names.length+f=9→names.length≤8→Mine H B zk 3 out (L.flatMap zbc)→L.length≤512 →
  qj P zb4 #[.pointer (some ⟨p,0,none⟩),.agg (zdu n xp xi).toArray,.slice nx.1 nx.2.1 nx.2.2,.slice out.1 out.2.1 out.2.2] w (zdy H B out (zsy (gV r) (zgp r) f n.items names L)):=by
 intro f
 induction f with
 | zero=>intro w H n xp xi nx out names L _ _ _ _ _ _ _ _ _ h1 h2 _ _;omega
 | succ f ih =>
 intro w H n xp xi nx out names L hw hS hR hBs hN hil hinm hM hnm hf h8 hO hL
 refine z7x ?_
 unfold zro
 refine jv hw fun w1 hw1=>?_
 have hx1:Ext [] H w1.heap:=by rw [hw1];exact .push _
 have hb1:w1.heap[H.size]?=some (.cells (zdu n xp xi).toArray zi (0,0)):=by rw [hw1];exact zn
 have s1:=lt_of_get hb1
 refine jh (s:=.slc) (t:=xi) rfl hb1 rfl ?_
 have hxil:xi.2.1=n.items.length:=hN.nodW.ilen
 rw [zsy]
 generalize hrs:zls (gV r) (zgp r) (zsy (gV r) (zgp r) f) names n.items L=res
 refine jd (fun (s:(Option Addr × Nat × Nat) × Int) W=>∃ (i:Nat) (Lc:List Fil),s.2=(i:Int)∧i≤n.items.length∧zls (gV r) (zgp r) (zsy (gV r) (zgp r) f) names (n.items.drop i) Lc=res∧Ext (xw out) H W.heap∧Mine W.heap B zk 3 s.1 (Lc.flatMap zbc)∧Lc.length≤512∧(∀ c ∈ xw s.1,c ∈ xw out ∨ H.size≤c)) (fun s _=>(n.items.length - s.2).toNat)
  ⟨0,L,rfl,Nat.zero_le _,hrs,hx1.mono (by simp),hO.ext hx1 (by simp),hL,fun c hc=>.inl hc⟩ ?_
 rintro ⟨o,_⟩ W ⟨i,Lc,rfl,hi,hres,hx,hmo,hLc,hoo⟩
 simp only at hmo hoo
 have sW:=hx.1
 refine zq (fun hlt=>?_) (fun hge=>?_)
 ·have hilt:i < n.items.length:=by simp only at hlt;omega
  have hget:=List.getElem?_eq_getElem hilt
  have hmem:n.items[i] ∈ n.items:=List.getElem_mem hilt
  rw [List.drop_eq_getElem_cons hilt] at hres
  generalize n.items[i]=it at hget hmem hres
  have h32:=hN.i32 _ hmem
  have h16:=hinm _ hmem
  refine Go.Fw.joinP_of (zof H B out res (zls (gV r) (zgp r) (zsy (gV r) (zgp r) f) names (n.items.drop (i+1)))) ?_ ?_
  rotate_left
  ·rintro s' W' ⟨L',g1,g2,g3,g4,g5⟩
   refine xu ((i+1:Nat):Int) (by simp) (by omega) (by omega) ?_
   exact ⟨⟨i+1,L',rfl,by omega,g1,g2,g3,g4,g5⟩,by simp only;omega⟩
  have hNW:=hN.items.ext hx (zge hN.items hO (by decide))
  have hMW:=hM.ext hx (zge hM hO (by decide))
  have hSW:=hS.ext hx (fun b hb h=>by have:=jc hO b h;have:=hfp b hb;omega)
  have hRW:=hR.ext hx (fun h=>by have:=jc hO 0 h;omega)
  refine zjm (i:=i) zax (by omega) rfl hNW.cells hxil hget rfl ?_
  refine qna it rfl fun w4 hw4=>?_
  have hx4:Ext [] W.heap w4.heap:=by rw [hw4];exact .push _
  have hb4:w4.heap[W.heap.size]?=some (.cells (zfk it).toArray ql (0,0)):=by rw [hw4];exact zn
  refine jw rfl fun w5 hw5=>?_
  rw [← hw5] at hx4 hb4
  have s4:=hx4.1
  refine jh (s:=.str) (t:=strOf it.name) rfl hb4 rfl ?_
  have hM5:=hMW.ext hx4 (by simp)
  have hsm:tlen (names++[it.name])+(names++[it.name]).length≤1099511627776:=by
   have:∀ (l:Path),(∀ x ∈ l,x.length≤16)→tlen l≤16 * l.length:=by
    intro l
    induction l with
    | nil=>intro _;simp [tlen]
    | cons x l ihl =>
     intro h
     have h1:=h x (by simp)
     have h2:=ihl fun y hy=>h y (by simp [hy])
     simp only [tlen,List.map_cons,List.sum_cons,List.length_cons] at *
     omega
   have h2:=this (names++[it.name]) (fun x hx=>by
    rcases List.mem_append.1 hx with h | h
    ·exact hnm x h
    ·simp at h;subst h;exact h16)
   simp only [List.length_append,List.length_singleton] at *
   omega
  have mid:∀ {w8:World} {y28:Option Addr × Nat × Nat},Ext [] w5.heap w8.heap→Mine w8.heap B qc 1 y28 (strRow (names++[it.name]))→Bl.Store w8.heap fp p q r c→True:=fun _ _ _=>trivial
  have hyp:∀ {w8:World},Ext [] w5.heap w8.heap→Ext (xw out) H w8.heap:=fun h=>hx.trans ((hx4.trans h).mono (by simp))
  have recur:∀ {y28:Option Addr × Nat × Nat},names.length+1≤8→∀ {w2:World} {o2:Option Addr × Nat × Nat} {D:Nod} {yp yi:Option Addr × Nat × Nat} {L2:List Fil},Bl.Store w2.heap fp p q r c→Bl.Rounds w2.heap→B≤w2.heap.size→NodM w2.heap B D yp yi→D.items.length≤65→(∀ i ∈ D.items,i.name.length≤16)→Mine w2.heap B qc 1 y28 (strRow (names++[it.name]))→Mine w2.heap B zk 3 o2 (L2.flatMap zbc)→L2.length≤512 →
   qj P zb4 #[.pointer (some ⟨p,0,none⟩),.agg (zdu D yp yi).toArray,.slice y28.1 y28.2.1 y28.2.2,.slice o2.1 o2.2.1 o2.2.2] w2 (zdy w2.heap B o2 (zsy (gV r) (zgp r) f D.items (names++[it.name]) L2)):=by
   intro y28 hl8 w2 o2 D yp yi L2 a1 a2 a3 a4 a5 a6 a7 a8 a9
   exact ih rfl a1 a2 a3 a4 a5 a6 a7 (fun x hx=>by
    rcases List.mem_append.1 hx with h | h
    ·exact hnm x h
    ·simp at h;subst h;exact h16) (by simp;omega) (by simp;omega) a8 a9
  refine ⟨?_,?_⟩
  ·refine zl (qcr rfl hM5 (by omega)) ?_
   rintro e w6 ⟨y,rfl,hm6,hx6⟩
   refine ⟨y,rfl,jh (s:=.str) (o:=0) (t:=strOf it.name) (K:=fun z=>Value.string z=Value.string (strOf it.name)) rfl (hx6.get hb4 (by simp)) rfl rfl,?_⟩
   refine qlt it.name rfl fun a7 w7 hx7 hc7=>?_
   refine qmo (ys:=[it.name]) rfl (hm6.ext hx7 (by simp)) (by have:=hx7.1;have:=hx6.1;omega) hc7 rfl (by simp;omega) fun y28 w8 hm8 hx8=>?_
   have g6:=jc hm6
   have hx58:Ext [] w5.heap w8.heap:=(hx6.trans hx7).own hx8 (fun c hc hlt=>by have:=g6 c hc;omega)
   have hxW8:=hx4.trans hx58
   exact ql8 (rec:=zsy (gV r) (zgp r) f) (names:=names) (it:=it) (its:=n.items.drop (i+1)) (L:=Lc) (hSW.ext hxW8 (by simp)) (hRW.ext hxW8 (by simp)) hfp hB0 hBs hlen (hyp hx58) (hx58.get hb4 (by simp)) h32 (fun hc=>by have:=(za9 hmo _ hc).1;omega) hsm (hm8.mono (by omega)) (hmo.ext hxW8 (by simp)) hLc hoo rfl hres.symm recur
  ·refine qlt it.name rfl fun a7 w7 hx7 hc7=>?_
   refine zl (qcr rfl (hM5.ext hx7 (by simp)) (by omega)) ?_
   rintro e w6 ⟨y,rfl,hm6,hx6⟩
   refine ⟨y,rfl,jh (s:=.str) (o:=0) (t:=strOf it.name) (K:=fun z=>Value.string z=Value.string (strOf it.name)) rfl ((hx7.trans hx6).get hb4 (by simp)) rfl rfl,?_⟩
   refine qmo (ys:=[it.name]) rfl hm6 (by have:=hx6.1;omega) (hc7.ext hx6 (by simp)) rfl (by simp;omega) fun y28 w8 hm8 hx8=>?_
   have g6:=jc hm6
   have s7:=hx7.1
   have hx58:Ext [] w5.heap w8.heap:=(hx7.trans hx6).own hx8 (fun c hc hlt=>by have:=g6 c hc;omega)
   have hxW8:=hx4.trans hx58
   exact ql8 (rec:=zsy (gV r) (zgp r) f) (names:=names) (it:=it) (its:=n.items.drop (i+1)) (L:=Lc) (hSW.ext hxW8 (by simp)) (hRW.ext hxW8 (by simp)) hfp hB0 hBs hlen (hyp hx58) (hx58.get hb4 (by simp)) h32 (fun hc=>by have:=(za9 hmo _ hc).1;omega) hsm (hm8.mono (by omega)) (hmo.ext hxW8 (by simp)) hLc hoo rfl hres.symm recur
 ·obtain rfl:i=n.items.length:=by simp only at hge;omega
  rw [List.drop_length,zls] at hres
  exact ⟨o,by rw [← hres];rfl,hx,fun _=>by rw [← hres];exact ⟨hmo,hLc⟩,hoo⟩
def zm5 (r:Bl.SM) (root:List UInt8):List Fil × Int:=if (gV r root 3).2 ≠ 0 then ([],(gV r root 3).2) else zsy (gV r) (zgp r) 9 (gV r root 3).1.items [] []
set_option maxHeartbeats 2000000 in
theorem qf3 {w:World} {H:Heap} {fp:List Nat} {p:Nat} {q:Int} {r:Bl.SM} {c:Nat} {root:List UInt8} (hw:w.heap=H) (hS:Bl.Store H fp p q r c) (hR:Bl.Rounds H) (hfp:∀ b ∈ fp,b < H.size) (h32:root.length=32) (hlen:∀ k L,Bl.zay r k=some L→L.length < 1099511627776) :
  qj P znt #[.pointer (some ⟨p,0,none⟩),arr root] w fun e w'=>∃ x',e=.returned (.tuple #[zcr x',.int .i64 (zm5 r root).2])∧Ext [] H w'.heap∧((zm5 r root).2=0→Mine w'.heap H.size zk 3 x' ((zm5 r root).1.flatMap zbc)):=by
 have hH0:0 < H.size:=by obtain ⟨_,_,_,h,_⟩:=hR;exact lt_of_get h
 refine z7c ?_
 unfold zs5
 rw [show (arr root).cells=(byteCells root).toArray from rfl]
 refine jv hw fun w1 hw1=>?_
 have hx1:Ext [] H w1.heap:=by rw [hw1];exact .push _
 have hb1:w1.heap[H.size]?=some (.cells (byteCells root).toArray zf (0,0)):=by rw [hw1];exact zn
 have s1:=lt_of_get hb1
 refine jl rfl ?_
 refine je rfl hb1 (by simp [h32]) ?_
 refine zl (qgd (k:=root) (kind:=3) rfl (hS.ext hx1 (by simp)) h32 (hR.ext hx1 (by simp)) (hlen root)) ?_
 rintro e w2 ⟨yp,yi,rfl,hN2,hx2⟩
 refine ⟨(.agg (zdu (gV r root 3).1 yp yi).toArray,(gV r root 3).2),rfl,?_⟩
 have hit:=zvt (v:=Bl.zay r root) (k:=root) (kind:=3)
 have hN2:NodM w2.heap w1.heap.size (gV r root 3).1 yp yi:=hN2
 have hit1:(gV r root 3).1.items.length≤65:=hit.1
 have hit2:∀ i ∈ (gV r root 3).1.items,i.name.length≤16:=hit.2.1
 unfold zm5
 generalize gV r root 3=D at *
 refine qid D.1 yp yi rfl fun w4 hw4=>?_
 have hx4:Ext [] w2.heap w4.heap:=by rw [hw4];exact .push _
 have hb4:w4.heap[w2.heap.size]?=some (.cells (zdu D.1 yp yi).toArray zi (0,0)):=by rw [hw4];exact zn
 have hx04:=(hx1.trans hx2).trans hx4
 refine zb1 (fun h=>?_) (fun h=>?_)
 ·have h:D.2 ≠ 0:=h
  rw [if_pos h]
  exact ⟨(none,0,0),rfl,hx04,fun h0=>absurd h0 h⟩
 have h:D.2=0:=h
 rw [if_neg (by simpa using h)]
 refine je rfl hb4 rfl ?_
 have s2:=hx2.1
 refine zl (qm3 (B:=H.size) (nx:=(none,0,0)) (out:=(none,0,0)) (names:=[]) (L:=[]) hfp hH0 hlen 9 rfl (hS.ext hx04 (by simp)) (hR.ext hx04 (by simp)) hx04.1 ((hN2.ext hx4 (by simp)).mono (by omega)) hit1 hit2 (.inl ⟨rfl,rfl⟩) (by simp) rfl (by simp) (.inl ⟨rfl,rfl⟩) (by simp)) ?_
 rintro e w5 ⟨x',rfl,hx5,hres,_⟩
 refine ⟨(x',_),rfl,?_⟩
 exact ⟨x',rfl,hx04.trans (hx5.mono (by simp [xw])),fun h0=>(hres h0).1⟩
end Go.Proofs.YtbmegmbnlajbbaaGreatDoor
namespace Go.Proofs.YtbmegmbnlajbbaaGreatDoor
open Go Go.Fw Go.Proofs Go.Sort
theorem qku {r:Bl.SM} {k b:List UInt8} {kind:Int} {n:Nod} (hv:Bl.zay r k=some b) (hs:Sha.sum b=k) (hd:zsd b=(n,0)) (hk:n.kind=kind):gV r k kind=(n,0):=by
 have hg:Bl.got (some b) k=0:=by unfold Bl.got;simp [hs]
 unfold gV zup
 rw [hv,if_neg (by simp [hg])]
 simp only [Option.getD_some,hd]
 rw [if_neg (by simp [hk])]
end Go.Proofs.YtbmegmbnlajbbaaGreatDoor
namespace Go.Fw
open Go Go.ChangeShapes Go.WideShapes Go.ChangeAt Go.RowKit
theorem zld {w:World} {b o:Nat} {s:Option _} {v:Value} (h:w.cell? ⟨b,o,s⟩=some v):s=none∧∃ c T fr,w.heap[b]?=some (.cells c T fr)∧c[o]?=some v:=by
 unfold World.cell? at h
 simp only at h
 split at h
 ·rename_i c T fr hc
  split at h
  ·cases h
  ·rename_i hs
   refine ⟨by simpa using hs,c,T,fr,hc,h⟩
 ·cases h
theorem qi3 {H:Type} {enc:TypeId × Value→H} {P:Program} {t e:TypeId} (ht:P.underlying t=some (.slice e)) (he:P.underlying e=some (.int .u8)) (hc:P.cellsOf e=1) {W:World} {v:Value} {d:DataW H} {p:List MemPlace}
  (hv:∃ a l c,v=.slice a l c) (h0:DataW.Trod enc P W 0 (fun _=>true) true t v d p) :
  ∃ a l c L,v=.slice a l c∧Cells W.heap a (byteCells L)∧l=L.length∧l≤c∧((∀ n ∈ d.weights P t,n≤reachBytes)→P.bytesOf e=1→L.length≤reachBytes):=by
 obtain ⟨a,l,c,rfl⟩:=hv
 obtain ⟨fuel,hf⟩:=h0
 rcases open_ints ht he hc hf with ⟨hcs,_⟩ | ⟨a',len',cap',zs,hcs,_,hl,hm,hz,hxd,hcell,hwz⟩
 ·simp [Value.cells] at hcs
  obtain ⟨rfl,rfl,rfl⟩:=hcs
  exact ⟨none,0,0,[],rfl,.inl rfl,rfl,Nat.le_refl _,fun _ _=>Nat.zero_le _⟩
 ·simp [Value.cells] at hcs
  obtain ⟨rfl,rfl,rfl⟩:=hcs
  simp only [if_true] at hz
  have hby:∀ x ∈ zs,0≤x∧x < 256:=by
   intro x hx
   have h:=hwz x hx
   have h1:IntKind.u8.min=0:=rfl
   have h2:IntKind.u8.max=255:=rfl
   simp only [Lit.wf,Bool.and_eq_true,decide_eq_true_eq] at h
   omega
  refine ⟨some a',l,c,(zs.take l).map fun x=>UInt8.ofNat x.toNat,rfl,?_,by simp;omega,hl,?_⟩
  rotate_left
  ·intro hw hb1
   simp only [Prod.mk.injEq] at hxd
   rw [hxd.1] at hw
   have:=hw _ (by simp only [DataW.weights,ht];exact List.mem_cons_self)
   simp [lits,hb1] at this
   simp
   omega
  have hbc:byteCells ((zs.take l).map fun x=>UInt8.ofNat x.toNat)=(zs.take l).map (Value.int .u8):=by
   simp only [byteCells,List.map_map]
   apply List.map_congr_left
   intro x hx
   have:=hby x (List.mem_of_mem_take hx)
   simp only [Function.comp,Value.int.injEq,true_and]
   simp only [UInt8.toNat_ofNat']
   omega
  rw [hbc]
  by_cases h0:l=0
  ·subst h0;exact .inl (by simp)
  ·obtain ⟨b,o,s⟩:=a'
   have hs:s=none:=by
    obtain ⟨hs,_⟩:=zld (hcell 0 (by omega))
    cases s with
    | none=>rfl
    | some x=>simp at hs
   subst hs
   have hcl:∀ i,i < zs.length→W.cell? ⟨b,o+i,none⟩=some (.int .u8 (zs.getD i 0)):=fun i hi=>by rw [← jr];exact hcell i hi
   obtain ⟨_,cc,T,fr,hb,_⟩:=zld (hcl 0 (by omega))
   have hcc:∀ i,i < zs.length→cc[o+i]?=some (.int .u8 (zs.getD i 0)):=by
    intro i hi
    obtain ⟨_,c2,T2,f2,h1,h2⟩:=zld (hcl i hi)
    rw [hb] at h1;cases h1;exact h2
   refine .inr ⟨b,o,cc,T,fr,rfl,hb,?_,?_⟩
   ·have:=(Array.getElem?_eq_some_iff.1 (hcc (l - 1) (by omega))).1
    simp;omega
   ·apply List.ext_getElem?
    intro i
    rw [Array.getElem?_toList,Array.getElem?_extract]
    simp only [List.length_map,List.length_take,List.getElem?_map,List.getElem?_take]
    by_cases hi:i < l
    ·have hiz:i < zs.length:=by omega
     have:=(Array.getElem?_eq_some_iff.1 (hcc i hiz)).1
     rw [if_pos (by omega),hcc i hiz,if_pos hi,List.getElem?_eq_getElem hiz]
     simp [List.getD_eq_getElem?_getD,List.getElem?_eq_getElem hiz]
    ·rw [if_neg (by omega),if_neg hi];rfl
theorem qe4 {H:Type} {enc:TypeId × Value→H} {P:Program} {t e:TypeId} (ht:P.underlying t=some (.slice e)) (he:P.underlying e=some (.int .u8)) (hc:P.cellsOf e=1) {W:World} {v:Value} {fuel:Nat} {x:DataW H × List MemPlace}
  (h:DataW.trod enc P W 0 (fun _=>true) true fuel t [v]=some x):∃ a l c L,v=.slice a l c∧Cells W.heap a (byteCells L)∧l=L.length∧l≤c∧((∀ n ∈ x.1.weights P t,n≤reachBytes)→P.bytesOf e=1→L.length≤reachBytes):=by
 have hs:∃ a l c,v=.slice a l c:=by
  rcases open_ints ht he hc h with ⟨hcs,_⟩ | ⟨a',len',cap',zs,hcs,_⟩
  ·simp at hcs;exact ⟨_,_,_,hcs⟩
  ·simp at hcs;exact ⟨_,_,_,hcs⟩
 obtain ⟨a,l,c,rfl⟩:=hs
 exact qi3 ht he hc (v:=.slice a l c) ⟨a,l,c,rfl⟩ ⟨fuel,h⟩
theorem qk7 {W W':World} (h:∀ i,i < W.heap.size→W'.heap[i]?=W.heap[i]?) {p:MemPlace} (hp:p.block < W.heap.size):W.sameAt W' p:=by
 cases p with
 | cell b off=>simp only [World.sameAt,World.cell?];rw [h b hp]
 | map b=>exact h b hp
theorem zs8 {H:Type} {enc:TypeId × Value→H} {P:Program} (hl:laidOutB P=true) {W W':World} {sp':Nat→Bool} (h:∀ i,i < W.heap.size→W'.heap[i]?=W.heap[i]?) :
  ∀ {ts:List TypeId} {vs:List Value} {ds:List (DataW H)} {ps:List MemPlace},(∀ t ∈ ts,P.readableRec t=true∧t < P.types.size)→(∀ p ∈ ps,p.block < W.heap.size∧sp' p.block=true) →
  DataW.TrodAll enc P W 0 (fun _=>true) true ts vs ds ps→DataW.TrodAll enc P W' 0 sp' true ts vs ds ps
 | [],vs,ds,ps,_,_,ht=>by
  obtain ⟨rfl,rfl,rfl⟩:=trodAll_nil ht
  rfl
 | t :: ts,vs,ds,ps,hr,hp,ht=>by
  obtain ⟨v,vs',d,ds',p,q,rfl,rfl,rfl,h1,h2⟩:=trodAll_cons ht
  refine ⟨p,q,?_,zs8 hl h (fun t ht=>hr t (by simp [ht])) (fun x hx=>hp x (by simp [hx])) h2,rfl⟩
  exact WideElems.Trod_stays hl (hr t (by simp)).1 (hr t (by simp)).2 h1 (fun x hx=>qk7 h (hp x (by simp [hx])).1) fun x hx=>(hp x (by simp [hx])).2
theorem qhw {H:Type} {enc:TypeId × Value→H} {P:Program} {f:Func} {s:ChangeSpec} {apart fresh handsOn again:Bool} {W W':World} {args:Array Value} {v:Value} {ds gs:List (DataW H)} {before:List MemPlace}
  (hl:laidOutB P=true) (hpar:∀ t ∈ f.params.toList,P.readableRec t=true∧t < P.types.size) (hvars:s.vars=[])
  (hW:DataW.Whole enc P f.params.toList s.vars apart W args.toList ds gs before) (hfa:(s.fn H (ds++gs)).args=ds) (hfv:(s.fn H (ds++gs)).vars=[])
  (hres:∀ (b:Nat) (sp:Nat→Bool) (hd:Bool),DataW.TrodAll enc P W' b sp hd f.resultTypes.toList (v.resultList f.resultTypes.size) (s.fn H (ds++gs)).results [])
  (hx:Ext [] W.heap W'.heap) (hc:Calm W W')
  (hok:∀ (j:Nat) (t:TypeId) (r:Value),f.resultTypes[j]?=some t→(v.resultList f.resultTypes.size)[j]?=some r→Value.okWide P W' .any 0 t r) :
  s.post enc P f apart fresh handsOn again W args v W':=by
 have hsame:∀ i,i < W.heap.size→W'.heap[i]?=W.heap[i]?:=fun i hi=>hx.2 i hi (by simp)
 have hlt:∀ p ∈ before,p.block < W.heap.size:=fun p hp=>hW.lt p hp
 have hW0:=hW
 obtain ⟨pa,pv,hA,hV,rfl,hz,hn⟩:=hW
 rw [hvars] at hV
 obtain ⟨rfl,rfl⟩:=trodVars_none hV
 rw [List.append_nil] at hlt hz hn
 have hargs:∀ sp:Nat→Bool,(∀ p ∈ pa,sp p.block=true)→DataW.TrodAll enc P W' 0 sp true f.params.toList args.toList (s.fn H (ds++[])).args pa:=by
  intro sp hsp
  rw [hfa]
  exact zs8 hl hsame hpar (fun p hp=>⟨hlt p hp,hsp p hp⟩) hA
 have hvs:∀ sp:Nat→Bool,DataW.TrodVars enc P W' sp s.vars (s.fn H (ds++[])).vars []:=by
  intro sp
  rw [hvars,hfv]
  rfl
 refine ⟨ds,[],pa++[],[],pa,[],hW0,hres _ _ _,hargs _ (fun p hp=>by simpa using hlt p hp),hvs _,⟨hc.1,hc.2.1,fun i hi=>?_⟩,fun _=>⟨hok,_,_,([]++pa)++[],⟨[]++pa,[],trodAll_append (hargs _ (fun _ _=>rfl)) (hres _ _ _),hvs _,rfl,?_,?_⟩,?_⟩⟩
 ·rw [hsame i hi]
  cases W.heap[i]? with
  | none=>rfl
  | some o=>cases o <;> first | exact ⟨rfl,rfl,rfl,fun _ _=>rfl⟩ | exact .inr ⟨rfl,rfl⟩ | rfl
 ·intro b off hp
  have hp:MemPlace.cell b off ∈ pa:=by simpa using hp
  have h1:=hz b off (by simpa using hp)
  have h2:=hsame b (hlt _ hp)
  unfold World.frozen? at h1 ⊢
  rw [h2]
  exact h1
 ·intro ha
  simpa using hn ha
 ·intro p hp _
  simpa using hp
section
variable {H:Type} {enc:TypeId × Value→H} {P:Program} {W:World}
theorem qhv {a:Addr} {n:Nat} {cs:List Value} (h0:0 < n) (h:W.cells? 0 a n=some cs):a.spot=none∧∃ c T fr,W.heap[a.block]?=some (.cells c T fr)∧a.off+n≤c.size∧cs=(c.toList.drop a.off).take n:=by
 obtain ⟨b,o,s⟩:=a
 simp only [World.cells?,Nat.zero_le,if_true] at h
 have hl:cs.length=n:=by simpa using mapM_some_length h
 have hg:∀ i,i < n→W.cell? (Addr.add ⟨b,o,s⟩ i)=cs[i]?:=fun i hi=>mapM_some_get h i i (by simp [hi])
 have h1:=hg 0 h0
 rw [List.getElem?_eq_getElem (by omega)] at h1
 obtain ⟨hs,c,T,fr,hb,_⟩:=zld h1
 have hs':s=none:=by
  cases s with
  | none=>rfl
  | some z=>simp at hs
 subst hs'
 have hc:∀ i,i < n→c[o+i]?=cs[i]?:=by
  intro i hi
  have h2:=hg i hi
  rw [List.getElem?_eq_getElem (by omega),jr] at h2
  obtain ⟨_,c2,T2,f2,hb2,hc2⟩:=zld h2
  rw [hb] at hb2;cases hb2
  rw [hc2,List.getElem?_eq_getElem (by omega)]
 have hsz:o+n≤c.size:=by
  have h3:=hc (n - 1) (by omega)
  rw [List.getElem?_eq_getElem (by omega)] at h3
  have:=(Array.getElem?_eq_some_iff.1 h3).1
  omega
 refine ⟨rfl,c,T,fr,hb,hsz,?_⟩
 apply List.ext_getElem?
 intro i
 by_cases hi:i < n
 ·rw [← hc i hi,List.getElem?_take,if_pos hi,List.getElem?_drop,Array.getElem?_toList]
 ·rw [List.getElem?_eq_none (by omega),List.getElem?_take,if_neg hi]
theorem qi5 {a:Addr} (h:(a.add 0).spot=none):a.spot=none:=by
 obtain ⟨b,o,s⟩:=a
 cases s with
 | none=>rfl
 | some z=>simp [Addr.add] at h
theorem row_of {t e:TypeId} {sz:Nat} (ht:P.underlying t=some (.slice e)) (hc:P.cellsOf e=sz) (h0:0 < sz) {v:Value} {fuel:Nat} {x:DataW H × List MemPlace} (h:DataW.trod enc P W 0 (fun _=>true) true fuel t [v]=some x) :
  ∃ (a:Option Addr) (n nc:Nat) (ys:List (DataW H)),v=.slice a n nc∧n≤nc∧ys.length=n∧((n=0∧ys=[]∧x.1=.nil) ∨ ∃ rest,x.1=.slice ys rest) ∧
   ∀ i (hi:i < ys.length),∃ (b o:Nat) (c:Array Value) (T:TypeId) (fr:Nat × Nat) (m:Nat) (ps:List MemPlace),a=some ⟨b,o,none⟩∧W.heap[b]?=some (.cells c T fr)∧o+i * sz+sz≤c.size∧DataW.trod enc P W 0 (fun _=>true) true m e ((c.toList.drop (o+i * sz)).take sz)=some (ys[i],ps):=by
 rcases DataW.trod_slice ht h with ⟨hcs,rfl⟩ | ⟨a',len,cap,elems,rest,m,_,hcs,rfl,_,hle,_,hlen,hel,_⟩
 ·simp only [List.cons.injEq,and_true] at hcs
  exact ⟨none,0,0,[],hcs,Nat.le_refl _,rfl,.inl ⟨rfl,rfl,rfl⟩,fun i hi=>absurd hi (by simp)⟩
 ·simp only [List.cons.injEq,and_true] at hcs
  refine ⟨some a',len,cap,elems.map (·.1),hcs,hle,by simpa using hlen,.inr ⟨_,rfl⟩,fun i hi=>?_⟩
  have hil:i < len:=by simpa [hlen] using hi
  have h1:=hel i hil
  rw [List.getElem?_eq_getElem (by omega),hc] at h1
  simp only [Option.bind_eq_some_iff] at h1
  obtain ⟨cs,h2,h3⟩:=h1
  obtain ⟨hsp,c,T,fr,hb,hsz,rfl⟩:=qhv h0 h2
  have hsp':a'.spot=none:=by
   have h1:=hel 0 (by omega)
   rw [List.getElem?_eq_getElem (by omega),hc] at h1
   simp only [Option.bind_eq_some_iff,Nat.zero_mul] at h1
   obtain ⟨cs,h2,_⟩:=h1
   exact qi5 (qhv h0 h2).1
  obtain ⟨b,o,s⟩:=a'
  obtain rfl:s=none:=hsp'
  rw [jr] at hb hsz h3
  exact ⟨b,o,c,T,fr,m,(elems[i]).2,rfl,hb,hsz,by simpa using h3⟩
def big:DataW H→Nat
 | .slice es _=>es.length
 | _=>0
theorem qmf {t e:TypeId} (ht:P.underlying t=some (.slice e)) (he:P.underlying e=some (.int .u8)) (hc:P.cellsOf e=1) {v:Value} {fuel:Nat} {x:DataW H × List MemPlace} (h:DataW.trod enc P W 0 (fun _=>true) true fuel t [v]=some x) :
  ∃ a l c L,v=.slice a l c∧Cells W.heap a (byteCells L)∧l=L.length∧l≤c∧L.length=big x.1:=by
 obtain ⟨a,l,c,L,rfl,hC,hl,hlc,_⟩:=qe4 ht he hc h
 obtain ⟨a',n,nc,ys,he',_,hn,hx,_⟩:=row_of ht hc (by omega) h
 injection he' with h1 h2 h3
 subst h1 h2 h3
 refine ⟨a,l,c,L,rfl,hC,hl,hlc,?_⟩
 rcases hx with ⟨h1,h2,h3⟩ | ⟨rest,h3⟩
 ·rw [h3];simp only [big];omega
 ·rw [h3];simp only [big];omega
end
end Go.Fw
namespace Go.Proofs.YtbmegmbnlajbbaaGreatDoor
open Go Go.Fw Go.Proofs Go.ChangeShapes Go.WideShapes Go.ChangeAt Go.RowKit
variable {Hh:Type} {enc:TypeId × Value→Hh} {W:World}
end Go.Proofs.YtbmegmbnlajbbaaGreatDoor
namespace Go.Proofs.YtbmegmbnlajbbaaGreatDoor.RowC
open Go.Proofs.YtbmegmbnlajbbaaGreatDoor.Bl Go Go.Fw Go.Proofs Go.ChangeShapes Go.WideShapes Go.ChangeAt Go.RowKit
theorem own:ownKnob Tryz.prog.godebug=none:=by kernel_rfl
theorem gTab:Tryz.prog.globalNamed "veneer/sha.rounds"=some 0:=by kernel_rfl
theorem qj6:(Tryz.prog.globals[0]?).map (·.type)=some zah:=by kernel_rfl
theorem u66:Tryz.prog.underlying zah=some (.array 64 zqm):=by kernel_rfl
theorem u64':Tryz.prog.underlying zqm=some (.int .u32):=by kernel_rfl
theorem qlg:Tryz.prog.cellsOf zah=64:=by kernel_rfl
theorem qkr:Tryz.prog.cellsOf zqm=1:=by kernel_rfl
theorem laidOut:laidOutB Tryz.prog=true:=by kernel_rfl
def kz:List Int:=Sha.kc.map fun n:Nat=>(n:Int)
theorem qnq:(Rows.laid_veneer_sha_rounds:DataW Unit)=Lib.tabData .u32 kz:=by kernel_rfl
theorem table {W:World} (h:laidMetH Tryz.prog [("veneer/sha.rounds",Rows.laid_veneer_sha_rounds)] W):Lib.TabIs Tryz.prog W "veneer/sha.rounds" .u32 kz:=by
 have h':laidMet Tryz.prog [("veneer/sha.rounds",(Rows.laid_veneer_sha_rounds:DataW Unit))] W:=h
 rw [qnq] at h'
 exact Lib.tabIs_of_head (rest:=[]) gTab qj6 u66 u64' qkr qlg h'
theorem qoh:∀ i,i < 64→kz.getD i 0=((Sha.K i).toNat:Int):=by decide +kernel
theorem qga {W:World} (h:Lib.TabIs Tryz.prog W "veneer/sha.rounds" .u32 kz):Rounds W.heap:=by
 have hc:∀ i,i < 64→W.cell? ⟨0,i,none⟩=some (.int .u32 ((Sha.K i).toNat:Int)):=by
  intro i hi
  rw [← qoh i hi]
  exact h.cell gTab i (by simpa [kz,Sha.kc] using hi)
 obtain ⟨_,c,T,fr,hb,_⟩:=zld (hc 0 (by omega))
 refine ⟨c,T,fr,hb,fun i hi=>?_⟩
 obtain ⟨_,c2,T2,fr2,hb2,h2⟩:=zld (hc i hi)
 rw [hb] at hb2
 cases hb2
 rw [Nat.zero_add]
 exact h2
noncomputable def laidWorld (os:Os):World :=
 { World.holding Tryz.prog os ⟨#[],#[],[]⟩ with heap:=(World.holding Tryz.prog os ⟨#[],#[],[]⟩).heap.modify 0 fun
   | .cells _ t frozen=>.cells (W32 Sha.K 64) t frozen
   | o=>o }
theorem qlo {n:Int} (h:(Lit.int .i64 n).wf=true):n≤9223372036854775807:=by
 have h2:IntKind.i64.max=9223372036854775807:=rfl
 simp only [Lit.wf,Bool.and_eq_true,decide_eq_true_eq] at h
 omega
end Go.Proofs.YtbmegmbnlajbbaaGreatDoor.RowC
namespace Go.Proofs.YtbmegmbnlajbbaaGreatDoor
open Go Go.Fw Go.Proofs Go.Sort
end Go.Proofs.YtbmegmbnlajbbaaGreatDoor
namespace Go.Proofs.YtbmegmbnlajbbaaGreatDoor
open Go Go.Fw Go.Proofs Go.Sort
theorem other {s:Rest} (h1:min (nmS s).1 9 ≠ 1) (h2:min (nmS s).1 9 ≠ 2) (h3:min (nmS s).1 9 ≠ 3):zc4 (zb9 s).1=false:=by
 unfold zb9
 rw [if_neg h1,if_neg h2,if_neg h3]
 unfold zc4
 simp only
 rw [if_neg (by omega),if_neg (by omega),if_neg (by omega)]
end Go.Proofs.YtbmegmbnlajbbaaGreatDoor
namespace Go.Proofs.YtbmegmbnlajbbaaGreatDoor
open Go Go.Fw Go.Proofs Go.Sort
section
variable {g:List UInt8→Int→Nod × Int} {ct:Nod→List UInt8 × Int}
end
def zpa (L:List Fil):Prop:=(∀ f ∈ L,f.data.length≤1025)∧L.length≤512
theorem zpa.snoc {L:List Fil} {f:Fil} (h:zpa L) (hl:L.length ≠ 512) (hf:f.data.length≤1025):zpa (L++[f]) :=
 ⟨fun x hx=>by
  rcases List.mem_append.1 hx with hx | hx
  ·exact h.1 x hx
  ·simp at hx;subst hx;exact hf,by have:=h.2;simp;omega⟩
theorem zp2 {g:List UInt8→Int→Nod × Int} {ct:Nod→List UInt8 × Int} {rec:List Itm→Path→List Fil→List Fil × Int} {names:Path} (hct:∀ k kind,(ct (g k kind).1).1.length≤1025) (hr:∀ items names out,zpa out→zpa (rec items names out).1):∀ (items:List Itm) (out:List Fil),zpa out→zpa (zls g ct rec names items out).1
 | [],out,h=>h
 | it :: its,out,h=>by
  have h0:zpa []:=⟨by simp,by simp⟩
  rw [zls]
  by_cases h1:out.length=512
  ·rw [if_pos h1];exact h0
  rw [if_neg h1]
  by_cases h2:8 < names.length+1
  ·rw [if_pos h2];exact h0
  rw [if_neg h2]
  by_cases h3:(g it.sum it.kind).2 ≠ 0
  ·rw [if_pos h3];exact h0
  rw [if_neg h3]
  by_cases h4:it.kind=3
  ·rw [if_pos h4]
   have h6:=hr (g it.sum it.kind).1.items (names++[it.name]) (out++[⟨vw (names++[it.name]),true,[]⟩]) (h.snoc h1 (by simp))
   generalize rec (g it.sum it.kind).1.items (names++[it.name]) (out++[⟨vw (names++[it.name]),true,[]⟩])=Z at *
   by_cases h5:Z.2 ≠ 0
   ·rw [if_pos h5];exact h0
   ·rw [if_neg h5];exact zp2 hct hr its _ h6
  ·rw [if_neg h4]
   by_cases h5:(ct (g it.sum it.kind).1).2 ≠ 0
   ·rw [if_pos h5];exact h0
   ·rw [if_neg h5];exact zp2 hct hr its _ (h.snoc h1 (hct _ _))
theorem zy1 {g:List UInt8→Int→Nod × Int} {ct:Nod→List UInt8 × Int} (hct:∀ k kind,(ct (g k kind).1).1.length≤1025):∀ (f:Nat) (items:List Itm) (names:Path) (out:List Fil),zpa out→zpa (zsy g ct f items names out).1
 | 0,_,_,_,_=>⟨by simp [zsy],by simp [zsy]⟩
 | f+1,items,names,out,h=>zp2 hct (zy1 hct f) items out h
theorem z9g {g:List UInt8→Nod × Int} {size:Int}:∀ (ps:List (List UInt8)) (i:Nat) (acc:List UInt8),((z3x g size i ps acc).1.length:Int)≤acc.length+max 0 (size - 64 * i)
 | [],i,acc=>by simp only [z3x];omega
 | p :: ps,i,acc=>by
  unfold z3x
  split
  ·simp only [List.length_nil];omega
  ·split
   ·simp only [List.length_nil];omega
   ·rename_i h
    have h:((g p).1.data.length:Int)=min 64 (size - 64 * i):=by simpa using h
    have ih:=z9g (g:=g) (size:=size) ps (i+1) (acc++(g p).1.data)
    simp only [List.length_append] at ih
    omega
theorem qh7 {r:Bl.SM} {k:List UInt8} {kind:Int}:(zgp r (gV r k kind).1).1.length≤1025:=by
 have h1:=z9g (g:=fun k=>zup (Bl.zay r k) k 1) (size:=(gV r k kind).1.size) (gV r k kind).1.parts 0 []
 have h2:(gV r k kind).1.size≤1025:=zvt.2.2.1
 have h3:((zgp r (gV r k kind).1).1.length:Int)≤_:=h1
 simp only [List.length_nil] at h3
 omega
theorem qbm {r:Bl.SM} {root:List UInt8}:zpa (zm5 r root).1:=by
 unfold zm5
 split
 ·exact ⟨by simp,by simp⟩
 ·exact zy1 (fun k kind=>qh7) _ _ _ _ ⟨by simp,by simp⟩
theorem zz2:∀ {L:List Fil} {n:Nat},(∀ f ∈ L,f.data.length≤n)→(L.flatMap (·.data)).length≤n * L.length
 | [],n,_=>by simp
 | f :: L,n,h=>by
  have h1:=h f (by simp)
  have h2:=zz2 (L:=L) (n:=n) fun x hx=>h x (by simp [hx])
  simp only [List.flatMap_cons,List.length_append,List.length_cons,Nat.mul_add,Nat.mul_one]
  omega
abbrev TQ:=(Option Addr × Nat × Nat) × (Path × Itm)
def qms (y:TQ):List Value:=zcr y.1 :: zfk y.2.2
theorem qdo (y:TQ):(qms y).length=35:=by simp [qms,zax]
theorem uSQ:P.underlying zwi=some (.slice zv1):=by kernel_rfl
theorem szQ:(P.info? zv1).map (·.size)=some 35:=by kernel_rfl
def QOk (H:Heap) (y:TQ):Prop:=Mine H 0 qc 1 y.1 (strRow (y.2.1++[y.2.2.name]))∧y.2.2.sum.length=32
def zq5 (H:Heap) (x:Option Addr × Nat × Nat) (ps:List (Path × Itm)):Prop :=
 ∃ ys:List TQ,Cells H x.1 (ys.flatMap qms)∧x.2.1=ys.length∧x.2.1≤x.2.2∧ys.map (·.2)=ps∧(∀ y ∈ ys,QOk H y)∧(ys ≠ []→∀ c ∈ xw x,∃ cs fr,H[c]?=some (.cells cs zv1 fr))
theorem zq5.len {H:Heap} {x:Option Addr × Nat × Nat} {ps:List (Path × Itm)} (h:zq5 H x ps):x.2.1=ps.length:=by
 obtain ⟨ys,_,h2,_,h4,_⟩:=h
 rw [← h4];simpa using h2
theorem zq5.nil {H:Heap}:zq5 H (none,0,0) []:=⟨[],.inl rfl,rfl,Nat.le_refl _,rfl,by simp,by simp⟩
theorem zq5.ext {H H':Heap} {x o:Option Addr × Nat × Nat} {ps:List (Path × Itm)} {B:Nat} {vs:List Value} (h:zq5 H x ps) (ho:Mine H B zk 3 o vs) (hx:Ext (xw o) H H'):zq5 H' x ps:=by
 obtain ⟨ys,h1,h2,h3,h4,h5,h6⟩:=h
 have hno:ys ≠ []→∀ c ∈ xw x,c ∉ xw o:=by
  intro hys c hc hco
  obtain ⟨cs,fr,hg⟩:=h6 hys c hc
  rcases ho with ⟨rfl,_⟩ | ⟨b2,c2,hx2,_,hg2,_⟩
  ·simp [xw] at hco
  ·simp [xw,hx2] at hco
   subst hco
   rw [hg] at hg2
   simp only [Option.some.injEq,Obj.cells.injEq] at hg2
   exact absurd hg2.2.1 (by decide)
 refine ⟨ys,h1.ext hx (fun a ha hne=>hno (fun h=>hne (by rw [h];rfl)) _ (by simp [xw,ha])),h2,h3,h4,fun y hy=>⟨(h5 y hy).1.ext hx (zge (h5 y hy).1 ho (by decide)),(h5 y hy).2⟩,fun hys c hc=>?_⟩
 obtain ⟨cs,fr,hg⟩:=h6 hys c hc
 exact ⟨cs,fr,hx.get hg (hno hys c hc)⟩
theorem qkm (ys:List TQ):(ys.flatMap qms).length=ys.length * 35:=by rw [qg qms qdo]
theorem zq5.tail {H:Heap} {x:Option Addr × Nat × Nat} {p:Path × Itm} {ps:List (Path × Itm)} (h:zq5 H x (p :: ps)):∃ x',(∀ w,(Instr.sliceAt zwi (.slice x.1 x.2.1 x.2.2) (some (.int .i64 1)) none none).run P w=.ok (zcr x') w)∧zq5 H x' ps:=by
 obtain ⟨ys,h1,h2,h3,h4,h5,h6⟩:=h
 cases ys with
 | nil=>simp at h4
 | cons y ys =>
  simp only [List.map_cons,List.cons.injEq] at h4
  simp only [List.length_cons] at h2
  refine ⟨(if x.2.2=1 then x.1 else x.1.map (·.add (1 * 35)),x.2.1 - 1,x.2.2 - 1),fun w=>zaq (a:=x.1) (len:=x.2.1) (cap:=x.2.2) (l:=1) (h:=x.2.1) uSQ szQ (.yes (k:=.i64) (i:=(1:Int)) rfl) .no (by omega) h3,ys,?_,by show x.2.1 - 1=_;omega,by show x.2.1 - 1≤x.2.2 - 1;omega,h4.2,fun z hz=>h5 z (by simp [hz]),fun _ c hc=>h6 (by simp) c ?_⟩
  ·by_cases hc:x.2.2=1
   ·have:ys=[]:=List.eq_nil_of_length_eq_zero (by omega)
    subst this
    exact .inl rfl
   ·simp only [if_neg hc]
    have:=h1.part 35 (ys.length * 35) (by rw [qkm];simp;omega)
    rw [List.flatMap_cons,List.drop_left' (by rw [qdo]),List.take_of_length_le (by rw [qkm];omega)] at this
    exact this
  ·by_cases hc':x.2.2=1
   ·simpa [xw,hc'] using hc
   ·simp only [xw,if_neg hc'] at hc ⊢
    cases hx:x.1 with
    | none=>rw [hx] at hc;simp at hc
    | some a=>rw [hx] at hc;simpa [Addr.add] using hc
def npm (D:List UInt8):Nat:=(D.length+1023) / 1024
def zjv (D:List UInt8) (j:Nat):List UInt8:=(D.drop (1024 * j)).take 1024
def zmn (y:Option Addr × Nat × Nat) (D:List UInt8) (j:Nat):Option Addr × Nat × Nat:=(if 1024 * j+min 1024 (D.length - 1024 * j)=1024 * j then y.1 else y.1.map (·.add (1024 * j * 1)),(1024 * j+min 1024 (D.length - 1024 * j)) - 1024 * j,(1024 * j+min 1024 (D.length - 1024 * j)) - 1024 * j)
theorem zvq {D:List UInt8} {j:Nat}:(zjv D j).length=min 1024 (D.length - 1024 * j):=by simp [zjv]
theorem z2g {D:List UInt8} {j:Nat}:j < npm D ↔ 1024 * j < D.length:=by unfold npm;omega
theorem z6l {H:Heap} {y:Option Addr × Nat × Nat} {D:List UInt8} {j:Nat} (h:Cells H y.1 (byteCells D)) (hj:j < npm D):Cells H (zmn y D j).1 (byteCells (zjv D j)):=by
 have hj':=z2g.1 hj
 have h1:=h.part (1024 * j) (min 1024 (D.length - 1024 * j)) (by simp;omega)
 rw [zfy,zfw] at h1
 have h2:zjv D j=(D.drop (1024 * j)).take (min 1024 (D.length - 1024 * j)):=by
  unfold zjv
  by_cases h64:1024≤D.length - 1024 * j
  ·rw [Nat.min_eq_left h64]
  ·rw [Nat.min_eq_right (by omega),List.take_of_length_le (by simp;omega),List.take_of_length_le (by simp)]
 rw [h2]
 unfold zmn
 simp only
 rw [if_neg (by omega),Nat.mul_one]
 exact h1
theorem qfc {w:World} {H:Heap} {b c:Nat} {y:Option Addr × Nat × Nat} {D:List UInt8} (hw:w.heap=H) (hb:H[b]?=some (.cells #[zcr y] zh (0,0))) (hc:H[c]?=some (.cells #[.int .i64 1024] zdf (0,0))) (hy:y.2.1=D.length) (hcap:y.2.1≤y.2.2) (hD:D.length≤1099511627776) :
  qkn P (.func (.func zat) #[] #[.pointer (some ⟨b,0,none⟩),.pointer (some ⟨c,0,none⟩)]) (fun ys=>ys=List.range (npm D)) (fun pre j=>j=pre.length∧j < npm D) (fun j=>#[zcr (zmn y D j)]) [b,c] w:=by
 refine ⟨_,_,rfl,fun l I J w1 M hx1 hMM hst h0 hY=>?_⟩
 have hx1:=hw ▸ hx1
 have hb1:=hx1.get hb (by simp)
 have hc1:=hx1.get hc (by simp)
 have hbl:=lt_of_get hb1
 have hcl:=lt_of_get hc1
 refine zen ?_
 unfold zbs
 refine jd (fun s W=>∃ i:Nat,s=((1024 * i:Nat):Int)∧i≤npm D∧I (List.range i) W∧w1.heap.size≤W.heap.size∧W.heap[b]?=some (.cells #[zcr y] zh (0,0))∧W.heap[c]?=some (.cells #[.int .i64 1024] zdf (0,0))) (fun s _=>(1024 * npm D+1024 - s).toNat)
  ⟨0,rfl,Nat.zero_le _,h0,Nat.le_refl _,hb1,hc1⟩ ?_
 rintro _ W ⟨i,rfl,hi,hI,hsz,hbW,hcW⟩
 simp only [xq]
 refine jh (s:=.slc) (t:=y) rfl hbW rfl ?_
 refine zq (fun hil=>?_) (fun hil=>?_)
 ·have hil:i < npm D:=z2g.2 (by omega)
  have hil':=z2g.1 hil
  refine jw rfl fun w2 hw2=>?_
  have hx02:Ext [] W.heap w2.heap:=by rw [hw2];exact .refl _ _
  have hb2:=hx02.get hbW (by simp)
  have hc2:=hx02.get hcW (by simp)
  refine jh (s:=.int .i64) (t:=(1024:Int)) rfl hc2 rfl ?_
  refine jh (s:=.slc) (t:=y) rfl hb2 rfl ?_
  refine qm (s:=.slc) (if y.2.2=1024 * i then y.1 else y.1.map (·.add (1024 * i * 1)),y.2.1 - 1024 * i,y.2.2 - 1024 * i) (zaq uS8 sz8 (.yes rfl) .no (by omega) hcap) ?_
  refine qm (s:=.int .i64) ((min 1024 (D.length - 1024 * i):Nat):Int) (by
   rw [run_min_int2]
   refine congrArg (fun z=>Result.ok (Value.int .i64 z) _) ?_
   simp only
   split <;> omega) ?_
  refine jh (s:=.slc) (t:=y) rfl hb2 rfl ?_
  refine xu ((1024 * i+min 1024 (D.length - 1024 * i):Nat):Int) (by omega) (by omega) (by omega) ?_
  refine xu ((1024 * i+min 1024 (D.length - 1024 * i):Nat):Int) (by omega) (by omega) (by omega) ?_
  refine qm (s:=.slc) (zmn y D i) (z2q uS8 sz8 (by omega) (Nat.le_refl _) (by omega)) ?_
  refine zso ((hY (List.range i) i w2 ⟨by simp,hil⟩ (hst _ _ _ hI (.new hsz hx02))).mono ?_)
  have hs2:W.heap.size≤w2.heap.size:=hx02.1
  rintro e W2 ⟨hK,⟨rfl,hI2⟩ | ⟨rfl,hJ2⟩⟩
  ·refine ⟨true,rfl,?_⟩
   refine jl rfl ?_
   have hb3:=hK.get hb2 hbl (fun h=>(hMM _ h).2 (by simp))
   have hc3:=hK.get hc2 hcl (fun h=>(hMM _ h).2 (by simp))
   refine jh (s:=.int .i64) (t:=(1024:Int)) rfl hc3 rfl ?_
   refine xu ((1024 * (i+1):Nat):Int) (by omega) (by omega) (by omega) ?_
   refine ⟨⟨i+1,rfl,by omega,?_,?_,hb3,hc3⟩,by omega⟩
   ·rw [List.range_succ];exact hI2
   ·exact Nat.le_trans (Nat.le_trans hsz hs2) hK.1
  ·refine ⟨false,rfl,?_⟩
   exact zab rfl ⟨⟨_,rfl⟩,.inr hJ2⟩
 ·have hil:i=npm D:=by
   have:¬ i < npm D:=fun h=>by have:=z2g.1 h;omega
   omega
  refine ⟨⟨_,rfl⟩,.inl ⟨List.range (npm D),rfl,?_⟩⟩
  rw [← hil];exact hI
theorem qjc {w:World} {H:Heap} {y:Option Addr × Nat × Nat} {D:List UInt8} (hw:w.heap=H) (hy:y.2.1=D.length) (hcap:y.2.1≤y.2.2) (hD:D.length≤1099511627776) :
  qj P zbf #[.slice y.1 y.2.1 y.2.2,.int .i64 1024] w fun e w'=>∃ gv b c,e=.returned gv∧H.size≤b∧H.size≤c∧b < w'.heap.size∧c < w'.heap.size∧Ext [] H w'.heap ∧
   qkn P gv (fun ys=>ys=List.range (npm D)) (fun pre j=>j=pre.length∧j < npm D) (fun j=>#[zcr (zmn y D j)]) [b,c] w':=by
 refine ze4 ?_
 unfold zci
 refine jv hw fun w1 hw1=>?_
 have hx1:Ext [] H w1.heap:=by rw [hw1];exact .push _
 have hb1:w1.heap[H.size]?=some (.cells #[zcr y] zh (0,0)):=by rw [hw1];exact zn
 refine jv rfl fun w2 hw2=>?_
 have hx2:Ext [] w1.heap w2.heap:=by rw [hw2];exact .push _
 have hc2:w2.heap[w1.heap.size]?=some (.cells #[.int .i64 1024] zdf (0,0)):=by rw [hw2];exact zn
 have hb2:=hx2.get hb1 (by simp)
 refine zac ?_
 refine jh (s:=.int .i64) (t:=(1024:Int)) rfl hc2 rfl ?_
 refine jl rfl ?_
 refine qm (s:=.any) (.func (.func zat) #[] #[.pointer (some ⟨H.size,0,none⟩),.pointer (some ⟨w1.heap.size,0,none⟩)]) (by simp [Instr.makeFunc];rfl) ?_
 have hs1:=hx1.1
 exact ⟨_,H.size,w1.heap.size,rfl,Nat.le_refl _,hs1,lt_of_get hb2,lt_of_get hc2,hx1.trans hx2,qfc rfl hb2 hc2 hy hcap hD⟩
theorem qco {f g:Fil}:f=g ↔ f.path=g.path∧f.dir=g.dir∧f.data=g.data:=by
 cases f;cases g;simp
theorem qnk {f g:Fil} {w:World}:(Op.equalIn 10000 zk (.agg (zbc f).toArray) (.agg (zbc g).toArray)).run P w=.ok (decide (f=g)) w:=by
 rw [run_equalIn_agg w 9999 zk _ _ uFl qnu]
 have hf:=fFl
 generalize (P.fieldsOf zk).toList=fs at hf
 have hl:fs.length=3:=by simpa using congrArg List.length hf
 obtain ⟨f0,f1,f2,rfl⟩:∃ a b c,fs=[a,b,c]:=by
  match fs,hl with
  | [a,b,c],_=>exact ⟨a,b,c,rfl⟩
 simp only [List.map_cons,List.map_nil,List.cons.injEq,Prod.mk.injEq,and_true] at hf
 obtain ⟨⟨n0,t0,o0⟩,⟨n1,t1,o1⟩,n2,t2,o2⟩:=hf
 have e0:∀ (f:Fil) w,(part f0.type (zbc f).toArray f0.offset).run P w=.ok (.string (strOf f.path)) w:=fun f w=>by rw [t0,o0];exact qd9 (by kernel_rfl) rfl
 have e1:∀ (f:Fil) w,(part f1.type (zbc f).toArray f1.offset).run P w=.ok (.bool f.dir) w:=fun f w=>by rw [t1,o1];exact qd9 (by kernel_rfl) rfl
 have e2:∀ (f:Fil) w,(part f2.type (zbc f).toArray f2.offset).run P w=.ok (.string (strOf f.data)) w:=fun f w=>by rw [t2,o2];exact qd9 (by kernel_rfl) rfl
 have q0:(Op.equalIn 9999 f0.type (.string (strOf f.path)) (.string (strOf g.path))).run P w=.ok (decide (f.path=g.path)) w:=by rw [t0,run_equalIn_string w 9998 _ _ _ z0e,zau,zau,qjg]
 have q1:(Op.equalIn 9999 f1.type (.bool f.dir) (.bool g.dir)).run P w=.ok (decide (f.dir=g.dir)) w:=by rw [t1,run_equalIn_bool' w 9998 _ _ _ qkb];congr 1
 have q2:(Op.equalIn 9999 f2.type (.string (strOf f.data)) (.string (strOf g.data))).run P w=.ok (decide (f.data=g.data)) w:=by rw [t2,run_equalIn_string w 9998 _ _ _ z0e,zau,zau,qjg]
 have fin:∀ {b:Bool},(Op.eqFields 9999 (zbc f).toArray (zbc g).toArray [f0,f1,f2]).run P w=.ok b w→b=decide (f=g)→(Op.eqFields 9999 (zbc f).toArray (zbc g).toArray [f0,f1,f2]).run P w=.ok (decide (f=g)) w:=fun h e=>by rw [h,e]
 by_cases h0:f.path=g.path
 ·rw [decide_eq_true h0] at q0
  by_cases h1:f.dir=g.dir
  ·rw [decide_eq_true h1] at q1
   by_cases h2:f.data=g.data
   ·rw [decide_eq_true h2] at q2
    refine fin (b:=true) ?_ (by simp [qco,h0,h1,h2])
    simp only [Op.eqFields,n0,n1,n2,ne_eq,String.reduceEq,not_false_eq_true,if_true,Sem.run_bind,e0,e1,e2,Result.andThen_ok,q0,q1,q2,Bool.not_true,Bool.false_eq_true,if_false,Sem.run_pure]
   ·rw [decide_eq_false h2] at q2
    refine fin (b:=false) ?_ (by simp [qco,h2])
    simp only [Op.eqFields,n0,n1,n2,ne_eq,String.reduceEq,not_false_eq_true,if_true,Sem.run_bind,e0,e1,e2,Result.andThen_ok,q0,q1,q2,Bool.not_true,Bool.not_false,Bool.false_eq_true,if_false,Sem.run_pure]
  ·rw [decide_eq_false h1] at q1
   refine fin (b:=false) ?_ (by simp [qco,h1])
   simp only [Op.eqFields,n0,n1,n2,ne_eq,String.reduceEq,not_false_eq_true,if_true,Sem.run_bind,e0,e1,e2,Result.andThen_ok,q0,q1,Bool.not_true,Bool.not_false,Bool.false_eq_true,if_false,Sem.run_pure]
 ·rw [decide_eq_false h0] at q0
  refine fin (b:=false) ?_ (by simp [qco,h0])
  simp only [Op.eqFields,n0,n1,n2,ne_eq,String.reduceEq,not_false_eq_true,if_true,Sem.run_bind,e0,e1,e2,Result.andThen_ok,q0,Bool.not_false,Bool.false_eq_true,if_false,Sem.run_pure]
theorem qnh {x y:Operand} {f g:Fil} {w:World}:(eqM .neq zk x y (.agg (zbc f).toArray) (.agg (zbc g).toArray)).run P w=.ok (.bool (!decide (f=g))) w:=by
 simp only [eqM,Sem.run_bind,run_eqGuard_agg w .neq zk x y _ _ qj8,Result.andThen_ok,run_neq_struct w,qnk]
theorem qmk {f:Fil} {c:Array Value} {o:Nat} (hs:o+3≤c.size) (hc:∀ j,j < 3→c[o+j]?=(zbc f)[j]?):c.extract o (o+3)=(zbc f).toArray:=by
 apply Array.ext_getElem?
 intro j
 rw [Array.getElem?_extract]
 by_cases hj:j < 3
 ·rw [if_pos (by omega),hc j hj];simp
 ·rw [if_neg (by omega),Array.getElem?_eq_none (by simp [zbg];omega)]
def qet (j:Nat):List UInt8:=[47,112,UInt8.ofNat (48+j / 10),UInt8.ofNat (48+j % 10)]
def z5o (S:List UInt8) (k:Nat):List Fil:=(List.range k).map fun j=>⟨qet j,false,zjv S j⟩
def zkd (S:List UInt8):List Fil:=z5o S (npm S)
theorem z2o {S:List UInt8} {k:Nat}:z5o S (k+1)=z5o S k++[⟨qet k,false,zjv S k⟩]:=by simp [z5o,List.range_succ]
theorem zqi {S:List UInt8} {k:Nat}:(z5o S k).length=k:=by simp [z5o]
theorem zur {S:List UInt8}:(zkd S).length=npm S:=zqi
def zgh (L:List Fil):List UInt8:=L.flatMap (·.data)
theorem enc1 {n:Nat} (h:n < 128):Utf8.encode (n:Int)=strOf [UInt8.ofNat n]:=by
 unfold Utf8.encode
 have hv:Utf8.valid (n:Int)=true:=by unfold Utf8.valid;simp;left;omega
 simp only [hv,if_true,Int.toNat_natCast,h]
 rfl
theorem qkc {a:Int} {K:Int→Prop} (h1:0≤a) (h2:a < 2147483648) (hK:K a):cvI .i32 a K:=by
 refine ⟨a,?_,hK⟩
 have hm:a % 4294967296=a:=by omega
 unfold IntKind.wrap
 simp [IntKind.bits,IntKind.signed,hm]
 omega
theorem zq6 {w:World} {i:Nat} (hi:i < 800):qj P zss #[.int .i64 (i:Int)] w fun e w'=>e=.returned (.string (strOf (qet i)))∧w'=w:=by
 refine z6d ?_
 unfold zrr
 refine zyl i 10 rfl rfl (by omega) (by omega) ?_
 refine xu ((48+i / 10:Nat):Int) (by omega) (by omega) (by omega) ?_
 refine qkc (by omega) (by omega) ?_
 refine zad (s:=.str) (strOf [UInt8.ofNat (48+i / 10)]) w (by rw [run_convert_int_string w z5i qc .i32 _ (by kernel_rfl) z0e,enc1 (by omega)];rfl) ?_
 refine zyq (A:=[47,112]) (by simp) ?_
 refine z3f i 10 rfl rfl (by omega) ?_
 refine xu ((48+i % 10:Nat):Int) (by omega) (by omega) (by omega) ?_
 refine qkc (by omega) (by omega) ?_
 refine zad (s:=.str) (strOf [UInt8.ofNat (48+i % 10)]) w (by rw [run_convert_int_string w z5i qc .i32 _ (by kernel_rfl) z0e,enc1 (by omega)];rfl) ?_
 refine zyq (by simp) ?_
 exact ⟨rfl,rfl⟩
theorem qk9 (s d:ByteArray) (w:World):(Instr.build zk #[(0,.string s),(2,.string d)]).run P w=.ok (.agg #[.string s,.bool false,.string d]) w:=by kernel_rfl
theorem qpg:zc P zo=#[.slice none 0 0]:=by kernel_rfl
theorem qgo {w:World} {H:Heap} {B:Nat} {x:Option Addr × Nat × Nat} {T:List Fil} {i:Fil} {Q:World→Prop} (hw:w.heap=H) (hm:Mine H B zk 3 x (T.flatMap zbc)) (hBs:B≤H.size) (hlen:T.length≤1073741824) (hQ:∀ w',Ext [] H w'.heap→Q w') {K:(Option Addr × Nat × Nat)→World→Prop}
  (hK:∀ x' w',Mine w'.heap B zk 3 x' ((T++[i]).flatMap zbc)→Ext (xw x) H w'.heap→(∀ c ∈ xw x',c ∈ xw x ∨ H.size≤c)→K x' w') :
  zal P (Instr.buildSlice zo 1 #[(0,.agg (zbc i).toArray)]) .slc w fun (t27:(Option Addr × Nat × Nat)) w_13=>Q w_13 ∧
  zal P (Builtin.append_ #[zo,zo] zo #[(Value.slice x.1 x.2.1 x.2.2),(Value.slice t27.1 t27.2.1 t27.2.2)]) .slc w_13 K:=by
 have hlx:x.2.1=T.length:=by have:=hm.len;rw [qah] at this;omega
 refine zad (s:=.slc) (some ⟨w.heap.size,0,none⟩,1,1) _ (zd0 EFi uFs (v:=.agg (zbc i).toArray) (by simp [Value.cells,zbg]) (by omega) (by omega)) ?_
 subst hw
 have hxp:Ext [] w.heap (w.heap.push (.cells (Value.agg (zbc i).toArray).cells zk)):=.push _
 refine ⟨hQ _ hxp,?_⟩
 refine zcq (bts:=40) (n:=1) (us:=zbc i) (H:=w.heap.push (.cells (Value.agg (zbc i).toArray).cells zk)) EFi (by omega) uFs (za5 uFs) rfl (hm.ext hxp (by simp)) (by simp;omega)
  (Src.slc rfl (.inr ⟨w.heap.size,0,_,_,_,rfl,zn,by simp [zfv],by simp [zfv,List.take_of_length_le]⟩) (by rw [zbg])) ztj (by omega) ?_
 intro x' w4 hm4 hl4 hx4 hs4
 refine hK x' w4 (by rw [List.flatMap_append,List.flatMap_singleton];exact hm4) ((hxp.mono (by simp)).trans hx4) (fun c hc=>?_)
 rcases hs4 c hc with h | h
 ·exact .inl h
 ·right;have:=hxp.1;omega
set_option maxHeartbeats 8000000 in
theorem qdh {w:World} {H:Heap} {y:Option Addr × Nat × Nat} {S:List UInt8} (hw:w.heap=H) (hy:Cells H y.1 (byteCells S)) (hyl:y.2.1=S.length) (hyc:y.2.1≤y.2.2) (hS:npm S≤800) :
  qj P zlj #[.slice y.1 y.2.1 y.2.2] w fun e w'=>∃ x,e=.returned (zcr x)∧Mine w'.heap H.size zk 3 x ((zkd S).flatMap zbc)∧Ext [] H w'.heap:=by
 have hSl:S.length≤819200:=by unfold npm at hS;omega
 refine z4w ?_
 unfold zp3
 refine jv hw fun w1 hw1=>?_
 have hx1:Ext [] H w1.heap:=by rw [hw1];exact .push _
 have hb1:w1.heap[H.size]?=some (.cells #[zcr (none,0,0)] zo (0,0)):=by rw [hw1,qpg];exact zn
 have s1:=lt_of_get hb1
 refine zl (qjc rfl hyl hyc (by omega)) ?_
 rintro e w2 ⟨gv,b,c,rfl,hbge,hcge,hblt,hclt,hx2,hseq⟩
 refine ⟨gv,rfl,?_⟩
 have s2:=hx2.1
 have hx02:=hx1.trans hx2
 have hb2:=hx2.get hb1 (by simp)
 have hy2:=hy.ext hx02 (by simp)
 refine qdn (α:=Nat) (shs:=[.slc]) (tv:=zmn y S) (fp:=[b,c]) hseq [H.size] (fun m hm=>by simp at hm;subst hm;exact ⟨by omega,by simp;omega⟩) (fun m hm=>by simp at hm;omega)
  (fun pre W=>∃ x,Ext [] H W.heap∧w2.heap.size≤W.heap.size∧W.heap[H.size]?=some (.cells #[zcr x] zo (0,0))∧Mine W.heap w2.heap.size zk 3 x ((z5o S pre.length).flatMap zbc)∧Cells W.heap y.1 (byteCells S)∧pre.length≤npm S)
  (fun _=>False) (fun _ _=>False) ?_ (fun _ _ h _=>h.elim) (fun _ _ _ h _=>h.elim) ?_ ?_ ?_ (fun _ h=>h.elim) (fun _ _ h=>h.elim)
 ·rintro pre W W' ⟨x,h1,h2,h3,h4,h5,h6⟩ hBe
  exact ⟨x,hBe.ext (by omega) h1,Nat.le_trans h2 hBe.size,hBe.cells h3,hBe.mine h4,hBe.own h5,h6⟩
 ·exact ⟨(none,0,0),hx02,Nat.le_refl _,hb2,.inl ⟨rfl,rfl⟩,hy2,Nat.zero_le _⟩
 ·rintro pre k W ⟨rfl,hk⟩ ⟨x,h1,h2,h3,h4,h5,h6⟩ hsz beg kc kr kx hbeg
  refine hbeg W _ (.refl _ _) fun W2 hB2 hs2 hkc _ _=>?_
  have h1:=hB2.ext (show H.size≤w2.heap.size by omega) h1
  have h3:=hB2.cells h3
  have h4:=hB2.mine h4
  have h5:=hB2.own h5
  generalize hk2:pre.length=k at *
  have xlt:=za9 h4
  have hxl:x.2.1=k:=by have:=h4.len;rw [qah,zqi] at this;omega
  refine jw rfl fun w5 hw5=>?_
  rw [← hw5] at h1 h3 h4 h5 hs2 hkc xlt
  have hpc:∀ {W':World},Ext [] w5.heap W'.heap→(convert zh qc (Value.slice (zmn y S k).1 (zmn y S k).2.1 (zmn y S k).2.2)).run P W'=.ok (.string (strOf (zjv S k))) W':=fun hx=>zvw uS8 u8 z0e rfl (z6l (h5.ext hx (by simp)) hk) (by rw [zvq];unfold zmn;simp only;omega)
  refine jh (s:=.slc) (t:=x) rfl h3 rfl ?_
  refine jh (s:=.slc) (t:=x) rfl h3 rfl ?_
  refine qm (s:=.str) _ (hpc (.refl _ _)) ?_
  rw [hxl]
  refine zl (zq6 (by omega)) ?_
  rintro e w6 ⟨rfl,rfl⟩
  refine ⟨strOf (qet k),rfl,?_⟩
  have re:∀ {W':World},Ext [] w6.heap W'.heap→ld .slc (⟨H.size,0,none⟩:Addr) W' fun z=>Value.slice z.1 z.2.1 z.2.2=Value.slice x.1 x.2.1 x.2.2:=fun h=>jh (s:=.slc) (o:=0) (t:=x) (K:=fun z=>Value.slice z.1 z.2.1 z.2.2=Value.slice x.1 x.2.1 x.2.2) rfl (h.get h3 (by simp)) rfl rfl
  refine ⟨qm (s:=.str) _ (hpc (.refl _ _)) rfl,by rw [← hxl];exact re (.refl _ _),?_⟩
  refine qm (s:=.any) (.agg (zbc ⟨qet k,false,zjv S k⟩).toArray) (qk9 _ _ _) ?_
  have hsW:w2.heap.size≤w6.heap.size:=by omega
  have h4':Mine w6.heap w2.heap.size zk 3 (x.1,k,x.2.2) ((z5o S k).flatMap zbc):=by rw [show (x.1,k,x.2.2)=x from by rw [← hxl]];exact h4
  refine qgo rfl h4' hsW (by rw [zqi];omega) (fun w' hx=>by rw [← hxl];exact re hx) fun x8 w8 hm8 hx8 hs8=>?_
  have hno:H.size ∉ xw x:=fun h=>by have:=jc h4 _ h;omega
  have h38:=hx8.get h3 hno
  refine zcd rfl h38 (by simp) fun w9 hw9=>?_
  have hx9:Ext [H.size] w8.heap w9.heap:=by rw [hw9];exact Ext.set _ (by simp)
  have s8:=hx8.1
  have s9:=hx9.1
  have hxA:Ext (H.size :: xw x) w6.heap w9.heap:=(hx8.mono fun m hm=>by simp;exact .inr hm).trans (hx9.mono fun m hm=>by simp at hm;simp [hm])
  have go:=jc h4
  refine hkc w9 (.of hxA (fun m hm=>?_) (fun m hm=>?_)) ⟨x8,?_,by omega,by rw [hw9];exact qw h38,?_,?_,by simp;omega⟩
  ·simp only [List.mem_cons] at hm
   rcases hm with rfl | hm
   ·left;simp
   ·right;exact ⟨go m hm,(xlt m hm).2⟩
  ·simp only [List.mem_singleton] at hm
   subst hm;omega
  ·exact h1.own hxA (fun m hm hlt=>by
    simp only [List.mem_cons] at hm
    rcases hm with rfl | hm
    ·omega
    ·have:=go m hm;omega)
  ·rw [List.length_append,List.length_singleton,hk2,z2o]
   exact hm8.ext hx9 (fun m hm h=>by simp at h;subst h;have:=jc hm8 _ hm;omega)
  ·refine h5.ext hxA fun a ha hne h=>?_
   rcases hy with h' | ⟨b',o',c',T',fr',ha',hb',_⟩
   ·exact hne (by rw [h'])
   ·rw [ha'] at ha
    simp only [Option.some.injEq] at ha
    subst ha
    have:=lt_of_get hb'
    simp only [List.mem_cons] at h
    rcases h with h | h
    ·omega
    ·have:=go _ h;omega
 ·rintro xs W rfl ⟨x,h1,h2,h3,h4,h5,h6⟩ hDf
  simp only [List.length_range] at h4
  refine jh (s:=.slc) (t:=x) rfl h3 rfl ?_
  refine ⟨hDf,fun w19 hw19=>?_⟩
  have hBs19:Beside w2.heap.size W w19:=by rw [hw19];exact .put (Nat.le_refl _) hDf (by intro _ _ _ h;cases h)
  exact ⟨x,rfl,(hBs19.mine h4).mono (by omega),hBs19.ext (by omega) h1⟩
theorem ss0 (w:World):(Instr.sliceAt qc (Value.string (ByteArray.mk #[48,49,50,51,52,53,54,55,56,57])) (some (Value.int .i64 0)) (some (Value.int .i64 1)) none).run P w=.ok (.string (ByteArray.mk #[48])) w:=by kernel_rfl
theorem ss1 (w:World):(Instr.sliceAt qc (Value.string (ByteArray.mk #[48,49,50,51,52,53,54,55,56,57])) (some (Value.int .i64 1)) (some (Value.int .i64 2)) none).run P w=.ok (.string (ByteArray.mk #[49])) w:=by kernel_rfl
theorem ss2 (w:World):(Instr.sliceAt qc (Value.string (ByteArray.mk #[48,49,50,51,52,53,54,55,56,57])) (some (Value.int .i64 2)) (some (Value.int .i64 3)) none).run P w=.ok (.string (ByteArray.mk #[50])) w:=by kernel_rfl
theorem ss3 (w:World):(Instr.sliceAt qc (Value.string (ByteArray.mk #[48,49,50,51,52,53,54,55,56,57])) (some (Value.int .i64 3)) (some (Value.int .i64 4)) none).run P w=.ok (.string (ByteArray.mk #[51])) w:=by kernel_rfl
theorem ss4 (w:World):(Instr.sliceAt qc (Value.string (ByteArray.mk #[48,49,50,51,52,53,54,55,56,57])) (some (Value.int .i64 4)) (some (Value.int .i64 5)) none).run P w=.ok (.string (ByteArray.mk #[52])) w:=by kernel_rfl
theorem ss5 (w:World):(Instr.sliceAt qc (Value.string (ByteArray.mk #[48,49,50,51,52,53,54,55,56,57])) (some (Value.int .i64 5)) (some (Value.int .i64 6)) none).run P w=.ok (.string (ByteArray.mk #[53])) w:=by kernel_rfl
theorem ss6 (w:World):(Instr.sliceAt qc (Value.string (ByteArray.mk #[48,49,50,51,52,53,54,55,56,57])) (some (Value.int .i64 6)) (some (Value.int .i64 7)) none).run P w=.ok (.string (ByteArray.mk #[54])) w:=by kernel_rfl
theorem ss7 (w:World):(Instr.sliceAt qc (Value.string (ByteArray.mk #[48,49,50,51,52,53,54,55,56,57])) (some (Value.int .i64 7)) (some (Value.int .i64 8)) none).run P w=.ok (.string (ByteArray.mk #[55])) w:=by kernel_rfl
theorem ss8 (w:World):(Instr.sliceAt qc (Value.string (ByteArray.mk #[48,49,50,51,52,53,54,55,56,57])) (some (Value.int .i64 8)) (some (Value.int .i64 9)) none).run P w=.ok (.string (ByteArray.mk #[56])) w:=by kernel_rfl
theorem ss9 (w:World):(Instr.sliceAt qc (Value.string (ByteArray.mk #[48,49,50,51,52,53,54,55,56,57])) (some (Value.int .i64 9)) (some (Value.int .i64 10)) none).run P w=.ok (.string (ByteArray.mk #[57])) w:=by kernel_rfl
theorem qdl {i:Nat} (hi:i < 10) (w:World):(Instr.sliceAt qc (Value.string (ByteArray.mk #[48,49,50,51,52,53,54,55,56,57])) (some (Value.int .i64 (i:Int))) (some (Value.int .i64 ((i+1:Nat):Int))) none).run P w=.ok (.string (strOf [UInt8.ofNat (48+i)])) w:=by
 match i,hi with
 | 0,_=>exact ss0 w
 | 1,_=>exact ss1 w
 | 2,_=>exact ss2 w
 | 3,_=>exact ss3 w
 | 4,_=>exact ss4 w
 | 5,_=>exact ss5 w
 | 6,_=>exact ss6 w
 | 7,_=>exact ss7 w
 | 8,_=>exact ss8 w
 | 9,_=>exact ss9 w
set_option maxHeartbeats 4000000 in
theorem qgk {w:World} {H:Heap} {y:Option Addr × Nat × Nat} {S:List UInt8} (hw:w.heap=H) (hy:Cells H y.1 (byteCells S)) (hyl:y.2.1=S.length) (hyc:y.2.1≤y.2.2) (hS:npm S≤100) :
  qj P zsh #[.slice y.1 y.2.1 y.2.2] w fun e w'=>∃ x,e=.returned (zcr x)∧Mine w'.heap H.size zk 3 x ((zkd S).flatMap zbc)∧Ext [] H w'.heap:=by
 have hSl:S.length≤102400:=by unfold npm at hS;omega
 refine z8l ?_
 unfold zsx
 refine jd (fun (s:(Option Addr × Nat × Nat) × Int) W=>∃ k:Nat,s.2=((1024 * k:Nat):Int)∧k≤npm S∧Mine W.heap H.size zk 3 s.1 ((z5o S k).flatMap zbc)∧Ext [] H W.heap) (fun s _=>(S.length+1024 - s.2).toNat)
  ⟨0,rfl,Nat.zero_le _,.inl ⟨rfl,rfl⟩,by rw [hw];exact .refl _ _⟩ ?_
 rintro ⟨x,_⟩ W ⟨k,rfl,hk,hm,hx⟩
 simp only at hm
 have hxl:x.2.1=k:=by have:=hm.len;rw [qah,zqi] at this;omega
 refine zq (fun hlt=>?_) (fun hge=>?_)
 ·have hlt:1024 * k < S.length:=by simp only at hlt;omega
  have hkl:=z2g.2 hlt
  refine jw rfl fun w2 hw2=>?_
  rw [← hw2] at hm hx
  refine zyl k 10 (by simp only [hxl]) rfl (by omega) (by omega) ?_
  refine zyl k 10 (by simp only [hxl]) rfl (by omega) (by omega) ?_
  refine xu ((k / 10+1:Nat):Int) (by omega) (by omega) (by omega) ?_
  refine z3f k 10 (by simp only [hxl]) rfl (by omega) ?_
  refine z3f k 10 (by simp only [hxl]) rfl (by omega) ?_
  refine xu ((k % 10+1:Nat):Int) (by omega) (by omega) (by omega) ?_
  refine xu ((1024 * (k+1):Nat):Int) (by simp only;omega) (by omega) (by omega) ?_
  refine qm (s:=.str) _ (qdl (i:=k / 10) (by omega) _) ?_
  refine zyq (A:=[47,112]) (by simp) ?_
  refine qm (s:=.str) _ (qdl (i:=k % 10) (by omega) _) ?_
  refine zyq (by simp) ?_
  refine qm (s:=.int .i64) ((min S.length (1024 * (k+1)):Nat):Int) (by
   rw [run_min_int2]
   refine congrArg (fun z=>Result.ok (Value.int .i64 z) _) ?_
   rw [hyl]
   split <;> omega) ?_
  have hlen:min S.length (1024 * (k+1)) - 1024 * k=(zjv S k).length:=by rw [zvq];omega
  refine qm (s:=.slc) (if y.2.2=1024 * k then y.1 else y.1.map (·.add (1024 * k * 1)),min S.length (1024 * (k+1)) - 1024 * k,y.2.2 - 1024 * k) (zaq (a:=y.1) (len:=y.2.1) (cap:=y.2.2) (l:=1024 * k) (h:=min S.length (1024 * (k+1))) uS8 sz8 (.yes rfl) (.yes rfl) (by omega) (by omega)) ?_
  have hpc:Cells w2.heap (if y.2.2=1024 * k then y.1 else y.1.map (·.add (1024 * k * 1))) (byteCells (zjv S k)):=by
   have h1:=(hy.ext hx (by simp)).part (1024 * k) (zjv S k).length (by rw [zvq];simp;omega)
   rw [zfy,zfw] at h1
   have h2:(S.drop (1024 * k)).take (zjv S k).length=zjv S k:=by
    unfold zjv
    rw [List.length_take]
    by_cases h:1024≤(S.drop (1024 * k)).length
    ·rw [Nat.min_eq_left h]
    ·rw [Nat.min_eq_right (by omega),List.take_length,List.take_of_length_le (by omega)]
   rw [h2] at h1
   rw [if_neg (by omega),Nat.mul_one]
   exact h1
  refine qm (s:=.str) _ (zvw uS8 u8 z0e rfl hpc hlen) ?_
  refine qm (s:=.any) (.agg (zbc ⟨qet k,false,zjv S k⟩).toArray) (qk9 _ _ _) ?_
  refine qgj rfl hm hx.1 (by rw [zqi];omega) fun x8 w8 hm8 hx8 hs8=>?_
  refine xu ((1024 * (k+1):Nat):Int) (by simp only;omega) (by omega) (by omega) ?_
  have go:=jc hm
  exact ⟨⟨k+1,rfl,by omega,by rw [z2o];exact hm8,hx.own hx8 (fun c hc hlt=>by have:=go c hc;omega)⟩,by simp only;omega⟩
 ·have hk2:k=npm S:=by
   have:¬ k < npm S:=fun h=>by have:=z2g.1 h;simp only at hge;omega
   omega
  subst hk2
  exact ⟨x,rfl,hm,hx⟩
theorem qje {w:World} {H:Heap} {a b:Option Addr} {n nc m mc:Nat} {L M:List Fil} (hw:w.heap=H) (hA:Cells H a (L.flatMap zbc)) (hn:n=L.length) (hB:Cells H b (M.flatMap zbc)) (hm:m=M.length) (hL:L.length≤1099511627776) :
  qj P zbv #[.slice a n nc,.slice b m mc] w fun e w'=>e=.returned (.bool (decide (L=M)))∧w'.heap=H:=by
 subst hn hm
 refine zgc ?_
 unfold zbt
 refine zb1 (fun h=>⟨by rw [decide_eq_false (fun e=>h (by rw [e]))],hw⟩) (fun h=>?_)
 have h:L.length=M.length:=by omega
 refine jd (fun (s:Int) W=>∃ i:Nat,s=(i:Int)∧i≤L.length∧L.take i=M.take i∧W.heap=H) (fun s _=>(L.length - s).toNat) ⟨0,rfl,Nat.zero_le _,by simp,hw⟩ ?_
 rintro _ W ⟨i,rfl,hi,ht,hW⟩
 refine zq (fun hlt=>?_) (fun hge=>?_)
 ·have hil:i < L.length:=by omega
  have hget:=List.getElem?_eq_getElem hil
  have hget2:=List.getElem?_eq_getElem (show i < M.length by omega)
  generalize L[i]=f at hget
  generalize M[i]=g at hget2
  refine jw hW fun W1 hW1=>?_
  refine Bl.zdh (i:=i) zbg (by omega) hA rfl hget rfl fun ba oa ca Ta fra _ hba hsa hca _=>?_
  refine Bl.zdh (i:=i) zbg (by omega) hB rfl hget2 rfl fun b2 o2 c2 T2 fr2 _ hb2 hs2 hc2 _=>?_
  refine zre hW1 hba hsa ?_
  rw [qmk hsa hca]
  refine zre hW1 hb2 hs2 ?_
  rw [qmk hs2 hc2]
  refine qm (s:=.bool) (!decide (f=g)) qnh ?_
  by_cases e:f=g
  ·refine jl (by simp [e]) ?_
   refine xu ((i+1:Nat):Int) (by simp) (by omega) (by omega) ?_
   exact ⟨⟨i+1,rfl,by omega,by rw [List.take_add_one,List.take_add_one,ht,hget,hget2,e],hW1⟩,by omega⟩
  ·refine zab (by simp [e]) ⟨?_,hW1⟩
   rw [decide_eq_false fun h0=>e ?_]
   rw [h0,hget2] at hget
   exact (Option.some.inj hget).symm
 ·rw [List.take_of_length_le (by omega),List.take_of_length_le (by omega)] at ht
  exact ⟨by rw [decide_eq_true ht],hW⟩
noncomputable def zfi (S:List UInt8):Int:=if 65536 < S.length then 2 else zcg (zkd S)
def zvm (r:Bl.SM) (root:List UInt8):List UInt8 × Int :=
 if (zm5 r root).2 ≠ 0 then ([],(zm5 r root).2) else if zkd (zgh (zm5 r root).1)=(zm5 r root).1 then (zgh (zm5 r root).1,0) else ([],21)
theorem z6p {L:List Fil} {i:Nat} {f:Fil} (h:L[i]?=some f):zgh (L.take (i+1))=zgh (L.take i)++f.data:=by
 unfold zgh
 rw [List.take_add_one,h]
 simp
theorem zt3 {L:List Fil} (h:zpa L) (i:Nat):(zgh (L.take i)).length≤524800:=by
 have h1:=zz2 (L:=L.take i) (n:=1025) fun f hf=>h.1 f (List.mem_of_mem_take hf)
 have h2:=h.2
 have h3:(L.take i).length≤512:=by simp;omega
 have:1025 * (L.take i).length≤1025 * 512:=Nat.mul_le_mul_left _ h3
 unfold zgh
 omega
set_option maxHeartbeats 4000000 in
theorem qhg {w:World} {H:Heap} {fp:List Nat} {p:Nat} {q:Int} {r:Bl.SM} {c:Nat} {y:Option Addr × Nat × Nat} {S:List UInt8} (hw:w.heap=H) (hS:Bl.Store H fp p q r c) (hfp:∀ b ∈ fp,b < H.size) (hRo:Bl.Rounds H) (h0:0 ∉ fp)
  (hy:Cells H y.1 (byteCells S)) (hyl:y.2.1=S.length) (hyc:y.2.1≤y.2.2) (hb:Bl.total r < 1000000000000) (hq:0≤q) (hq2:q≤9223372036854775807) (hlen:∀ k L,Bl.zay r k=some L→L.length < 1099511627776) :
  qj P zf9 #[.pointer (some ⟨p,0,none⟩),.slice y.1 y.2.1 y.2.2] w fun e w'=>∃ code d r' c' fp',e=.returned (.tuple #[arr d,.int .i64 code])∧d.length=32∧Bl.Store w'.heap fp' p q r' c'∧Ext fp H w'.heap∧(∀ b ∈ fp',b < w'.heap.size)∧(∀ b ∈ fp',b ∈ fp ∨ H.size≤b) ∧
   zwa (zfi S) q r (zj1 (zkd S)) code d r'∧Bl.total r'≤Bl.total r+4096 * (1+18 * 64):=by
 refine zwm ?_
 unfold zol
 refine jv hw fun w1 hw1=>?_
 have hx1:Ext [] H w1.heap:=by rw [hw1];exact .push _
 have hd1:w1.heap[H.size]?=some (.cells (zc P zf) zf (0,0)):=by rw [hw1];exact zn
 have s1:=lt_of_get hd1
 refine jl rfl ?_
 refine zq (fun h=>?_) (fun h=>?_)
 ·refine zll rfl hd1 fun w2 hx2=>?_
  have hx02:Ext [] H w2.heap:=hx1.own hx2 fun c hc hlt=>by simp at hc;omega
  have hcode:zfi S=2:=by unfold zfi;rw [if_pos (by omega)]
  refine ⟨2,Bl.nought,r,c,fp,rfl,Bl.zd1,hS.ext hx02 (by simp),hx02.mono (by simp),fun b hb=>by have:=hfp b hb;have:=hx02.1;omega,fun b hb=>.inl hb,?_,by omega⟩
  rw [hcode]
  exact ⟨fun _=>⟨rfl,rfl,rfl⟩,fun h=>by cases h⟩
 have hcode:zfi S=zcg (zkd S):=by unfold zfi;rw [if_neg (by omega)]
 have hn:npm S≤64:=by unfold npm;omega
 refine zl (qdh rfl (hy.ext hx1 (by simp)) hyl hyc (by omega)) ?_
 rintro e w4 ⟨x,rfl,hm4,hx4⟩
 refine ⟨x,rfl,?_⟩
 have hxl:x.2.1=(zkd S).length:=by have:=hm4.len;rw [qah] at this;omega
 have hx04:=hx1.trans hx4
 have hfl:(zkd S).length≤64:=by rw [zur];exact hn
 refine zl (qi6 (L:=zkd S) rfl (hS.ext hx04 (by simp)) (fun b hb=>by have:=hfp b hb;have:=hx04.1;omega) (hRo.ext hx04 (by simp)) h0 hm4.cells hxl (by omega) hb hq hq2 hlen) ?_
 rintro e w5 ⟨code,d,r',c',fp',rfl,hd,hS5,hx5,hf5a,hf5b,hP,ht⟩
 refine ⟨(arr d,code),rfl,?_⟩
 have hno:H.size ∉ fp:=fun h=>by have:=hfp _ h;omega
 have s4:=hx4.1
 have hd5:=hx5.get (hx4.get hd1 (by simp)) hno
 refine z9j hd rfl hd5 zcD fun w6 hw6=>?_
 have hx6:Ext [H.size] w5.heap w6.heap:=by rw [hw6];exact Ext.set _ (by simp)
 have hd6:w6.heap[H.size]?=some (.cells (byteCells d).toArray zf (0,0)):=by rw [hw6];exact qw hd5
 refine je rfl hd6 (by simp [hd]) ?_
 have hno':H.size ∉ fp':=fun h=>by
  rcases hf5b _ h with h | h
  ·exact hno h
  ·omega
 refine ⟨code,d,r',c',fp',rfl,hd,hS5.ext hx6 (fun b hb h=>by simp at h;subst h;exact hno' hb),?_,fun b hb=>by have:=hf5a b hb;have:=hx6.1;omega,fun b hb=>?_,by rw [hcode];exact hP,?_⟩
 ·exact ((hx04.mono (by simp)).trans hx5).own hx6 (fun c hc hlt=>by simp at hc;omega)
 ·rcases hf5b b hb with h | h
  ·exact .inl h
  ·right;have:=hx04.1;omega
 ·omega
theorem qf9 {w:World} {H:Heap} {y:Option Addr × Nat × Nat} (hw:w.heap=H):qj P zf9 #[.pointer none,.slice y.1 y.2.1 y.2.2] w fun e w'=>e=.returned (.tuple #[arr Bl.nought,.int .i64 7])∧Ext [] H w'.heap:=by
 refine zwm ?_
 unfold zol
 refine jv hw fun w1 hw1=>?_
 have hx1:Ext [] H w1.heap:=by rw [hw1];exact .push _
 have hd1:w1.heap[H.size]?=some (.cells (zc P zf) zf (0,0)):=by rw [hw1];exact zn
 refine zab rfl ?_
 refine zll rfl hd1 fun w2 hx2=>?_
 exact ⟨rfl,hx1.own hx2 fun c hc hlt=>by simp at hc;omega⟩
set_option maxHeartbeats 4000000 in
theorem qgz {w:World} {H:Heap} {fp:List Nat} {p:Nat} {q:Int} {r:Bl.SM} {y:Option Addr × Nat × Nat} {S:List UInt8} (hw:w.heap=H) (hS:Bl.zeq H fp p q r) (hfp:∀ b ∈ fp,b < H.size)
  (hy:Cells H y.1 (byteCells S)) (hyl:y.2.1=S.length) (hyc:y.2.1≤y.2.2) (hb:Bl.total r < 1000000000000) (hn:r.length < 100000000000) (hq:0≤q) (hq2:q≤9223372036854775807) (hlen:∀ x ∈ r,x.2.1.2.length < 1099511627776) :
  qj P zqo #[.pointer (some ⟨p,0,none⟩),.slice y.1 y.2.1 y.2.2] w (qop H fp p q r (zfi S) (zj1 (zkd S)) (1+18 * (zkd S).length)):=by
 refine qbk ?_
 unfold zv8
 refine jv hw fun w1 hw1=>?_
 have hx1:Ext [] H w1.heap:=by rw [hw1];exact .push _
 have hd1:w1.heap[H.size]?=some (.cells (zc P zf) zf (0,0)):=by rw [hw1];exact zn
 have s1:=lt_of_get hd1
 refine zq (fun h=>?_) (fun h=>?_)
 ·refine zll rfl hd1 fun w2 hx2=>?_
  have hx02:Ext [] H w2.heap:=hx1.own hx2 fun c hc hlt=>by simp at hc;omega
  have hcode:zfi S=2:=by unfold zfi;rw [if_pos (by omega)]
  rw [hcode]
  exact ⟨2,Bl.nought,r,fp,rfl,Bl.zd1,hS.ext hx02 (by simp),hx02.mono (by simp),fun b hb=>by have:=hfp b hb;have:=hx02.1;omega,fun b hb=>.inl hb,⟨fun _=>⟨rfl,rfl,rfl⟩,fun h=>by cases h⟩,by omega,by omega,hlen⟩
 have hcode:zfi S=zcg (zkd S):=by unfold zfi;rw [if_neg (by omega)]
 have hnp:npm S≤64:=by unfold npm;omega
 refine zl (qgk rfl (hy.ext hx1 (by simp)) hyl hyc (by omega)) ?_
 rintro e w4 ⟨x,rfl,hm4,hx4⟩
 refine ⟨x,rfl,?_⟩
 have hxl:x.2.1=(zkd S).length:=by have:=hm4.len;rw [qah] at this;omega
 have hx04:=hx1.trans hx4
 have hfl:(zkd S).length≤64:=by rw [zur];exact hnp
 refine zl (qj1 (L:=zkd S) rfl (hS.ext hx04 (by simp)) (fun b hb=>by have:=hfp b hb;have:=hx04.1;omega) hm4.cells hxl (by omega) hb hn hq hq2 hlen) ?_
 rintro e w5 ⟨code,d,r',fp',rfl,hd,hS5,hx5,hf5a,hf5b,hP,hn5,ht,hl5⟩
 refine ⟨(arr d,code),rfl,?_⟩
 have hno:H.size ∉ fp:=fun h=>by have:=hfp _ h;omega
 have s4:=hx4.1
 have hd5:=hx5.get (hx4.get hd1 (by simp)) hno
 refine z9j hd rfl hd5 zcD fun w6 hw6=>?_
 have hx6:Ext [H.size] w5.heap w6.heap:=by rw [hw6];exact Ext.set _ (by simp)
 have hd6:w6.heap[H.size]?=some (.cells (byteCells d).toArray zf (0,0)):=by rw [hw6];exact qw hd5
 refine je rfl hd6 (by simp [hd]) ?_
 have hno':H.size ∉ fp':=fun h=>by
  rcases hf5b _ h with h | h
  ·exact hno h
  ·omega
 refine ⟨code,d,r',fp',rfl,hd,hS5.ext hx6 (fun b hb h=>by simp at h;subst h;exact hno' hb),?_,fun b hb=>by have:=hf5a b hb;have:=hx6.1;omega,fun b hb=>?_,by rw [hcode];exact hP,hn5,ht,hl5⟩
 ·exact ((hx04.mono (by simp)).trans hx5).own hx6 (fun c hc hlt=>by simp at hc;omega)
 ·rcases hf5b b hb with h | h
  ·exact .inl h
  ·right;have:=hx04.1;omega
set_option maxHeartbeats 4000000 in
theorem qjz {w:World} {H:Heap} {fp:List Nat} {p:Nat} {q:Int} {r:Bl.SM} {c:Nat} {root:List UInt8} (hw:w.heap=H) (hS:Bl.Store H fp p q r c) (hR:Bl.Rounds H) (hfp:∀ b ∈ fp,b < H.size) (h32:root.length=32) (hlen:∀ k L,Bl.zay r k=some L→L.length < 1099511627776) :
  qj P zo5 #[.pointer (some ⟨p,0,none⟩),arr root] w fun e w'=>∃ y,e=.returned (.tuple #[zcr y,.int .i64 (zvm r root).2])∧Cells w'.heap y.1 (byteCells (zvm r root).1)∧y.2.1=(zvm r root).1.length∧Ext [] H w'.heap:=by
 refine z0n ?_
 unfold zns
 rw [show (arr root).cells=(byteCells root).toArray from rfl]
 refine jv hw fun w1 hw1=>?_
 have hx1:Ext [] H w1.heap:=by rw [hw1];exact .push _
 have hb1:w1.heap[H.size]?=some (.cells (byteCells root).toArray zf (0,0)):=by rw [hw1];exact zn
 refine je rfl hb1 (by simp [h32]) ?_
 refine zl (qf3 (root:=root) rfl (hS.ext hx1 (by simp)) (hR.ext hx1 (by simp)) (fun b hb=>by have:=hfp b hb;have:=hx1.1;omega) h32 hlen) ?_
 rintro e w2 ⟨x,rfl,hx2,hres⟩
 refine ⟨(x,(zm5 r root).2),rfl,?_⟩
 have hsm:=qbm (r:=r) (root:=root)
 have hv:zvm r root=if (zm5 r root).2 ≠ 0 then ([],(zm5 r root).2) else if zkd (zgh (zm5 r root).1)=(zm5 r root).1 then (zgh (zm5 r root).1,0) else ([],21):=rfl
 rw [hv]
 generalize zm5 r root=V at *
 have hx02:=hx1.trans hx2
 refine zb1 (fun h=>?_) (fun h=>?_)
 ·have h:V.2 ≠ 0:=h
  rw [if_pos h]
  exact ⟨(none,0,0),rfl,.inl rfl,rfl,hx02⟩
 have h:V.2=0:=h
 rw [if_neg (by simpa using h)]
 have hm2:=hres h
 have hxl:x.2.1=V.1.length:=by have:=hm2.len;rw [qah] at this;omega
 have s2:=hx02.1
 have hl:=hsm.2
 refine jd (fun (s:(Option Addr × Nat × Nat) × Int) W=>∃ i:Nat,s.2=(i:Int)∧i≤V.1.length∧Ext [] w2.heap W.heap∧Mine W.heap w2.heap.size qy 1 s.1 (byteCells (zgh (V.1.take i)))) (fun s _=>(V.1.length - s.2).toNat)
  ⟨0,rfl,Nat.zero_le _,.refl _ _,.inl ⟨rfl,rfl⟩⟩ ?_
 rintro ⟨o,_⟩ W ⟨i,rfl,hi,hxW,hmo⟩
 simp only at hmo
 have hmW:=hm2.ext hxW (by simp)
 refine zq (fun hlt=>?_) (fun hge=>?_)
 ·have hil:i < V.1.length:=by simp only at hlt;omega
  have hget:=List.getElem?_eq_getElem hil
  have hdat:=hsm.1 _ (List.getElem_mem hil)
  generalize V.1[i]=f at hget hdat
  refine zjm (i:=i) zbg (by omega) rfl hmW.cells hxl hget rfl ?_
  refine qoc f rfl fun w5 hw5=>?_
  have hx5:Ext [] W.heap w5.heap:=by rw [hw5];exact .push _
  have hb5:w5.heap[W.heap.size]?=some (.cells (zbc f).toArray zk (0,0)):=by rw [hw5];exact zn
  refine jh (s:=.str) (t:=strOf f.data) rfl hb5 rfl ?_
  have hst:=zt3 hsm i
  have hW1:=hxW.1
  have h51:=hx5.1
  refine qnj rfl (hmo.ext hx5 (by simp)) (by omega) (by omega) fun x6 w6 hm6 hx6 hs6=>?_
  have go:=jc hmo
  refine xu ((i+1:Nat):Int) (by simp) (by omega) (by omega) ?_
  exact ⟨⟨i+1,rfl,by omega,(hxW.trans hx5).own hx6 (fun c hc hlt=>by have:=go c hc;omega),by rw [z6p hget];exact hm6⟩,by simp only;omega⟩
 ·obtain rfl:i=V.1.length:=by simp only at hge;omega
  rw [List.take_length] at hmo
  have hst:=zt3 hsm V.1.length
  rw [List.take_length] at hst
  have hol:o.2.1=(zgh V.1).length:=by have:=hmo.len;simp at this;omega
  refine zl (qdh rfl hmo.cells hol (zgz hmo) (by unfold npm;omega)) ?_
  rintro e w7 ⟨x7,rfl,hm7,hx7⟩
  refine ⟨x7,rfl,?_⟩
  have hx7l:x7.2.1=(zkd (zgh V.1)).length:=by have:=hm7.len;rw [qah] at this;omega
  refine zl (qje rfl hm7.cells hx7l (hmW.ext hx7 (by simp)).cells hxl (by rw [zur];unfold npm;omega)) ?_
  rintro e w8 ⟨rfl,hw8⟩
  refine ⟨decide (zkd (zgh V.1)=V.1),rfl,?_⟩
  have hx08:Ext [] H w8.heap:=by rw [hw8];exact (hx02.trans hxW).trans hx7
  by_cases he:zkd (zgh V.1)=V.1
  ·refine jl (by simp [he]) ?_
   rw [if_pos he]
   exact ⟨o,rfl,by rw [hw8];exact (hmo.ext hx7 (by simp)).cells,hol,hx08⟩
  ·refine zab (by simp [he]) ?_
   rw [if_neg he]
   exact ⟨(none,0,0),rfl,.inl rfl,rfl,hx08⟩
def fQ:Fil:=⟨[47,112,48,48],false,[115,116,97,116,101]⟩
theorem qpi:zbo fQ.path=([[112,48,48]],0):=by decide +kernel
theorem nmQ:nm fQ=[[112,48,48]]:=by unfold nm;rw [qpi]
def LQ:List Fil:=[fQ]
theorem qob:zh2 LQ=[fQ]:=by decide +kernel
theorem qmw:zav LQ=0:=by decide +kernel
theorem qpz:¬ z1h LQ:=by
 rintro ⟨i,hi,h⟩
 match i,hi with
 | 0,_=>simp [LQ,nmQ] at h
theorem qpt:¬ qf6 LQ:=by
 rintro ⟨f,hf,h1,h2⟩
 simp only [LQ,List.mem_cons,List.not_mem_nil,or_false] at hf
 subst hf
 simp [nmQ] at h1
theorem qn7:¬ z1i LQ:=by
 rintro ⟨f,hf,g,hg,h1,h2⟩
 simp only [LQ,List.mem_cons,List.not_mem_nil,or_false] at hf hg
 subst hf hg
 simp [nmQ] at h1
theorem qpp:¬ qhm LQ:=by
 rintro ⟨f,hf,h⟩
 have:(kids LQ (nm f).dropLast).length≤1:=List.length_filter_le _ _
 omega
theorem qpx:zcg LQ=0:=by rw [z6i qmw,qau qpz qpt qn7 qpp]
def nCQ:Nod:=zlk [115,116,97,116,101]
def nFQ:Nod:=⟨2,[],5,[Sha.sum (zjy nCQ)],[]⟩
def nRQ:Nod:=⟨3,[],0,[],[⟨[112,48,48],2,Sha.sum (zjy nFQ)⟩]⟩
theorem qm8:zhi fQ.data=[zjy nCQ,zjy nFQ]∧zeh fQ.data=Sha.sum (zjy nFQ):=⟨rfl,rfl⟩
theorem qn4:kids [fQ] []=[fQ]:=by decide +kernel
theorem qmn:zj1 LQ=([zjy nCQ,zjy nFQ,zjy nRQ],Sha.sum (zjy nRQ)):=by
 rw [zio,qob]
 rw [show (9:Nat)=8+1 from rfl,zcn,qn4,zkq,zhk]
 simp only [List.map_cons,List.map_nil,zpl,zif,nmQ,show fQ.dir=false from rfl,Bool.false_eq_true,if_false,qm8.1,qm8.2,List.flatten_cons,List.flatten_nil,List.append_nil]
 rfl
def bCQ:List UInt8:=[1,5,115,116,97,116,101]
def bFQ:List UInt8:=[2,5,21,201,22,198,169,195,100,209,230,194,125,43,135,72,113,37,79,88,52,230,110,27,171,7,194,95,10,177,80,226,62,146]
def bRQ:List UInt8:=[3,1,3,112,48,48,2,251,45,54,166,55,165,183,140,212,224,16,66,238,255,15,97,184,51,86,250,170,194,238,48,196,248,74,250,31,39,229,172]
def dCQ:List UInt8:=[21,201,22,198,169,195,100,209,230,194,125,43,135,72,113,37,79,88,52,230,110,27,171,7,194,95,10,177,80,226,62,146]
def dFQ:List UInt8:=[251,45,54,166,55,165,183,140,212,224,16,66,238,255,15,97,184,51,86,250,170,194,238,48,196,248,74,250,31,39,229,172]
def dRQ:List UInt8:=[37,208,150,139,137,174,216,182,112,54,48,94,149,215,180,90,123,184,18,120,104,63,233,189,175,208,51,139,5,193,184,97]
theorem sCQ:Sha.sum bCQ=dCQ:=by rw [Sha.sum_eq];kernel_rfl
theorem sFQ:Sha.sum bFQ=dFQ:=by rw [Sha.sum_eq];kernel_rfl
theorem sRQ:Sha.sum bRQ=dRQ:=by rw [Sha.sum_eq];kernel_rfl
theorem eCQ:zjy nCQ=bCQ:=by kernel_rfl
theorem eFQ:zjy nFQ=bFQ:=by
 rw [show nFQ=⟨2,[],5,[dCQ],[]⟩ from by unfold nFQ;rw [eCQ,sCQ]];kernel_rfl
theorem eRQ:zjy nRQ=bRQ:=by
 rw [show nRQ=⟨3,[],0,[],[⟨[112,48,48],2,dFQ⟩]⟩ from by unfold nRQ;rw [eFQ,sFQ]];kernel_rfl
theorem qom:zj1 LQ=([bCQ,bFQ,bRQ],dRQ):=by rw [qmn,eCQ,eFQ,eRQ,sRQ]
theorem vCQ:zsd bCQ=(⟨1,[115,116,97,116,101],0,[],[]⟩,0):=by kernel_rfl
theorem vFQ:zsd bFQ=(⟨2,[],5,[dCQ],[]⟩,0):=by kernel_rfl
theorem vRQ:zsd bRQ=(⟨3,[],0,[],[⟨[112,48,48],2,dFQ⟩]⟩,0):=by kernel_rfl
theorem qke:Bl.fresh [bCQ,bFQ,bRQ]=[(dCQ,bCQ),(dFQ,bFQ),(dRQ,bRQ)]:=by
 have h1:(Bl.zuw [] dCQ).isSome=false:=by decide +kernel
 have h2:(Bl.zuw [(dCQ,bCQ)] dFQ).isSome=false:=by decide +kernel
 have h3:(Bl.zuw [(dCQ,bCQ),(dFQ,bFQ)] dRQ).isSome=false:=by decide +kernel
 simp only [Bl.fresh,List.foldl_cons,List.foldl_nil,Bl.zve,sCQ,sFQ,sRQ,h1,h2,h3,Bool.false_eq_true,if_false,List.nil_append,List.cons_append]
theorem qor {code:Int} {r':Bl.SM} (h:Bl.zz3 65536 [] [bCQ,bFQ,bRQ] code r'):code=0∧∀ k,Bl.zay r' k=if k=dCQ then some bCQ else if k=dFQ then some bFQ else if k=dRQ then some bRQ else none:=by
 obtain ⟨_,_,h3⟩:=h
 have hl:¬ Bl.long [bCQ,bFQ,bRQ]:=by
  rintro ⟨L,hL,h⟩
  simp only [List.mem_cons,List.not_mem_nil,or_false] at hL
  rcases hL with rfl | rfl | rfl <;> revert h <;> decide +kernel
 have hx:¬ (65536:Int) < ((Bl.total []:Nat):Int)+((Bl.extra [] (Bl.fresh [bCQ,bFQ,bRQ]):Nat):Int):=by
  rw [qke];decide +kernel
 obtain ⟨h0,hv⟩:=h3 hl hx
 rw [qke] at hv
 refine ⟨h0,fun k=>?_⟩
 rw [hv]
 by_cases k1:k=dCQ
 ·subst k1;decide +kernel
 ·by_cases k2:k=dFQ
  ·subst k2;decide +kernel
  ·by_cases k3:k=dRQ
   ·subst k3;decide +kernel
   ·have g1:(dCQ == k)=false:=beq_eq_false_iff_ne.2 fun e=>k1 e.symm
    have g2:(dFQ == k)=false:=beq_eq_false_iff_ne.2 fun e=>k2 e.symm
    have g3:(dRQ == k)=false:=beq_eq_false_iff_ne.2 fun e=>k3 e.symm
    simp [Bl.zuw,List.find?_cons,g1,g2,g3,k1,k2,k3,Bl.z15,Bl.zay,zcj]
theorem qpj:dFQ ≠ dCQ:=by decide +kernel
theorem qph:dRQ ≠ dCQ:=by decide +kernel
theorem qpo:dRQ ≠ dFQ:=by decide +kernel
theorem qmp {r:Bl.SM} (h1:Bl.zay r dCQ=some bCQ) (h2:Bl.zay r dFQ=some bFQ) (h3:Bl.zay r dRQ=some bRQ):zm5 r dRQ=(LQ,0):=by
 have gC:=qku (kind:=1) h1 sCQ vCQ rfl
 have gF:=qku (kind:=2) h2 sFQ vFQ rfl
 have gR:=qku (kind:=3) h3 sRQ vRQ rfl
 have cF:zgp r ⟨2,[],5,[dCQ],[]⟩=([115,116,97,116,101],0):=by
  unfold zgp
  have gC':zup (Bl.zay r dCQ) dCQ 1=(⟨1,[115,116,97,116,101],0,[],[]⟩,0):=gC
  simp [z3x,gC'];decide
 have p1:vw [[112,48,48]]=[47,112,48,48]:=by decide +kernel
 have w9:zsy (gV r) (zgp r) 9 [⟨[112,48,48],2,dFQ⟩] [] []=zls (gV r) (zgp r) (zsy (gV r) (zgp r) 8) [] [⟨[112,48,48],2,dFQ⟩] []:=rfl
 unfold zm5
 rw [gR]
 simp only [ne_eq,not_true_eq_false,if_false,w9]
 simp [zls,gF,cF,p1,fQ,LQ]
theorem qlz:zkd [115,116,97,116,101]=LQ:=by decide +kernel
theorem qog:zfi [115,116,97,116,101]=0:=by
 unfold zfi
 rw [if_neg (by decide),qlz,qpx]
theorem bs5 (w:World):(Instr.buildSlice zh 5 #[(0,(Value.int .u8 115)),(1,(Value.int .u8 116)),(2,(Value.int .u8 97)),(3,(Value.int .u8 116)),(4,(Value.int .u8 101))]).run P w=.ok (.slice (some ⟨w.heap.size,0,none⟩) 5 5) { w with heap:=w.heap.push (.cells (byteCells [115,116,97,116,101]).toArray qy) }:=by kernel_rfl
theorem qp0 {w:World} {H:Heap} (hw:w.heap=H) {K:(Option Addr × Nat × Nat)→World→Prop}
  (hK:∀ w',Cells w'.heap (some ⟨H.size,0,none⟩) (byteCells [115,116,97,116,101])→Ext [] H w'.heap→H.size < w'.heap.size→K (some ⟨H.size,0,none⟩,5,5) w') :
  zal P (Instr.buildSlice zh 5 #[(0,(Value.int .u8 115)),(1,(Value.int .u8 116)),(2,(Value.int .u8 97)),(3,(Value.int .u8 116)),(4,(Value.int .u8 101))]) .slc w fun t w1=>zal P (convert zh zh (.slice t.1 t.2.1 t.2.2)) .slc w1 K:=by
 subst hw
 refine zad (s:=.slc) (some ⟨w.heap.size,0,none⟩,5,5) _ (bs5 w) ?_
 obtain ⟨w',h1,hcm,h2⟩:=qml (P:=P) (w:={ w with heap:=w.heap.push (.cells (byteCells [115,116,97,116,101]).toArray qy) }) (l:=5) (c:=5) (o:=0) uS8 u8 rfl zn
 refine zad (s:=.slc) (some ⟨w.heap.size,0,none⟩,5,5) w' h1 ?_ hcm
 refine hK w' ?_ (by rw [h2];exact (Ext.push _).set_own (.inl (Nat.le_refl _))) (by rw [h2];simp)
 rw [h2]
 exact .inr ⟨w.heap.size,0,_,_,_,rfl,qw zn,by simp [byteCells],by simp [byteCells]⟩
theorem qpm (f:Fil) (w:World):(Instr.buildSlice zo 1 #[(0,.agg (zbc f).toArray)]).run P w=.ok (.slice (some ⟨w.heap.size,0,none⟩) 1 1) { w with heap:=w.heap.push (.cells ([f].flatMap zbc).toArray zk) }:=by kernel_rfl
theorem qlu {r:Bl.SM} (h1:Bl.zay r dCQ=some bCQ) (h2:Bl.zay r dFQ=some bFQ) (h3:Bl.zay r dRQ=some bRQ):zvm r dRQ=([115,116,97,116,101],0):=by
 unfold zvm
 rw [qmp h1 h2 h3]
 have:zgh LQ=[115,116,97,116,101]:=by decide +kernel
 simp only [this,qlz]
 rfl
set_option maxHeartbeats 4000000 in
theorem qf5 {w:World} {H:Heap} (hw:w.heap=H) (hR:Bl.Rounds H):qj P zr4 #[] w fun e w'=>e=.returned (.bool true)∧Ext [] H w'.heap:=by
 have hH0:0 < H.size:=by obtain ⟨_,_,_,h,_⟩:=hR;exact lt_of_get h
 refine z6g ?_
 unfold zs3
 refine zl (Bl.qbq 65536 hw) ?_
 rintro e w1 ⟨p,fp,rfl,hS1,hx1,hfp1⟩
 refine ⟨some ⟨p,0,none⟩,rfl,?_⟩
 rw [show max (65536:Int) 0=65536 from by decide] at hS1
 refine qp0 rfl fun w2 hc2 hx2 hs2=>?_
 have hx02:=hx1.trans hx2
 have s1:=hx1.1
 have s2:=hx2.1
 have hS2:=hS1.ext hx2 (by simp)
 refine zl (qhg (y:=(some ⟨w1.heap.size,0,none⟩,5,5)) (S:=[115,116,97,116,101]) rfl hS2 (fun b hb=>by have:=(hfp1 b hb).2;omega) (hR.ext hx02 (by simp)) (fun h=>by have:=(hfp1 0 h).1;omega) hc2 rfl (Nat.le_refl _) (by simp [Bl.total]) (by decide) (by decide) (by intro k L h;simp [Bl.zay,zcj] at h)) ?_
 rintro e w3 ⟨c1,d1,r3,k3,fp3,rfl,hd1,hS3,hx3,hf3a,hf3b,hP3,ht3⟩
 obtain ⟨hP,hd⟩:=hP3.2 qog
 rw [qlz,qom] at hP hd
 obtain ⟨rfl,hv⟩:=qor hP
 rw [if_pos rfl] at hd
 have hd:d1=dRQ:=hd
 subst hd
 have v1:Bl.zay r3 dCQ=some bCQ:=by rw [hv,if_pos rfl]
 have v2:Bl.zay r3 dFQ=some bFQ:=by rw [hv,if_neg qpj,if_pos rfl]
 have v3:Bl.zay r3 dRQ=some bRQ:=by rw [hv,if_neg qph,if_neg qpo,if_pos rfl]
 refine ⟨(arr dRQ,0),rfl,?_⟩
 have hx03:Ext [] H w3.heap:=hx02.own hx3 (fun c hc hlt=>by have:=(hfp1 c hc).1;omega)
 have s3:=hx3.1
 have hlen3:∀ k L,Bl.zay r3 k=some L→L.length < 1099511627776:=fun k L hv=>by
  have:=qk4 hS3.ok hv
  have tz:Bl.total ([]:Bl.SM)=0:=rfl
  rw [tz] at ht3
  omega
 refine qie hd1 rfl fun w5 hw5=>?_
 have hx5:Ext [] w3.heap w5.heap:=by rw [hw5];exact .push _
 have hb5:w5.heap[w3.heap.size]?=some (.cells (byteCells dRQ).toArray zf (0,0)):=by rw [hw5];exact zn
 refine je rfl hb5 (by simp [hd1]) ?_
 have hx05:=hx03.trans hx5
 have s5:=hx5.1
 refine zl (qjz (root:=dRQ) rfl (hS3.ext hx5 (by simp)) (hR.ext hx05 (by simp)) (fun b hb=>by have:=hf3a b hb;omega) hd1 hlen3) ?_
 rintro e w6 ⟨y6,rfl,hc6,hl6,hx6⟩
 rw [qlu v1 v2 v3] at hc6 hl6 ⊢
 refine ⟨(y6,0),rfl,?_⟩
 have hx06:=hx05.trans hx6
 have hx36:=hx5.trans hx6
 refine je rfl (hx6.get hb5 (by simp)) (by simp [hd1]) ?_
 refine zl (qf3 (root:=dRQ) rfl (hS3.ext hx36 (by simp)) (hR.ext hx06 (by simp)) (fun b hb=>by have:=hf3a b hb;have:=hx36.1;omega) hd1 hlen3) ?_
 rintro e w7 ⟨x7,rfl,hx7,hw7⟩
 rw [qmp v1 v2 v3] at hw7 ⊢
 have hm7:=hw7 rfl
 refine ⟨(x7,0),rfl,?_⟩
 have hx07:=hx06.trans hx7
 refine zab rfl (zab rfl ?_)
 refine qm (s:=.str) _ (zvw (L:=[115,116,97,116,101]) uS8 u8 z0e rfl (hc6.ext hx7 (by simp)) hl6) ?_
 refine zab (zjw.2 rfl) (zab rfl ?_)
 refine qm (s:=.any) (.agg (zbc fQ).toArray) (qk9 _ _ _) ?_
 refine zad (s:=.slc) (some ⟨w7.heap.size,0,none⟩,1,1) _ (qpm fQ w7) ?_
 generalize hw9:({ w7 with heap:=w7.heap.push (.cells ([fQ].flatMap zbc).toArray zk) }:World)=w9
 have hh9:w9.heap=w7.heap.push (.cells ([fQ].flatMap zbc).toArray zk):=by rw [← hw9]
 have hx9:Ext [] w7.heap w9.heap:=by rw [hh9];exact .push _
 have hc9:Cells w9.heap (some ⟨w7.heap.size,0,none⟩) ([fQ].flatMap zbc):=.inr ⟨w7.heap.size,0,_,_,_,rfl,by rw [hh9];exact zn,by simp,by simp [zbc]⟩
 have hl7:x7.2.1=1:=by have:=hm7.len;rw [qah] at this;simp [LQ] at this;omega
 refine zl (qjm (L:=LQ) rfl (hm7.ext hx9 (by simp)).cells hl7 hc9 rfl (by decide)) ?_
 rintro e w12 ⟨rfl,hw12⟩
 exact ⟨true,rfl,rfl,by rw [hw12];exact hx07.trans hx9⟩
set_option maxHeartbeats 8000000 in
theorem qf8 {w:World} {H:Heap} {y:Option Addr × Nat × Nat} {S:List UInt8} {quota:Int} (hw:w.heap=H) (hR:Bl.Rounds H) (hy:Cells H y.1 (byteCells S)) (hyl:y.2.1=S.length) (hyc:y.2.1≤y.2.2) (hq:quota≤9223372036854775807) :
  qj P zp6 #[.slice y.1 y.2.1 y.2.2,.int .i64 quota] w fun e w'=>e=.returned (.bool true)∧Ext [] H w'.heap:=by
 refine zw3 ?_
 unfold zku
 refine zl (qf5 hw hR) ?_
 rintro e w3 ⟨rfl,hx03⟩
 refine ⟨true,rfl,jl rfl ?_⟩
 refine zq (fun _=>⟨rfl,hx03⟩) (fun hlen=>?_)
 have hR3:=hR.ext hx03 (by simp)
 have hH0:0 < w3.heap.size:=by obtain ⟨_,_,_,h,_⟩:=hR3;exact lt_of_get h
 refine zl (Bl.qbq quota rfl) ?_
 rintro e w5 ⟨p,fp,rfl,hS5,hx5,hfp5⟩
 refine ⟨some ⟨p,0,none⟩,rfl,?_⟩
 refine zl (Bl.qj9 quota rfl) ?_
 rintro e w6 ⟨p2,rfl,hT6,hx6,hp2a,hp2b⟩
 refine ⟨some ⟨p2,0,none⟩,rfl,?_⟩
 have s5:=hx5.1
 have s6:=hx6.1
 have s03:=hx03.1
 have hx06:=(hx03.trans hx5).trans hx6
 generalize hQ:max quota 0=Q at *
 have hQ0:0≤Q:=by omega
 have hQ1:Q≤9223372036854775807:=by omega
 have hS6:=hS5.ext hx6 (by simp)
 refine zl (qhg (y:=y) (S:=S) rfl hS6 (fun b hb=>by have:=(hfp5 b hb).2;omega) (hR.ext hx06 (by simp)) (fun h=>by have:=(hfp5 0 h).1;omega) (hy.ext hx06 (by simp)) hyl hyc (by simp [Bl.total]) hQ0 hQ1 (by intro k L h;simp [Bl.zay,zcj] at h)) ?_
 rintro e w9 ⟨c1,d1,r9,k9,fp9,rfl,hd1,hS9,hx9,hf9a,hf9b,hP9,ht9⟩
 refine ⟨(arr d1,c1),rfl,?_⟩
 have s9:=hx9.1
 have fp9ge:∀ b ∈ fp9,(w3.heap.size≤b∧b < w5.heap.size) ∨ (w6.heap.size≤b∧b < w9.heap.size):=fun b hb=>by
  rcases hf9b b hb with h | h
  ·exact .inl (hfp5 b h)
  ·exact .inr ⟨h,hf9a b hb⟩
 have hx09:Ext [] H w9.heap:=hx06.own hx9 (fun c hc hlt=>by have:=(hfp5 c hc).1;omega)
 refine qie hd1 rfl fun w11 hw11=>?_
 have hx11:Ext [] w9.heap w11.heap:=by rw [hw11];exact .push _
 have hb11:w11.heap[w9.heap.size]?=some (.cells (byteCells d1).toArray zf (0,0)):=by rw [hw11];exact zn
 have s11:=lt_of_get hb11
 have hx011:=hx09.trans hx11
 have hT9:=hT6.ext hx9 (fun b hb h=>by simp at hb;subst hb;have:=(hfp5 _ h).2;omega)
 have hT11:=hT9.ext hx11 (by simp)
 refine zl (qgz (y:=y) (S:=S) rfl hT11 (fun b hb=>by simp at hb;omega) (hy.ext hx011 (by simp)) hyl hyc (by simp [Bl.total]) (by simp) hQ0 hQ1 (by simp)) ?_
 rintro e w12 ⟨c2,d2,r12,fp12,rfl,hd2,hT12,hx12,hf12a,hf12b,hP12,hn12,ht12,hl12⟩
 refine ⟨(arr d2,c2),rfl,?_⟩
 obtain ⟨rfl,rfl,hview⟩:=qcc hP9 hP12 (fun _=>rfl) rfl
 have s12:=hx12.1
 have hx012:Ext [] H w12.heap:=hx011.own hx12 (fun c hc hlt=>by simp at hc;omega)
 refine qie hd2 rfl fun w14 hw14=>?_
 have hx14:Ext [] w12.heap w14.heap:=by rw [hw14];exact .push _
 have hb14:w14.heap[w12.heap.size]?=some (.cells (byteCells d1).toArray zf (0,0)):=by rw [hw14];exact zn
 have s14:=lt_of_get hb14
 have hb14a:w14.heap[w9.heap.size]?=some (.cells (byteCells d1).toArray zf (0,0)):=hx14.get (hx12.get hb11 (by simp;omega)) (by simp)
 have hx914:Ext [p2] w9.heap w14.heap:=((hx11.mono (by simp)).trans hx12).trans (hx14.mono (by simp))
 have hS14:=hS9.ext hx914 (fun b hb h=>by simp at h;subst h;rcases fp9ge _ hb with h | h <;> omega)
 have hT14:=hT12.ext hx14 (by simp)
 have hx014:=hx012.trans hx14
 have tz:Bl.total ([]:Bl.SM)=0:=rfl
 rw [tz] at ht9 ht12
 have hrl:r12.length < 1099511627776:=by
  have:(zkd S).length≤140000:=by rw [zur];unfold npm;omega
  simp at hn12;omega
 refine Go.Fw.joinP_of (fun _ W=>Ext [] w14.heap W.heap) ?_ ?_
 ·refine jw rfl fun w15 hw15=>?_
  refine je hw15 hb14a (by simp [hd1]) ?_
  refine je hw15 hb14 (by simp [hd1]) ?_
  refine qm (s:=.bool) _ (z3j Bl.u27 Bl.u5 Bl.c5 Bl.g27 hd1 hd1) ?_
  refine jl (by simp) ?_
  refine jl (by simp) ?_
  obtain ⟨htot,hlen⟩:=Bl.zx7 hS14.ok.keys hT14.keys hview
  obtain ⟨z,z1,z2⟩:∃ z,w14.heap[p2]?=some (.cells #[.int .i64 Q,zcr z] zfb (0,0))∧z.2.1=r12.length:=by
   obtain ⟨z,z1,z2,_⟩:=id hT14
   exact ⟨z,z1,Bl.zj5 z2⟩
  simp only [xq,jr]
  refine jh (s:=.slc) (t:=z) hw15 z1 rfl ?_
  refine zl (Bl.qkv hw15 hS14) ?_
  rintro e w17 ⟨rfl,rfl⟩
  refine ⟨(r9.length:Int),rfl,⟨jh (s:=.slc) (o:=1) (t:=z) (K:=fun v=>Value.slice v.1 v.2.1 v.2.2=Value.slice z.1 z.2.1 z.2.2) hw15 z1 rfl rfl,?_⟩⟩
  refine jl (by simp only [bne_eq_false_iff_eq];omega) ?_
  refine zl (Bl.qbx hw15 hS14) ?_
  rintro e w18 ⟨rfl,rfl⟩
  refine ⟨(Bl.total r9:Int),rfl,?_⟩
  refine zl (Bl.qde hw15 hT14 hrl (by omega)) ?_
  rintro e w19 ⟨rfl,rfl⟩
  refine ⟨(Bl.total r12:Int),rfl,?_⟩
  refine jl (by simp only [bne_eq_false_iff_eq];omega) ?_
  show Ext [] w14.heap _
  rw [hw15];exact .refl _ _
 rintro _ W hxW
 have hx0W:=hx014.trans hxW
 have hroot:qj P zsf #[.slice y.1 y.2.1 y.2.2] W fun e w'=>∃ code d r',e=.returned (.tuple #[arr d,.int .i64 code])∧d.length=32∧Ext [] W.heap w'.heap∧zwa (zfi S) 1073741824 [] (zj1 (zkd S)) code d r':=by
  refine z7j ?_
  unfold zr0
  refine jv rfl fun v1 hv1=>?_
  have gx1:Ext [] W.heap v1.heap:=by rw [hv1];exact .push _
  have gd1:v1.heap[W.heap.size]?=some (.cells (zc P zf) zf (0,0)):=by rw [hv1];exact zn
  have t1:=lt_of_get gd1
  refine zl (Bl.qbq 1073741824 rfl) ?_
  rintro e v2 ⟨p',gp,rfl,gS2,gx2,gfp⟩
  refine ⟨some ⟨p',0,none⟩,rfl,?_⟩
  rw [show max (1073741824:Int) 0=1073741824 from by decide] at gS2
  have gx02:=gx1.trans gx2
  refine zl (qhg (y:=y) (S:=S) rfl gS2 (fun b hb=>(gfp b hb).2) (hR.ext (hx0W.trans gx02) (by simp)) (fun h=>by have:=(gfp 0 h).1;omega) (hy.ext (hx0W.trans gx02) (by simp)) hyl hyc (by simp [Bl.total]) (by decide) (by decide) (by intro k L h;simp [Bl.zay,zcj] at h)) ?_
  rintro e v3 ⟨code,d,r',k',fp',rfl,hd,gS3,gx3,_,gf3b,hP,_⟩
  refine ⟨(arr d,code),rfl,?_⟩
  have gd3:=gx3.get (gx2.get gd1 (by simp)) (fun h=>by have:=(gfp _ h).1;omega)
  refine z9j hd rfl gd3 zcD fun v4 hv4=>?_
  have gx4:Ext [W.heap.size] v3.heap v4.heap:=by rw [hv4];exact Ext.set _ (by simp)
  have gd4:v4.heap[W.heap.size]?=some (.cells (byteCells d).toArray zf (0,0)):=by rw [hv4];exact qw gd3
  refine je rfl gd4 (by simp [hd]) ?_
  exact ⟨code,d,r',rfl,hd,(gx02.own gx3 (fun c hc hlt=>by have:=(gfp c hc).1;omega)).own gx4 (fun c hc hlt=>by simp at hc;omega),hP⟩
 refine zl hroot ?_
 rintro e w15 ⟨c3,d3,r3,rfl,hd3,hx15,hP3⟩
 refine ⟨(arr d3,c3),rfl,?_⟩
 refine qie hd3 rfl fun w17 hw17=>?_
 have hx17:Ext [] w15.heap w17.heap:=by rw [hw17];exact .push _
 have hb17:w17.heap[w15.heap.size]?=some (.cells (byteCells d3).toArray zf (0,0)):=by rw [hw17];exact zn
 have s17:=lt_of_get hb17
 refine zl (Bl.qj9 1073741824 rfl) ?_
 rintro e w18 ⟨p3,rfl,hT18,hx18,hp3a,hp3b⟩
 refine ⟨some ⟨p3,0,none⟩,rfl,?_⟩
 rw [show max (1073741824:Int) 0=1073741824 from by decide] at hT18
 have hx018:=((hx0W.trans hx15).trans hx17).trans hx18
 refine zl (qgz (y:=y) (S:=S) rfl hT18 (fun b hb=>by simp at hb;omega) (hy.ext hx018 (by simp)) hyl hyc (by simp [Bl.total]) (by simp) (by decide) (by decide) (by simp)) ?_
 rintro e w19 ⟨c4,d4,r4,fp4,rfl,hd4,hT19,hx19,_,_,hP4,_⟩
 refine ⟨(arr d4,c4),rfl,?_⟩
 obtain ⟨rfl,rfl,_⟩:=qcc hP3 hP4 (fun _=>rfl) rfl
 have s018:=hx018.1
 have s1718:=hx18.1
 have hx019:Ext [] H w19.heap:=hx018.own hx19 (fun c hc hlt=>by simp at hc;have:=hx17.1;have:=hx15.1;have:=hx0W.1;omega)
 have hb19:=hx19.get (hx18.get hb17 (by simp)) (by simp;omega)
 refine qie hd3 rfl fun w21 hw21=>?_
 have hx21:Ext [] w19.heap w21.heap:=by rw [hw21];exact .push _
 have hb21:w21.heap[w19.heap.size]?=some (.cells (byteCells d3).toArray zf (0,0)):=by rw [hw21];exact zn
 refine zl (qf9 (y:=y) rfl) ?_
 rintro e w22 ⟨rfl,hx22⟩
 refine ⟨(arr Bl.nought,7),rfl,?_⟩
 refine qie Bl.zd1 rfl fun w24 hw24=>?_
 have hx24:Ext [] w22.heap w24.heap:=by rw [hw24];exact .push _
 have hx2124:=hx22.trans hx24
 refine je rfl (hx2124.get (hx21.get hb19 (by simp)) (by simp)) (by simp [hd3]) ?_
 refine je rfl (hx2124.get hb21 (by simp)) (by simp [hd3]) ?_
 refine qm (s:=.bool) _ (qb8 Bl.u27 Bl.u5 Bl.c5 Bl.g27 hd3 hd3) ?_
 refine zab (by simp) ?_
 refine zab (by simp) ?_
 exact ⟨rfl,(hx019.trans hx21).trans hx2124⟩
end Go.Proofs.YtbmegmbnlajbbaaGreatDoor
