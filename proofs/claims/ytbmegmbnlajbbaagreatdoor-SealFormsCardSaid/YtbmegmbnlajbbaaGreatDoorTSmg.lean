/- Part 7 of the texts below the card, joined. -/
import Derived.Test.YtbmegmbnlajbbaaGreatDoorTSmf
import Derived.Test.YtbmegmbnlajbbaaGreatDoorTSmd
import Derived.Laws.StructEq
namespace Go.Proofs.YtbmegmbnlajbbaaGreatDoor
open Go Go.Fw Go.Proofs Go.Sort
theorem zcF:(zc P zl).size=3:=by kernel_rfl
theorem szF:P.cellsOf zl=3:=by kernel_rfl
theorem qr0 {w:World} {H:Heap} (f:Fil) (hw:w.heap=H) {K:Nat→World→Prop} (hK:∀ w',w'.heap=H.push (.cells (zbf f).toArray zl (0,0))→K H.size w') :
  zbj (zc P zl) zl w fun b w1=>zbs P (storeVar zl (⟨b,0,none⟩:Addr) (.agg (zbf f).toArray)) w1 fun w2=>K b w2 :=
 qhl (v:=.agg (zbf f).toArray) szF zcF (by simp [Value.cells,zbf]) (by simpa [Value.cells] using zva) hw hK
def qp7 (f:Fil):Bool:=decide ((zb1 f.path).2 ≠ 0)
def zhk (L:List Fil):Int:=match L.find? qp7 with | some f=>(zb1 f.path).2 | none=>0
def qdc (f:Fil):Bool:=f.dir && !decide (f.data=[])
def qig (f:Fil):Bool:=decide (1024 < f.data.length)
def za3 (L:List Fil):Int:=if zhk L ≠ 0 then zhk L else if L.any qdc then 1 else if L.any qig then 134 else 0
theorem zy6 {L:List Fil} {i:Nat} {f:Fil} (hi:L[i]?=some f) (hf:(zb1 f.path).2 ≠ 0) (hb:∀ g ∈ L.take i,(zb1 g.path).2=0):zhk L=(zb1 f.path).2:=by
 have hil:=(List.getElem?_eq_some_iff.1 hi).1
 have e:L=L.take i++f :: L.drop (i+1):=by
  conv=>lhs;rw [← List.take_append_drop i L]
  rw [List.drop_eq_getElem_cons hil,(List.getElem?_eq_some_iff.1 hi).2]
 unfold zhk
 rw [e,List.find?_append,List.find?_eq_none.2 (fun g hg=>by simp [qp7,hb g hg]),Option.none_or,List.find?_cons]
 have:qp7 f=true:=by simp [qp7,hf]
 rw [this]
theorem zvp {L:List Fil} (hb:∀ g ∈ L,(zb1 g.path).2=0):zhk L=0:=by
 unfold zhk
 rw [List.find?_eq_none.2 (fun g hg=>by simp [qp7,hb g hg])]
theorem zea {L:List Fil} {i:Nat} {f:Fil} (hi:L[i]?=some f) {q:Fil→Prop} (h:∀ g ∈ L.take i,q g) (hf:q f):∀ g ∈ L.take (i+1),q g:=by
 intro g hg
 rw [List.take_add_one,hi] at hg
 rcases List.mem_append.1 hg with hg | hg
 ·exact h g hg
 ·simp at hg;rw [hg];exact hf
theorem qiy {w:World} {H:Heap} {a:Option Addr} {n nc F:Nat} {L:List Fil} {g:Fil→Bool} (hw:w.heap=H) (hL:Cells H a (L.flatMap zbf)) (hn:n=L.length) (hm:L.length≤1099511627776)
  (hg:∀ (f:Fil) (w:World),qg P F #[.agg (zbf f).toArray] w fun e w'=>e=.returned (.bool (g f))∧Ext [] w.heap w'.heap) :
  qg P zau #[.slice a n nc,.func (.func F) #[] #[]] w fun e w'=>e=.returned (.bool (L.any g))∧Ext [] H w'.heap:=by
 subst hn
 refine ze3 ?_
 unfold zbe
 have h:qg P zbq #[.slice a L.length nc,.func (.func F) #[] #[]] w fun e w'=>∃ k:Int,e=.returned (.int .i64 k)∧(0≤k ↔ L.any g=true)∧Ext [] H w'.heap:=by
  refine zfo ?_
  unfold zbr
  refine jd (fun (s:Int) W=>∃ i:Nat,s=(i:Int)∧i≤L.length∧(∀ f ∈ L.take i,g f=false)∧Ext [] H W.heap) (fun s _=>(L.length - s).toNat) ⟨0,rfl,Nat.zero_le _,by simp,by rw [hw];exact .refl _ _⟩ ?_
  rintro _ W ⟨i,rfl,hi,hno,hxW⟩
  refine zq (fun hlt=>?_) (fun hge=>?_)
  ·have hil:i < L.length:=by omega
   have hget:=List.getElem?_eq_getElem hil
   have hmem:L[i] ∈ L:=List.getElem_mem hil
   generalize L[i]=f at hget hmem
   refine zgx (i:=i) zba (by omega) rfl (hL.ext hxW (by simp)) rfl hget rfl ?_
   refine zsb (args:=#[.agg (zbf f).toArray]) (cap:=#[]) ?_
   refine (hg f W).mono ?_
   rintro e w2 ⟨rfl,hx2⟩
   refine ⟨g f,rfl,?_⟩
   cases hgf:g f with
   | true=>exact vw rfl ⟨_,rfl,⟨fun _=>List.any_eq_true.2 ⟨f,hmem,hgf⟩,fun _=>by omega⟩,hxW.trans hx2⟩
   | false =>
    refine jk rfl ?_
    refine xk ((i+1:Nat):Int) (by omega) (by omega) (by omega) ?_
    exact ⟨⟨i+1,rfl,by omega,zea (q:=fun f=>g f=false) hget hno hgf,hxW.trans hx2⟩,by omega⟩
  ·obtain rfl:i=L.length:=by omega
   rw [List.take_length] at hno
   refine ⟨_,rfl,⟨fun h=>by omega,fun h=>?_⟩,hxW⟩
   obtain ⟨f,hf,hgf⟩:=List.any_eq_true.1 h
   rw [hno f hf] at hgf;cases hgf
 refine zn h ?_
 rintro e w1 ⟨k,rfl,hk,hx⟩
 refine ⟨k,rfl,?_⟩
 refine ⟨?_,hx⟩
 congr 2
 rw [Bool.eq_iff_iff,← hk]
 simp
theorem qso (f:Fil) (w:World):qg P zm0 #[.agg (zbf f).toArray] w fun e w'=>e=.returned (.bool (qdc f))∧Ext [] w.heap w'.heap:=by
 refine zzf ?_
 unfold znp
 refine jw rfl fun w1 hw1=>?_
 have hx1:Ext [] w.heap w1.heap:=by rw [hw1];exact .push _
 have hb1:w1.heap[w.heap.size]?=some (.cells (zbf f).toArray zl (0,0)):=by rw [hw1];exact zo
 refine jg (s:=.bool) (t:=f.dir) rfl hb1 rfl ?_
 cases hd:f.dir with
 | false=>exact jk rfl ⟨by simp [qdc,hd],hx1⟩
 | true =>
  refine vw rfl ?_
  refine jg (s:=.str) (t:=strOf f.data) rfl hb1 rfl ?_
  refine ⟨?_,hx1⟩
  congr 2
  rw [qdc,hd,Bool.true_and]
  congr 1
  rw [Bool.eq_iff_iff,zhz,decide_eq_true_eq]
theorem qs5 (f:Fil) (w:World):qg P zng #[.agg (zbf f).toArray] w fun e w'=>e=.returned (.bool (qig f))∧Ext [] w.heap w'.heap:=by
 refine zzu ?_
 unfold zmx
 refine jw rfl fun w1 hw1=>?_
 have hx1:Ext [] w.heap w1.heap:=by rw [hw1];exact .push _
 have hb1:w1.heap[w.heap.size]?=some (.cells (zbf f).toArray zl (0,0)):=by rw [hw1];exact zo
 refine jg (s:=.str) (t:=strOf f.data) rfl hb1 rfl ?_
 refine ⟨?_,hx1⟩
 congr 2
 unfold qig
 rw [Bool.eq_iff_iff]
 simp
 omega
theorem uSE:P.underlying za0=some (.slice qm):=by kernel_rfl
theorem EEn:Elem P qm 4 64:=zno (z:=.agg (zka ⟨(none,0,0),⟨[],false,[]⟩⟩).toArray) (by kernel_rfl) rfl
theorem bE (x:Option Addr × Nat × Nat) (p d:ByteArray) (b:Bool) (w:World):(Instr.build qm #[(0,.slice x.1 x.2.1 x.2.2),(1,.agg #[.string p,.bool b,.string d])]).run P w=.ok (.agg #[.slice x.1 x.2.1 x.2.2,.string p,.bool b,.string d]) w:=by kernel_rfl
theorem qiw {w:World} {H:Heap} {B:Nat} {x:Option Addr × Nat × Nat} {T:List ME} {i:ME} (hw:w.heap=H) (hm:Mine H B qm 4 x (T.flatMap zka)) (hBs:B≤H.size) (hlen:T.length≤1073741824) {K:(Option Addr × Nat × Nat)→World→Prop}
  (hK:∀ x' w',Mine w'.heap B qm 4 x' ((T++[i]).flatMap zka)→Ext (jf x) H w'.heap→(∀ c ∈ jf x',c ∈ jf x ∨ H.size≤c)→x'.2.1=T.length+1→K x' w') :
  zaf P (Instr.buildSlice za0 1 #[(0,.agg (zka i).toArray)]) .slc w fun (t27:(Option Addr × Nat × Nat)) w_13 =>
  zaf P (Builtin.append_ #[za0,za0] za0 #[(Value.slice x.1 x.2.1 x.2.2),(Value.slice t27.1 t27.2.1 t27.2.2)]) .slc w_13 K:=by
 have hlx:x.2.1=T.length:=by
  have:=hm.len
  rw [qj zka ziw] at this
  omega
 refine zae (s:=.slc) (some ⟨w.heap.size,0,none⟩,1,1) _ (zd7 EEn uSE (v:=.agg (zka i).toArray) (by simp [Value.cells,zka]) (by omega) (by omega)) ?_
 subst hw
 have hxp:Ext [] w.heap (w.heap.push (.cells (Value.agg (zka i).toArray).cells qm)):=.push _
 refine zcf (bts:=64) (n:=1) (us:=zka i) (H:=w.heap.push (.cells (Value.agg (zka i).toArray).cells qm)) EEn (by omega) uSE (za4 uSE) rfl (hm.ext hxp (by simp)) (by simp;omega)
  (Src.slc rfl (.inr ⟨w.heap.size,0,_,_,_,rfl,zo,by simp [ze5],by simp [ze5,List.take_of_length_le]⟩) (by rw [ziw])) z8z (by omega) ?_
 intro x' w4 hm4 hl4 hx4 hs4
 have hm4':Mine w4.heap B qm 4 x' ((T++[i]).flatMap zka):=by rw [List.flatMap_append,List.flatMap_singleton];exact hm4
 refine hK x' w4 hm4' ((hxp.mono (by simp)).trans hx4) (fun c hc=>?_) ?_
 ·rcases hs4 c hc with h | h
  ·exact .inl h
  ·right;have:=hxp.1;omega
 ·have:=hm4'.len
  rw [qj zka ziw] at this
  simp at this;omega
set_option maxHeartbeats 4000000 in
theorem qmc {w:World} {H:Heap} {a:Option Addr} {n nc:Nat} {L:List Fil} (hw:w.heap=H) (hL:Cells H a (L.flatMap zbf)) (hn:n=L.length) (hm:L.length≤65536) :
  qg P zq6 #[.slice a n nc] w fun e w'=>∃ x,e=.returned (.tuple #[zck x,.int .i64 (za3 L)])∧Ext [] H w'.heap∧(za3 L=0→∃ ms:List ME,ms.map (·.f)=L∧Mine w'.heap H.size qm 4 x (ms.flatMap zka)∧∀ m ∈ ms,zst w'.heap m):=by
 subst hn
 refine z8n ?_
 unfold zrx
 refine jd (fun (s:(Option Addr × Nat × Nat) × Int) W=>∃ (i:Nat) (ms:List ME),s.2=(i:Int)∧i≤L.length∧(∀ f ∈ L.take i,(zb1 f.path).2=0)∧Ext [] H W.heap∧ms.map (·.f)=L.take i∧Mine W.heap H.size qm 4 s.1 (ms.flatMap zka)∧∀ m ∈ ms,zst W.heap m) (fun s _=>(L.length - s.2).toNat)
  ⟨0,[],rfl,Nat.zero_le _,by simp,by rw [hw];exact .refl _ _,by simp,.inl ⟨rfl,rfl⟩,by simp⟩ ?_
 rintro ⟨x,_⟩ W ⟨i,ms,rfl,hi,hok,hxW,hms,hmW,hnW⟩
 have hml:ms.length=i:=by have:=congrArg List.length hms;simp at this;omega
 refine zq (fun hlt=>?_) (fun hge=>?_)
 ·have hil:i < L.length:=by simp only at hlt;omega
  have hget:=List.getElem?_eq_getElem hil
  generalize L[i]=f at hget
  refine zgx (i:=i) zba (by omega) rfl (hL.ext hxW (by simp)) rfl hget rfl ?_
  refine qr0 f rfl fun w3 hw3=>?_
  have hx3:Ext [] W.heap w3.heap:=by rw [hw3];exact .push _
  have hb3:w3.heap[W.heap.size]?=some (.cells (zbf f).toArray zl (0,0)):=by rw [hw3];exact zo
  refine jg (s:=.str) (t:=strOf f.path) rfl hb3 rfl ?_
  refine zn (qo4 f.path rfl) ?_
  rintro e w4 ⟨y,rfl,hm4,hx4⟩
  refine ⟨(y,(zb1 f.path).2),rfl,?_⟩
  have hx04:=hx3.trans hx4
  refine zam (fun hne=>?_) (fun hz=>?_)
  ·have hfb:=zy6 hget hne hok
   have hpc:za3 L=(zb1 f.path).2:=by unfold za3;rw [hfb,if_pos hne]
   exact ⟨(none,0,0),by rw [hpc];rfl,hxW.trans hx04,fun h=>absurd (by rw [← hpc,h]) hne⟩
  ·have hz:(zb1 f.path).2=0:=hz
   refine je rfl (hx4.get hb3 (by simp)) rfl ?_
   refine qx (s:=.any) (.agg (zka ⟨y,f⟩).toArray) (bE _ _ _ _ _) ?_
   have s04:=hx04.1
   have s0W:=hxW.1
   refine qiw (i:=⟨y,f⟩) rfl (hmW.ext hx04 (by simp)) (by omega) (by omega) fun x' w6 hm6 hx6 hs6 _=>?_
   have hx06:Ext [] H w6.heap:=zku (hxW.trans hx04) (hmW.ext hx04 (by simp)) (Nat.le_refl _) hx6
   refine xk ((i+1:Nat):Int) (by simp) (by omega) (by omega) ?_
   refine ⟨⟨i+1,ms++[⟨y,f⟩],rfl,by omega,zea (q:=fun f=>(zb1 f.path).2=0) hget hok hz,hx06,?_,hm6,fun m hm=>?_⟩,by simp only;omega⟩
   ·rw [List.map_append,hms,List.take_add_one,hget];rfl
   ·have hxx:=hmW.ext hx04 (by simp)
    rcases List.mem_append.1 hm with hm | hm
    ·exact ((hnW m hm).ext hx04 (by simp)).ext hx6 (zeo ((hnW m hm).ext hx04 (by simp)) hxx (by decide))
    ·simp only [List.mem_singleton] at hm
     subst hm
     exact (hm4.ext hx6 (zeo hm4 hxx (by decide))).mono (Nat.zero_le _)
 ·obtain rfl:i=L.length:=by simp only at hge;omega
  rw [List.take_length] at hok hms
  have hfb:=zvp hok
  refine zn (qiy (g:=qdc) rfl (hL.ext hxW (by simp)) rfl (by omega) qso) ?_
  rintro e w7 ⟨rfl,hx7⟩
  refine ⟨L.any qdc,rfl,?_⟩
  cases h1:L.any qdc with
  | true =>
   have hpc:za3 L=1:=by unfold za3;rw [hfb,h1];rfl
   exact vw rfl ⟨(none,0,0),by rw [hpc];rfl,hxW.trans hx7,fun h=>by rw [hpc] at h;cases h⟩
  | false =>
   refine jk rfl ?_
   refine zn (qiy (g:=qig) rfl (hL.ext (hxW.trans hx7) (by simp)) rfl (by omega) qs5) ?_
   rintro e w8 ⟨rfl,hx8⟩
   refine ⟨L.any qig,rfl,?_⟩
   cases h2:L.any qig with
   | true =>
    have hpc:za3 L=134:=by unfold za3;rw [hfb,h1,h2];rfl
    exact vw rfl ⟨(none,0,0),by rw [hpc];rfl,(hxW.trans hx7).trans hx8,fun h=>by rw [hpc] at h;cases h⟩
   | false =>
    have hpc:za3 L=0:=by unfold za3;rw [hfb,h1,h2];rfl
    have hx78:=hx7.trans hx8
    exact jk rfl ⟨x,by rw [hpc];rfl,hxW.trans hx78,fun _=>⟨ms,hms,hmW.ext hx78 (by simp),fun m hm=>(hnW m hm).ext hx78 (by simp)⟩⟩
end Go.Proofs.YtbmegmbnlajbbaaGreatDoor
namespace Go.Fw
open Go Go.Proofs Go.Shelf Go.RowKit Go.Lib Go.Sort
variable {P:Program} {ρ:Ren} {α:Type} [Inhabited α]
theorem qn2 (L:SlLaysF0.n6 P ρ) {k:Nat} (aE:∀ w,(isAgg (ρ.t 24)).run P w=.ok true w) (zE:∀ w,(Go.sizeOf (ρ.t 24)).run P w=.ok k w) (enc:α→List Value) (hk:∀ x,(enc x).length=k) (h0:0 < k)
  (h1:∀ x,∀ v ∈ enc x,v.oneCell'=true) (cf:α→α→Int) (hO:SWO (ltOf cf)) {g:Nat} (eg:∀ args w,(callFunc g args).run P w=.ok (.enter g args) w) (e6:∀ args w,(callFunc (ρ.f 6) args).run P w=.ok (.enter (ρ.f 6) args) w)
  {w:World} {H:Heap} (hw:w.heap=H) {B:Nat} {T:TypeId} {x:Option Addr × Nat × Nat} {xs:List α}
  (hcmp:∀ (W:World) y z,Ext (jf x) H W.heap→qg P g #[.agg (enc y).toArray,.agg (enc z).toArray] W fun e W'=>e=.returned (.int .i64 (cf y z))∧Ext [] W.heap W'.heap) (hM:Mine H B T k x (xs.flatMap enc)) (hlen:xs.length < 4611686018427387904) :
  qg P (ρ.f 6) #[.slice x.1 x.2.1 x.2.2,.func (.func g) #[] #[]] w fun e w'=>e=.returned (.tuple #[])∧∃ ys:List α,ys.Perm xs∧ys.Pairwise (fun a b=>¬ cf b a < 0)∧Mine w'.heap B T k x (ys.flatMap enc)∧Ext (jf x) H w'.heap:=by
 subst hw
 have hl:=hM.len
 rw [qj enc hk] at hl
 have hxl:x.2.1=xs.length:=(Nat.eq_of_mul_eq_mul_right h0 hl).symm
 refine ⟨e6 _ _,?_⟩
 rcases hM with ⟨rfl,hnil⟩ | ⟨b,c,hx1,hB,hb,hc,hl2,hle,he⟩
 ·clear hxl hl
  have hx0:xs=[]:=by
   have:=congrArg List.length hnil
   rw [qj enc hk,List.length_nil] at this
   rcases Nat.mul_eq_zero.1 this with h | h
   ·exact List.eq_nil_of_length_eq_zero h
   ·omega
  refine (AnyF.slices_SortFunc_none L none 0 _ w).mono ?_
  rintro e w' ⟨he,hw'⟩
  subst hw'
  exact ⟨⟨he,[],by rw [hx0],.nil,.inl ⟨rfl,rfl⟩,.refl _ _⟩,.refl _⟩
 ·obtain ⟨xa,xl,xc⟩:=x
  simp only at hx1 hxl hc hl2 hle
  subst hx1 hxl
  have hlt:b < w.heap.size:=lt_of_get hb
  have hcl:xs.length * k≤c.size:=by rw [hc];exact Nat.mul_le_mul_right k hle
  have hget:∀ t,t < xs.length * k→c[t]?=(xs.flatMap enc)[t]?:=by
   intro t ht
   rw [← he,Array.getElem?_toList,Array.getElem?_extract]
   rw [if_pos (by rw [qj enc hk];omega)]
   simp
  have hH:HoldsK enc k w b 0 xs.toArray:=by
   intro j hj
   simp only [size_flatK,List.size_toArray] at hj
   have h2:=z9m enc hk h0 xs.toArray j (by simpa using hj)
   refine ⟨?_,?_⟩
   ·rw [Nat.zero_add,z5a rfl hb,hget j hj]
    simpa using h2
   ·exact z7i rfl hb
  have hgen:∀ (m:Nat) (os:Array Obj) (dk:Array α),(sortWorldK enc k w b 0 m dk os).heap=(w.heap.setIfInBounds b (.cells (putCells id 0 (flatK enc k dk) c) T (0,0)))++os:=by
   intro m os dk
   unfold sortWorldK grow putRowK putRow mapBlock
   simp only [Sort.ahead]
   congr 1
   apply Array.ext_getElem?
   intro i
   rw [Array.getElem?_modify]
   by_cases hib:b=i
   ·subst hib
    simp only [if_pos,Array.getElem?_setIfInBounds_self_of_lt hlt,hb,Option.map_some]
    rfl
   ·rw [if_neg hib,Array.getElem?_setIfInBounds_ne hib]
  have hextg:∀ (m:Nat) (os:Array Obj) (dk:Array α),Ext (jf (some ⟨b,0,none⟩,xs.length,xc)) w.heap (sortWorldK enc k w b 0 m dk os).heap:=by
   intro m os dk
   rw [hgen]
   refine ⟨by simp,fun i hi hn=>?_⟩
   rw [Array.getElem?_append_left (by simpa using hi)]
   exact Array.getElem?_setIfInBounds_ne (by rintro rfl;exact hn (by simp [jf]))
  have hcon:=AnyQ.slices_SortFunc L k aE zE enc hk h1 cf hO g #[] b 0 xc xs.toArray w eg (fun m os dk _ x y=>?_) hH hlt (by simpa using hlen)
  ·simp only [List.size_toArray] at hcon
   refine hcon.mono ?_
   rintro e w' ⟨rfl,d',n,os,hp,hs,rfl⟩
   obtain ⟨hps,_,hpp⟩:=hp
   have hps':d'.size=xs.length:=by simpa using hps
   have hperm:d'.toList.Perm xs:=by
    have h3:(d'.extract 0 xs.length).toList=d'.toList:=by
     simp only [Array.toList_extract,List.extract_eq_take_drop,List.drop_zero,Nat.sub_zero]
     exact List.take_of_length_le (by simp [hps'])
    have h4:((xs.toArray).extract 0 xs.length).toList=xs:=by simp
    rw [h3,h4] at hpp
    exact hpp
   have hsort:d'.toList.Pairwise (fun a b=>¬ cf b a < 0):=by
    rw [List.pairwise_iff_getElem]
    intro i j hi hj hij
    have:=hs i j (Nat.zero_le _) hij (by simpa [hps'] using hj)
    simp only [ltOf,decide_eq_false_iff_not] at this
    rw [getElem!_pos d' j (by simpa using hj),getElem!_pos d' i (by simpa using hi)] at this
    simpa using this
   have hheap:(sortWorldK enc k w b 0 n d' os).heap=(w.heap.setIfInBounds b (.cells (putCells id 0 (flatK enc k d') c) T (0,0)))++os:=by
    unfold sortWorldK grow putRowK putRow mapBlock
    simp only [Sort.ahead]
    congr 1
    apply Array.ext_getElem?
    intro i
    rw [Array.getElem?_modify]
    by_cases hib:b=i
    ·subst hib
     simp only [if_pos,Array.getElem?_setIfInBounds_self_of_lt hlt,hb,Option.map_some]
     rfl
    ·rw [if_neg hib,Array.getElem?_setIfInBounds_ne hib]
   have hsz:(putCells id 0 (flatK enc k d') c).size=c.size:=by simp [putCells]
   have hext:Ext (jf (some ⟨b,0,none⟩,xs.length,xc)) w.heap (sortWorldK enc k w b 0 n d' os).heap:=by
    rw [hheap]
    refine ⟨by simp,fun i hi hn=>?_⟩
    rw [Array.getElem?_append_left (by simpa using hi)]
    exact Array.getElem?_setIfInBounds_ne (by rintro rfl;exact hn (by simp [jf]))
   refine ⟨⟨rfl,d'.toList,hperm,hsort,.inr ⟨b,_,rfl,hB,?_,hsz.trans hc,?_,hle,?_⟩,hext⟩,?_⟩
   ·rw [hheap,Array.getElem?_append_left (by simpa using hlt),Array.getElem?_setIfInBounds_self_of_lt hlt]
   ·rw [qj enc hk];simp [hps']
   ·apply List.ext_getElem?
    intro t
    rw [Array.getElem?_toList,Array.getElem?_extract,qj enc hk]
    simp only [Array.length_toList,hps']
    by_cases ht:t < xs.length * k
    ·rw [if_pos (by omega)]
     have h5:=z9m enc hk h0 d' t (by rw [hps'];exact ht)
     rw [h5]
     have h6:t < c.size:=by omega
     simp only [putCells,Nat.zero_add,Array.getElem?_mapIdx,Array.getElem?_eq_getElem h6,Option.map_some]
     rw [if_pos ⟨Nat.zero_le _,by simp [hps',ht]⟩]
     rfl
    ·rw [if_neg (by omega),List.getElem?_eq_none (by rw [qj enc hk];simp [hps'];omega)]
   ·unfold sortWorldK grow putRowK putRow mapBlock
    exact ⟨rfl,rfl,rfl,by simp [Sort.ahead]⟩
  ·have h:=(hcmp (sortWorldK enc k w b 0 m dk os) x y (hextg m os dk)).2
   exact h.mono fun e W' ⟨⟨he,hx⟩,hc⟩=>⟨he,grown_of hx hc⟩
end Go.Fw
namespace Go.Proofs.YtbmegmbnlajbbaaGreatDoor
open Go Go.Fw Go.Proofs Go.Sort
theorem qmt {W:World} {y z:ME} (hy:zst W.heap y) (hz:zst W.heap z):qg P zgb #[.agg (zka y).toArray,.agg (zka z).toArray] W fun e W'=>e=.returned (.int .i64 (zf9 (nm y.f) (nm z.f)))∧Ext [] W.heap W'.heap:=by
 refine z1i ?_
 unfold zmv
 refine jw rfl fun w1 hw1=>?_
 have hx1:Ext [] W.heap w1.heap:=by rw [hw1];exact .push _
 have hb1:w1.heap[W.heap.size]?=some (.cells (zka y).toArray qm (0,0)):=by rw [hw1];exact zo
 refine jw rfl fun w2 hw2=>?_
 have hx2:Ext [] w1.heap w2.heap:=by rw [hw2];exact .push _
 have hb2:w2.heap[w1.heap.size]?=some (.cells (zka z).toArray qm (0,0)):=by rw [hw2];exact zo
 have hx:=hx1.trans hx2
 have hyl:y.hdr.2.1=(nm y.f).length:=by have:=Mine.len hy;simp at this;omega
 have hzl:z.hdr.2.1=(nm z.f).length:=by have:=Mine.len hz;simp at this;omega
 have h8:=(zl2 y.f).2
 refine jg (s:=.slc) (t:=y.hdr) rfl (hx2.get hb1 (by simp)) rfl ?_
 refine jg (s:=.slc) (t:=z.hdr) rfl hb2 rfl ?_
 refine zn (qcj rfl (Mine.ext hy hx (by simp)).cells hyl (Mine.ext hz hx (by simp)).cells hzl (by omega)) ?_
 rintro e w3 ⟨rfl,hw3⟩
 refine ⟨zf9 (nm y.f) (nm z.f),rfl,?_⟩
 exact ⟨rfl,by rw [hw3];exact hx⟩
theorem qoi {w:World} {H:Heap} {B:Nat} {x:Option Addr × Nat × Nat} {ms:List ME} (hw:w.heap=H) (hM:Mine H B qm 4 x (ms.flatMap zka)) (hn:∀ m ∈ ms,zst H m) (hne:ms ≠ []) (hlen:ms.length < 4611686018427387904) :
  qg P zcw #[.slice x.1 x.2.1 x.2.2,.func (.func zgb) #[] #[]] w fun e w'=>e=.returned (.tuple #[])∧∃ ys:List ME,ys.Perm ms∧ys.Pairwise (fun a b=>¬ zf9 (nm b.f) (nm a.f) < 0)∧Mine w'.heap B qm 4 x (ys.flatMap zka)∧Ext (jf x) H w'.heap:=by
 obtain ⟨m0,hm0⟩:=List.exists_mem_of_ne_nil _ hne
 let α:={ m:ME // m ∈ ms }
 haveI:Inhabited α:=⟨⟨m0,hm0⟩⟩
 have hflat:ms.flatMap zka=ms.attach.flatMap fun (m:α)=>zka m.1:=by
  conv=>lhs;rw [← List.attach_map_subtype_val ms]
  rw [List.flatMap_map]
 rw [hflat] at hM
 have h:=qn2 (α:=α) Tryz.sortE (k:=4) (fun w=>by kernel_rfl) (fun w=>by kernel_rfl) (fun m=>zka m.1) (fun m=>ziw m.1) (by omega) (fun m=>z8z) (fun a b=>zf9 (nm a.1.f) (nm b.1.f)) (qmx (α:=α) (fun m=>nm m.1.f)) (g:=zgb) (fun args w=>by kernel_rfl) (fun args w=>by kernel_rfl)
  (w:=w) (H:=H) (x:=x) (xs:=ms.attach) hw (fun W y z hx=>by
   have hk:∀ m:α,zst W.heap m.1:=fun m=>Mine.ext (hn m.1 m.2) hx (zeo (hn m.1 m.2) hM (by decide))
   exact qmt (hk y) (hk z)) hM (by rw [List.length_attach];exact hlen)
 refine h.mono ?_
 rintro e w' ⟨rfl,ys,hp,hs,hm,hx⟩
 refine ⟨rfl,ys.map Subtype.val,?_,?_,?_,hx⟩
 ·have:=hp.map Subtype.val
  rw [List.attach_map_subtype_val] at this
  exact this
 ·rw [List.pairwise_map];exact hs
 ·rw [List.flatMap_map];exact hm
def z4b (L:List Fil):Prop:=∃ i,∃ h:i < L.length,nm L[i]=[] ∨ ∃ g ∈ L.take i,nm g=nm L[i]
def qkq (L:List Fil):Prop:=∃ f ∈ L,(nm f).dropLast ≠ []∧∀ g ∈ L,nm g ≠ (nm f).dropLast
def z2o (L:List Fil):Prop:=∃ f ∈ L,∃ g ∈ L,nm g=(nm f).dropLast∧g.dir=false
def qke (L:List Fil):Prop:=∃ f ∈ L,64 < (kids L (nm f).dropLast).length
open Classical in
noncomputable def zcv (L:List Fil):Int:=if z4b L then 5 else if qkq L then 4 else if z2o L then 70 else if qke L then 8 else 0
theorem qdq {L:List Fil} (h:z4b L):zcv L=5:=by unfold zcv;rw [if_pos h]
theorem qe0 {L:List Fil} (h5:¬ z4b L) (h:qkq L):zcv L=4:=by unfold zcv;rw [if_neg h5,if_pos h]
theorem z8d {L:List Fil} (h5:¬ z4b L) (h4:¬ qkq L) (h:z2o L):zcv L=70:=by unfold zcv;rw [if_neg h5,if_neg h4,if_pos h]
theorem qd2 {L:List Fil} (h5:¬ z4b L) (h4:¬ qkq L) (h70:¬ z2o L) (h:qke L):zcv L=8:=by unfold zcv;rw [if_neg h5,if_neg h4,if_neg h70,if_pos h]
theorem qeo {L:List Fil} (h5:¬ z4b L) (h4:¬ qkq L) (h70:¬ z2o L) (h:¬ qke L):zcv L=0:=by unfold zcv;rw [if_neg h5,if_neg h4,if_neg h70,if_neg h]
theorem zkn {L:List Fil} (h:¬ z4b L):(L.map nm).Nodup∧∀ f ∈ L,nm f ≠ []:=by
 constructor
 ·rw [List.nodup_iff_pairwise_ne,List.pairwise_map,List.pairwise_iff_getElem]
  intro i j hi hj hij e
  exact h ⟨j,hj,.inr ⟨L[i],List.mem_take_iff_getElem.2 ⟨i,by omega,rfl⟩,e⟩⟩
 ·intro f hf e
  obtain ⟨i,hi,rfl⟩:=List.getElem_of_mem hf
  exact h ⟨i,hi,.inl e⟩
theorem z1z {A B:List Fil} (h:A.Perm B) (p:Path):(kids A p).Perm (kids B p):=h.filter _
theorem qmm {L:List Fil} (h5:¬ z4b L) (h8:¬ qke L) (p:Path):(kids (ziu L) p).length≤64:=by
 rw [(z1z (zh8 (zkn h5).1).1 p).length_eq]
 by_cases hk:kids L p=[]
 ·rw [hk];simp
 ·obtain ⟨f,hf⟩:=List.exists_mem_of_ne_nil _ hk
  obtain ⟨h1,h2,h3⟩:=zge hf
  rw [← h3]
  exact Nat.le_of_not_lt fun h=>h8 ⟨f,h1,h⟩
theorem uMT:P.underlying zb2=some (.map qc qm):=by kernel_rfl
def qcn:ME:=⟨(none,0,0),⟨[],true,[]⟩⟩
def zeroE:ME:=⟨(none,0,0),⟨[],false,[]⟩⟩
def evE (m:ME):Value:=.agg (zka m).toArray
theorem zET (w:World):(zeroValue qm).run P w=.ok (evE zeroE) w:=by kernel_rfl
theorem bF1 (w:World):(Instr.build zl #[(1,.bool true)]).run P w=.ok (.agg (zbf ⟨[],true,[]⟩).toArray) w:=by kernel_rfl
abbrev PM:=ML (List UInt8) ME
def Places (M:PM) (ms:List ME):Prop:=∀ p,okP p→zcu M (vk p)=if p=[] then some qcn else ms.find? fun m=>decide (nm m.f=p)
theorem MOk.map_val {κ ν ν':Type} [DecidableEq κ] {ok:κ→Prop} {l:ML κ ν} {c:Nat} (h:MOk ok l c) (g:κ × ν × Nat→ν'):MOk ok (l.map fun x=>(x.1,g x,x.2.2)) c:=by
 refine ⟨?_,?_,?_,?_⟩
 ·have:=h.keys;simp only [List.map_map];exact this
 ·have:=h.born;simp only [List.map_map];exact this
 ·intro x hx;obtain ⟨y,hy,rfl⟩:=List.mem_map.1 hx;exact h.old y hy
 ·intro x hx;obtain ⟨y,hy,rfl⟩:=List.mem_map.1 hx;exact h.fine y hy
def zwd (p:Path) (m:ME):Bool:=decide ((nm m.f).dropLast=p)
structure RowsW (W:Heap) (B:Nat) (K:KM) (ms:List ME):Prop where
 key:∀ z ∈ K,∃ p,okP p∧z.1=vk p
 get:∀ p,okP p→(match zcu K (vk p) with | none=>ms.filter (zwd p)=[] | some v=>v.2=ms.filter (zwd p)∧v.2 ≠ [])
 row:∀ z ∈ K,Mine W B qm 4 z.2.1.1 (z.2.1.2.flatMap zka)
 apart:∀ z ∈ K,∀ z' ∈ K,z.1 ≠ z'.1→∀ b ∈ jf z.2.1.1,b ∉ jf z'.2.1.1
theorem RowsW.step {H H':Heap} {B clk:Nat} {K:KM} {ms:List ME} {m:ME} {v:(Option Addr × Nat × Nat) × List ME} {x':Option Addr × Nat × Nat} (h:RowsW H B K ms) (hM:MOk (fun _=>True) K clk) (hv:(zcu K (vk (nm m.f).dropLast)).getD ((none,0,0),[])=v)
  (hm:Mine H' B qm 4 x' ((v.2++[m]).flatMap zka)) (hx:Ext (jf v.1) H H') (hs:∀ c ∈ jf x',c ∈ jf v.1 ∨ H.size≤c):RowsW H' B (zqn K (vk (nm m.f).dropLast) (x',v.2++[m]) clk) (ms++[m]):=by
 have hokd:okP (nm m.f).dropLast:=by rw [List.dropLast_eq_take];exact (zl2 m.f).take _
 have hold:∀ z ∈ K,z.1 ≠ vk (nm m.f).dropLast→Mine H' B qm 4 z.2.1.1 (z.2.1.2.flatMap zka)∧∀ b ∈ jf z.2.1.1,b ∉ jf x':=by
  intro z hz hne
  have hap:∀ b ∈ jf z.2.1.1,b ∉ jf v.1:=by
   cases hg:zcu K (vk (nm m.f).dropLast) with
   | none=>rw [hg] at hv;subst hv;simp [jf]
   | some u =>
    rw [hg] at hv
    obtain ⟨c,hc⟩:=zf0 hg
    have hu:u=v:=hv
    subst hu
    exact h.apart z hz _ hc hne
  refine ⟨(h.row z hz).ext hx hap,fun b hb hb'=>?_⟩
  rcases hs b hb' with h' | h'
  ·exact hap b hb h'
  ·have:=(zbg (h.row z hz) b hb).1;omega
 have hmem:∀ z ∈ zqn K (vk (nm m.f).dropLast) (x',v.2++[m]) clk,(z.1=vk (nm m.f).dropLast∧z.2.1=(x',v.2++[m])) ∨ (z.1 ≠ vk (nm m.f).dropLast∧z ∈ K):=fun z hz=>zr0 hz
 refine ⟨fun z hz=>?_,fun p hp=>?_,fun z hz=>?_,fun z hz z' hz' hne b hb=>?_⟩
 ·rcases hmem z hz with ⟨h1,_⟩ | ⟨_,h1⟩
  ·exact ⟨_,hokd,h1⟩
  ·exact h.key z h1
 ·rw [zyu]
  by_cases e:vk p=vk (nm m.f).dropLast
  ·rw [if_pos e]
   have hpe:=zyw hp hokd e
   subst hpe
   have hgp:=h.get _ hokd
   have h2:v.2=ms.filter (zwd (nm m.f).dropLast):=by
    cases hg:zcu K (vk (nm m.f).dropLast) with
    | none=>rw [hg] at hgp hv;subst hv;exact hgp.symm
    | some u=>rw [hg] at hgp hv;have hu:u=v:=hv;subst hu;exact hgp.1
   simp only
   rw [List.filter_append,← h2]
   exact ⟨by simp [zwd],by simp⟩
  ·rw [if_neg e]
   have hne:(nm m.f).dropLast ≠ p:=by rintro rfl;exact e rfl
   have:=h.get p hp
   cases hg:zcu K (vk p) with
   | none =>
    rw [hg] at this
    simp only at this ⊢
    rw [List.filter_append,this]
    simp [zwd,hne]
   | some u =>
    rw [hg] at this
    simp only at this ⊢
    refine ⟨?_,this.2⟩
    rw [List.filter_append,this.1]
    simp [zwd,hne]
 ·rcases hmem z hz with ⟨_,h1⟩ | ⟨h0,h1⟩
  ·rw [h1];exact hm
  ·exact (hold z h1 h0).1
 ·rcases hmem z hz with ⟨e1,h1⟩ | ⟨e1,h1⟩
  ·rcases hmem z' hz' with ⟨e2,_⟩ | ⟨e2,h2⟩
   ·exact absurd (e1.trans e2.symm) hne
   ·rw [h1] at hb
    exact fun h3=>(hold z' h2 e2).2 b h3 hb
  ·rcases hmem z' hz' with ⟨e2,h2⟩ | ⟨e2,h2⟩
   ·rw [h2];exact (hold z h1 e1).2 b hb
   ·intro h3;exact h.apart z h1 z' h2 hne b hb h3
theorem find_none_of {ms:List ME} {p:Path}:(ms.find? fun m=>decide (nm m.f=p))=none ↔ ∀ m ∈ ms,nm m.f ≠ p:=by
 rw [List.find?_eq_none]
 simp
theorem find_some_of {ms:List ME} {p:Path} {m:ME} (h:(ms.find? fun m=>decide (nm m.f=p))=some m):m ∈ ms∧nm m.f=p:=by
 have h1:=List.mem_of_find?_eq_some h
 have h2:=List.find?_some h
 exact ⟨h1,by simpa using h2⟩
theorem qbg {α β:Type} {g:α→β}:∀ {L:List α},(L.map g).Nodup→∀ {a b:α},a ∈ L→b ∈ L→g a=g b→a=b
 | [],_,_,_,ha,_,_=>by simp at ha
 | x :: L,h,a,b,ha,hb,e=>by
  rw [List.map_cons,List.nodup_cons] at h
  rcases List.mem_cons.1 ha with h1 | h1 <;> rcases List.mem_cons.1 hb with h2 | h2
  ·rw [h1,h2]
  ·subst h1;exact absurd (List.mem_map.2 ⟨b,h2,e.symm⟩) h.1
  ·subst h2;exact absurd (List.mem_map.2 ⟨a,h1,e⟩) h.1
  ·exact qbg h.2 h1 h2 e
theorem zo5 {ms:List ME} {p:Path} (hne:∀ m ∈ ms,nm m.f ≠ []):(ms.filter (zwd p)).map (·.f)=kids (ms.map (·.f)) p:=by
 unfold kids
 rw [List.filter_map]
 congr 1
 apply List.filter_congr
 intro m hm
 simp [zwd,qfx,hne m hm]
theorem qfk {ms:List ME} {i:Nat}:(ms.take i).map (·.f)=(ms.map (·.f)).take i:=List.map_take
structure Rows3 (W:Heap) (B:Nat) (K K3:KM) (seen:Array Nat):Prop where
 vls:vl evK K3=vl evK K
 from_:∀ z ∈ K3,∃ z0 ∈ K,z0.1=z.1∧z0.2.1.1=z.2.1.1∧z.2.1.2.Perm z0.2.1.2
 row:∀ z ∈ K3,Mine W B qm 4 z.2.1.1 (z.2.1.2.flatMap zka)
 done:∀ z ∈ K3,z.2.2 ∈ seen→z.2.1.2.length≤64∧z.2.1.2.Pairwise fun a b=>¬ zf9 (nm b.f) (nm a.f) < 0
theorem qdi {es fs:List ME} {L:List Fil} {p:Path} (hp:es.Perm fs) (hfs:fs.map (·.f)=kids L p) (hnd:(L.map nm).Nodup) (hs:es.Pairwise fun a b=>¬ zf9 (nm b.f) (nm a.f) < 0):es.map (·.f)=kids (ziu L) p:=by
 have hsp:=zh8 hnd
 have hperm:(es.map (·.f)).Perm (kids L p):=by rw [← hfs];exact hp.map _
 have hnk:((kids L p).map nm).Nodup:=(List.filter_sublist.map nm).nodup hnd
 have hne:((es.map (·.f)).map nm).Nodup:=(hperm.map nm).nodup_iff.2 hnk
 refine qcu ?_ (hsp.2.sublist List.filter_sublist) (hperm.trans (z1z hsp.1 p).symm)
 unfold zvw
 rw [List.pairwise_map]
 rw [List.nodup_iff_pairwise_ne,List.pairwise_map,List.pairwise_map] at hne
 refine (hs.and hne).imp fun {a b} h=>?_
 have h1:=zoi (p:=nm a.f) (q:=nm b.f)
 have h2:zf9 (nm a.f) (nm b.f) ≠ 0:=fun e=>h.2 (zpk.1 e)
 have h3:=h.1
 omega
set_option maxHeartbeats 32000000 in
theorem ql6 {w:World} {H:Heap} {a:Option Addr} {n nc:Nat} {ms:List ME} (hw:w.heap=H) (hL:Cells H a (ms.flatMap zka)) (hn:n=ms.length) (hm:ms.length≤65536) (hN:∀ m ∈ ms,zst H m) :
  qg P zrt #[.slice a n nc] w fun e w'=>∃ v,e=.returned (.tuple #[.map v,.int .i64 (zcv (ms.map (·.f)))])∧Ext [] H w'.heap∧(zcv (ms.map (·.f))=0→∃ mk,v=some mk∧qju w'.heap mk (ziu (ms.map (·.f)))):=by
 subst hn
 refine z7z ?_
 unfold zri
 refine zae (s:=.map) (some H.size) _ (zvr hw) ?_
 refine qx (s:=.any) _ (bF1 _) ?_
 refine qx (s:=.any) (evE qcn) (bE (none,0,0) _ _ _ _) ?_
 have hm1:(H.push (.map #[] 0))[H.size]?=some (.map (ents keyS (vl evE ([]:PM))) 0):=zo
 refine zzp _ (zu8 qnt uMT (w:={ w with heap:=H.push (.map #[] 0) }) rfl hm1 MOk.nil (k:=vk []) trivial qcn rfl) ?_
 generalize hW0:({ w with heap:=(H.push (.map #[] 0)).setIfInBounds H.size (.map (ents keyS (vl evE (zqn ([]:PM) (vk []) qcn 0))) (zxj ([]:PM) (vk []) 0)) }:World)=W0
 have hh0:W0.heap=(H.push (.map #[] 0)).setIfInBounds H.size (.map (ents keyS (vl evE (zqn ([]:PM) (vk []) qcn 0))) (zxj ([]:PM) (vk []) 0)):=by rw [← hW0]
 have hx0:Ext [] H W0.heap:=by rw [hh0];exact (Ext.push _).set_own (.inl (Nat.le_refl _))
 have hp0:W0.heap[H.size]?=some (.map (ents keyS (vl evE (zqn ([]:PM) (vk []) qcn 0))) (zxj ([]:PM) (vk []) 0)):=by rw [hh0];exact qp hm1
 have hok0:MOk (fun _=>True) (zqn ([]:PM) (vk []) qcn 0) (zxj ([]:PM) (vk []) 0):=MOk.nil.upd trivial _
 have hnil:okP []:=⟨by simp,by simp⟩
 have hpl0:Places (zqn ([]:PM) (vk []) qcn 0) []:=by
  intro p hp
  rw [zyu]
  by_cases e:p=[]
  ·subst e;rw [if_pos rfl,if_pos rfl]
  ·rw [if_neg (fun h=>e (zyw hp hnil h)),if_neg e];rfl
 have hlm:(ms.map (·.f)).length=ms.length:=by simp
 have hHs0:H.size < W0.heap.size:=lt_of_get hp0
 refine jd (fun (s:Int) W=>∃ (i:Nat) (M:PM) (c:Nat),s=(i:Int)∧i≤ms.length∧Ext [] H W.heap∧W.heap[H.size]?=some (.map (ents keyS (vl evE M)) c)∧MOk (fun _=>True) M c∧Places M (ms.take i)∧(∀ j (h:j < (ms.map (·.f)).length),j < i→nm (ms.map (·.f))[j] ≠ []∧∀ g ∈ (ms.map (·.f)).take j,nm g ≠ nm (ms.map (·.f))[j]))
  (fun s _=>(ms.length - s).toNat) ⟨0,_,_,rfl,Nat.zero_le _,hx0,hp0,hok0,by simpa using hpl0,fun j _ h=>by omega⟩ ?_
 rintro _ W ⟨i,M,c,rfl,hi,hxW,hpW,hoM,hPl,hgood⟩
 refine zq (fun hlt=>?_) (fun hge=>?_)
 ·have hil:i < ms.length:=by omega
  have hget:=List.getElem?_eq_getElem hil
  have hmem:ms[i] ∈ ms:=List.getElem_mem hil
  have hfi:(ms.map (·.f))[i]'(by simpa using hil)=(ms[i]).f:=by simp
  generalize ms[i]=m at hget hmem hfi
  have hsm:=(zl2 m.f).small
  refine zgx (i:=i) ziw (by omega) rfl (hL.ext hxW (by simp)) rfl hget rfl ?_
  refine qpg m rfl fun w5 hw5=>?_
  have hx5:Ext [] W.heap w5.heap:=by rw [hw5];exact .push _
  have hb5:w5.heap[W.heap.size]?=some (.cells (zka m).toArray qm (0,0)):=by rw [hw5];exact zo
  have hnm:=(hN m hmem)
  have hnl:m.hdr.2.1=(nm m.f).length:=by have:=Mine.len hnm;simp at this;omega
  have hcap:=zfl hnm
  refine jg (s:=.slc) (t:=m.hdr) rfl hb5 rfl ?_
  refine zn (z5f rfl (Mine.ext hnm (hxW.trans hx5) (by simp)).cells hnl hcap (by omega)) ?_
  rintro e w6 ⟨rfl,hx6⟩
  refine ⟨strOf (vk (nm m.f)),rfl,?_⟩
  have hx06:=hx5.trans hx6
  have hp6:=hx06.get hpW (by simp)
  have hlk:=zkh qnt uMT zET (w:=w6) rfl hp6 hoM (k:=vk (nm m.f)) trivial
  have hval:((zcu M (vk (nm m.f))).map evE).getD (evE zeroE)=evE ((zcu M (vk (nm m.f))).getD zeroE):=by cases zcu M (vk (nm m.f)) <;> rfl
  rw [hval] at hlk
  refine zo4 (l:=[.any,.bool]) (evE ((zcu M (vk (nm m.f))).getD zeroE),(zcu M (vk (nm m.f))).isSome) hlk ?_
  refine qpg ((zcu M (vk (nm m.f))).getD zeroE) rfl fun w8 hw8=>?_
  have hx8:Ext [] w6.heap w8.heap:=by rw [hw8];exact .push _
  have hx08:=hx06.trans hx8
  have hpm:=hPl (nm m.f) (zl2 m.f)
  cases hs:(zcu M (vk (nm m.f))).isSome with
  | true =>
   refine vw rfl ?_
   have h5:z4b (ms.map (·.f)):=by
    refine ⟨i,by simpa using hil,?_⟩
    rw [hfi]
    by_cases e:nm m.f=[]
    ·exact .inl e
    ·right
     rw [hpm,if_neg e] at hs
     obtain ⟨m',hm'⟩:=Option.isSome_iff_exists.1 hs
     obtain ⟨h1,h2⟩:=find_some_of hm'
     exact ⟨m'.f,by rw [← qfk];exact List.mem_map.2 ⟨m',h1,rfl⟩,h2⟩
   exact ⟨none,by rw [qdq h5],hxW.trans hx08,fun h=>by rw [qdq h5] at h;cases h⟩
  | false =>
   refine jk rfl ?_
   have hno:nm m.f ≠ []∧∀ m' ∈ ms.take i,nm m'.f ≠ nm m.f:=by
    rw [hpm] at hs
    by_cases e:nm m.f=[]
    ·rw [if_pos e] at hs;simp at hs
    ·rw [if_neg e] at hs
     exact ⟨e,find_none_of.1 (by simpa using hs)⟩
   refine jq rfl fun w9 hw9=>?_
   have hx9:Ext [] w8.heap w9.heap:=by rw [hw9];exact .refl _ _
   have hb9:=hx9.get (hx8.get (hx6.get hb5 (by simp)) (by simp)) (by simp)
   refine jg (s:=.slc) (t:=m.hdr) rfl hb9 rfl ?_
   refine je rfl hb9 rfl ?_
   have hx09:=hx08.trans hx9
   refine zn (z5f rfl (Mine.ext hnm (hxW.trans hx09) (by simp)).cells hnl hcap (by omega)) ?_
   rintro e w10 ⟨rfl,hx10⟩
   refine ⟨strOf (vk (nm m.f)),rfl,?_⟩
   refine ⟨je rfl (hx10.get hb9 (by simp)) rfl rfl,?_⟩
   have hx010:=hx09.trans hx10
   have hp10:=hx010.get hpW (by simp)
   refine zzp _ (zu8 qnt uMT (w:=w10) rfl hp10 hoM (k:=vk (nm m.f)) trivial m rfl) ?_
   refine xk ((i+1:Nat):Int) (by omega) (by omega) (by omega) ?_
   refine ⟨⟨i+1,_,_,rfl,by omega,(hxW.trans hx010).set_own (.inl (Nat.le_refl _)),qp hp10,hoM.upd trivial _,fun p hp=>?_,fun j hj hji=>?_⟩,by omega⟩
   ·rw [zyu,List.take_add_one,hget,Option.toList_some,List.find?_append]
    by_cases e:vk p=vk (nm m.f)
    ·have hpe:=zyw hp (zl2 m.f) e
     subst hpe
     rw [if_pos e,if_neg hno.1,find_none_of.2 hno.2]
     simp
    ·rw [if_neg e,hPl p hp]
     have hne:nm m.f ≠ p:=by rintro rfl;exact e rfl
     by_cases e0:p=[]
     ·rw [if_pos e0,if_pos e0]
     ·rw [if_neg e0,if_neg e0]
      simp [hne]
   ·by_cases e:j=i
    ·subst e
     rw [hfi]
     refine ⟨hno.1,fun g hg=>?_⟩
     rw [← qfk] at hg
     obtain ⟨m',hm',rfl⟩:=List.mem_map.1 hg
     exact hno.2 m' hm'
    ·exact hgood j hj (by omega)
 ·obtain rfl:i=ms.length:=by omega
  have h5:¬ z4b (ms.map (·.f)):=by
   rintro ⟨j,hj,h⟩
   obtain ⟨g1,g2⟩:=hgood j hj (by omega)
   rcases h with h | ⟨g,hg,e⟩
   ·exact g1 h
   ·exact g2 g hg e
  rw [List.take_length] at hPl
  obtain ⟨hnd,hne⟩:=zkn h5
  have hnem:∀ m ∈ ms,nm m.f ≠ []:=fun m hm=>hne _ (List.mem_map.2 ⟨m,hm,rfl⟩)
  have hsW:=hxW.1
  have hpml:=lt_of_get hpW
  refine zae (s:=.map) (some W.heap.size) { W with heap:=W.heap.push (.map #[] 0) } (zvr rfl) ?_
  have hxm:Ext [] W.heap (W.heap.push (.map #[] 0)):=.push _
  refine jd (fun (s:Bool × Int) W2=>∃ (i:Nat) (K:KM) (c2:Nat),s.2=(i:Int)∧i≤ms.length∧Ext [] W.heap W2.heap∧W2.heap[W.heap.size]?=some (.map (ents keyS (vl evK K)) c2)∧MOk (fun _=>True) K c2∧RowsW W2.heap (W.heap.size+1) K (ms.take i) ∧
    (s.1=true ↔ ∃ f ∈ (ms.map (·.f)).take i,∃ g ∈ ms.map (·.f),nm g=(nm f).dropLast∧g.dir=false)∧(∀ f ∈ (ms.map (·.f)).take i,(nm f).dropLast=[] ∨ ∃ g ∈ ms.map (·.f),nm g=(nm f).dropLast))
   (fun s _=>(ms.length - s.2).toNat) ⟨0,[],0,rfl,Nat.zero_le _,hxm,zo,.nil,⟨by simp,fun p hp=>by simp [zcu],by simp,by simp⟩,by simp,by simp⟩ ?_
  rintro ⟨flat,_⟩ W2 ⟨i,K,c2,rfl,hi,hx2,hk2,hoK,hR,hfl,hab⟩
  have hxH2:=hxW.trans hx2
  have hp2:=hx2.get hpW (by simp)
  have hkl:=lt_of_get hk2
  have hx2s:=hx2.1
  refine zq (fun hlt=>?_) (fun hge=>?_)
  ·have hil:i < ms.length:=by simp only at hlt;omega
   have hget:=List.getElem?_eq_getElem hil
   have hmem:ms[i] ∈ ms:=List.getElem_mem hil
   generalize ms[i]=m at hget hmem
   have hgf:(ms.map (·.f))[i]?=some m.f:=by rw [List.getElem?_map,hget];rfl
   have hsm:=(zl2 m.f).small
   have hok8:=(zl2 m.f).2
   have hmne:=hnem m hmem
   have hpos:=List.length_pos_iff.2 hmne
   refine zgx (i:=i) ziw (by omega) rfl (hL.ext hxH2 (by simp)) rfl hget rfl ?_
   refine qpg m rfl fun w15 hw15=>?_
   have hx15:Ext [] W2.heap w15.heap:=by rw [hw15];exact .push _
   have hb15:w15.heap[W2.heap.size]?=some (.cells (zka m).toArray qm (0,0)):=by rw [hw15];exact zo
   have hnm:=(hN m hmem)
   have hnl:m.hdr.2.1=(nm m.f).length:=by have:=Mine.len hnm;simp at this;omega
   have hcap:=zfl hnm
   refine jg (s:=.slc) (t:=m.hdr) rfl hb15 rfl ?_
   refine jg (s:=.slc) (t:=m.hdr) rfl hb15 rfl ?_
   refine zbo ((m.hdr.2.1 - 1:Nat):Int) (by omega) (by omega) (by omega) ?_
   refine qx (s:=.slc) (if m.hdr.2.2=0 then m.hdr.1 else m.hdr.1.map (·.add (0 * 1)),(m.hdr.2.1 - 1) - 0,m.hdr.2.2 - 0) (zaw zyn qir .no (.yes rfl) (Nat.zero_le _) (show m.hdr.2.1 - 1≤m.hdr.2.2 by omega)) ?_
   have hcut:=(Mine.cut (Mine.ext hnm (hxH2.trans hx15) (by simp)) (k:=m.hdr.2.1 - 1) (by omega)).cells
   rw [zum] at hcut
   have hdl:(nm m.f).take (m.hdr.2.1 - 1)=(nm m.f).dropLast:=by rw [List.dropLast_eq_take,hnl]
   have hcut:Cells w15.heap (if m.hdr.2.2=0 then m.hdr.1 else m.hdr.1.map (·.add (0 * 1))) (strRow ((nm m.f).take (m.hdr.2.1 - 1))):=hcut
   rw [hdl] at hcut
   have hql:(nm m.f).dropLast.length=m.hdr.2.1 - 1:=by rw [List.length_dropLast];omega
   have hokd:okP (nm m.f).dropLast:=by rw [List.dropLast_eq_take];exact (zl2 m.f).take _
   have hsmd:=hokd.small
   refine zn (z5f rfl hcut (by rw [hql];simp) (by simp only;omega) (by omega)) ?_
   rintro e w16 ⟨rfl,hx16⟩
   refine ⟨strOf (vk (nm m.f).dropLast),rfl,?_⟩
   have hx216:=hx15.trans hx16
   have hp16:=hx216.get hp2 (by simp)
   have hlk:=zkh qnt uMT zET (w:=w16) rfl hp16 hoM (k:=vk (nm m.f).dropLast) trivial
   have hval:((zcu M (vk (nm m.f).dropLast)).map evE).getD (evE zeroE)=evE ((zcu M (vk (nm m.f).dropLast)).getD zeroE):=by cases zcu M (vk (nm m.f).dropLast) <;> rfl
   rw [hval] at hlk
   refine zo4 (l:=[.any,.bool]) (evE ((zcu M (vk (nm m.f).dropLast)).getD zeroE),(zcu M (vk (nm m.f).dropLast)).isSome) hlk ?_
   refine qpg ((zcu M (vk (nm m.f).dropLast)).getD zeroE) rfl fun w18 hw18=>?_
   have hx18:Ext [] w16.heap w18.heap:=by rw [hw18];exact .push _
   have hb18:w18.heap[w16.heap.size]?=some (.cells (zka ((zcu M (vk (nm m.f).dropLast)).getD zeroE)).toArray qm (0,0)):=by rw [hw18];exact zo
   have hx218:=hx216.trans hx18
   have hpm:=hPl _ hokd
   have htk:(ms.map (·.f)).take (i+1)=(ms.map (·.f)).take i++[m.f]:=by rw [List.take_add_one,hgf];rfl
   cases hs:(zcu M (vk (nm m.f).dropLast)).isSome with
   | false =>
    refine vw rfl ?_
    have h4:qkq (ms.map (·.f)):=by
     rw [hpm] at hs
     by_cases e:(nm m.f).dropLast=[]
     ·rw [if_pos e] at hs;simp at hs
     ·rw [if_neg e] at hs
      have hnf:=find_none_of.1 (by simpa using hs)
      refine ⟨m.f,List.mem_map.2 ⟨m,hmem,rfl⟩,e,fun g hg=>?_⟩
      obtain ⟨m',hm',rfl⟩:=List.mem_map.1 hg
      exact hnf m' hm'
    exact ⟨none,by rw [qe0 h5 h4],hxH2.trans hx218,fun h=>by rw [qe0 h5 h4] at h;cases h⟩
   | true =>
    refine jk rfl ?_
    obtain ⟨m0,hm0⟩:=Option.isSome_iff_exists.1 hs
    have hm0':=hm0
    rw [hpm] at hm0'
    have hab':(nm m.f).dropLast=[] ∨ ∃ g ∈ ms.map (·.f),nm g=(nm m.f).dropLast:=by
     by_cases e:(nm m.f).dropLast=[]
     ·exact .inl e
     ·rw [if_neg e] at hm0'
      obtain ⟨h1,h2⟩:=find_some_of hm0'
      exact .inr ⟨m0.f,List.mem_map.2 ⟨m0,h1,rfl⟩,h2⟩
    have hflat:m0.f.dir=false ↔ ∃ g ∈ ms.map (·.f),nm g=(nm m.f).dropLast∧g.dir=false:=by
     by_cases e:(nm m.f).dropLast=[]
     ·rw [if_pos e] at hm0'
      cases hm0'
      constructor
      ·intro h;cases h
      ·rintro ⟨g,hg,h1,_⟩
       rw [e] at h1
       exact absurd h1 (hne g hg)
     ·rw [if_neg e] at hm0'
      obtain ⟨h1,h2⟩:=find_some_of hm0'
      constructor
      ·intro h;exact ⟨m0.f,List.mem_map.2 ⟨m0,h1,rfl⟩,h2,h⟩
      ·rintro ⟨g,hg,h3,h4⟩
       have:m0.f=g:=qbg hnd (List.mem_map.2 ⟨m0,h1,rfl⟩) hg (h2.trans h3.symm)
       rw [this];exact h4
    refine joinP_of (fun s' W'=>W'=w18∧(s'=true ↔ ∃ f ∈ (ms.map (·.f)).take (i+1),∃ g ∈ ms.map (·.f),nm g=(nm f).dropLast∧g.dir=false)) ?_ ?_
    ·cases hfb:flat with
     | true =>
      refine vw rfl ⟨rfl,⟨fun _=>?_,fun _=>rfl⟩⟩
      obtain ⟨f,hf,h⟩:=hfl.1 (by simpa using hfb)
      exact ⟨f,by rw [htk];exact List.mem_append_left _ hf,h⟩
     | false =>
      refine jk rfl ?_
      refine jg (s:=.bool) (t:=m0.f.dir) rfl hb18 (by rw [hm0];rfl) ?_
      refine ⟨rfl,?_⟩
      rw [Bool.not_eq_true',hflat]
      constructor
      ·intro h;exact ⟨m.f,by rw [htk];simp,h⟩
      ·rintro ⟨f,hf,h⟩
       rw [htk] at hf
       rcases List.mem_append.1 hf with hf | hf
       ·have:=hfl.2 ⟨f,hf,h⟩
        simp only at this
        rw [hfb] at this;cases this
       ·simp at hf;subst hf;exact h
    rintro s' W' ⟨hW',hs'⟩
    subst hW'
    have hk18:=hx218.get hk2 (by simp)
    obtain ⟨v,hv⟩:∃ v,(zcu K (vk (nm m.f).dropLast)).getD ((none,0,0),[])=v:=⟨_,rfl⟩
    have hlk2:=qbl (w:=W') qnt uME zME rfl hk18 hoK (k:=vk (nm m.f).dropLast) trivial
    have hv2:((zcu K (vk (nm m.f).dropLast)).map evK).getD (.slice none 0 0)=zck v.1:=by
     rw [← hv]
     cases zcu K (vk (nm m.f).dropLast) <;> rfl
    rw [hv2] at hlk2
    refine qx (s:=.slc) v.1 hlk2 ?_
    have hb1518:=hx18.get (hx16.get hb15 (by simp)) (by simp)
    refine je rfl hb1518 rfl ?_
    have hRow:Mine W'.heap (W.heap.size+1) qm 4 v.1 (v.2.flatMap zka):=by
     cases hg:zcu K (vk (nm m.f).dropLast) with
     | none=>rw [hg] at hv;subst hv;exact .inl ⟨rfl,rfl⟩
     | some u =>
      rw [hg] at hv
      have hu:u=v:=hv
      subst hu
      obtain ⟨c,hc⟩:=zf0 hg
      exact (hR.row _ hc).ext hx218 (by simp)
    have hvl:v.2.length≤ms.length:=by
     have:=hR.get _ hokd
     cases hg:zcu K (vk (nm m.f).dropLast) with
     | none=>rw [hg] at hv;subst hv;simp
     | some u =>
      rw [hg] at hv this
      have hu:u=v:=hv
      subst hu
      rw [this.1]
      have h1:=List.length_filter_le (zwd (nm m.f).dropLast) (ms.take i)
      have h2:(ms.take i).length≤ms.length:=by simp;omega
      omega
    have hs18:=hx218.1
    refine qiw (i:=m) rfl hRow (by omega) (by omega) fun x' w21 hm21 hx21 hs21 hl21=>?_
    have hkne:W.heap.size ∉ jf v.1:=fun h=>by have:=jc hRow _ h;omega
    have hk21:=hx21.get hk18 hkne
    refine zzp _ (zu8 qnt uME (w:=w21) rfl hk21 hoK (k:=vk (nm m.f).dropLast) trivial (x',v.2++[m]) rfl) ?_
    have hx221:Ext (jf v.1) W2.heap w21.heap:=(hx218.mono (by simp)).trans hx21
    have hs221:∀ c ∈ jf x',c ∈ jf v.1 ∨ W2.heap.size≤c:=fun c hc=>by
     rcases hs21 c hc with h | h
     ·exact .inl h
     ·right;omega
    have hstep:=hR.step hoK hv hm21 hx221 hs221
    have hxk:Ext [W.heap.size] w21.heap (w21.heap.setIfInBounds W.heap.size (.map (ents keyS (vl evK (zqn K (vk (nm m.f).dropLast) (x',v.2++[m]) c2))) (zxj K (vk (nm m.f).dropLast) c2))):=Ext.set _ (by simp)
    refine xk ((i+1:Nat):Int) (by simp) (by omega) (by omega) ?_
    refine ⟨⟨i+1,_,_,rfl,by omega,?_,qp hk21,hoK.upd trivial _,⟨?_,?_,?_,?_⟩,hs',?_⟩,by simp only;omega⟩
    ·exact (hx2.own hx221 (fun c hc hlt=>by have:=jc hRow c hc;omega)).set_own (.inl (Nat.le_refl _))
    ·exact hstep.key
    ·rw [List.take_add_one,hget];exact hstep.get
    ·intro z hz
     exact (hstep.row z hz).ext hxk (fun b hb h=>by simp at h;subst h;have:=jc (hstep.row z hz) _ hb;omega)
    ·exact hstep.apart
    ·rw [htk]
     intro f hf
     rcases List.mem_append.1 hf with hf | hf
     ·exact hab f hf
     ·simp at hf;subst hf;exact hab'
  ·obtain rfl:i=ms.length:=by simp only at hge;omega
   rw [List.take_length] at hR
   have htl:(ms.map (·.f)).take ms.length=ms.map (·.f):=by rw [← hlm,List.take_length]
   rw [htl] at hfl hab
   have h4:¬ qkq (ms.map (·.f)):=by
    rintro ⟨f,hf,h1,h2⟩
    rcases hab f hf with h | ⟨g,hg,h⟩
    ·exact h1 h
    ·exact h2 g hg h
   cases hfb:flat with
   | true =>
    have h70:z2o (ms.map (·.f)):=hfl.1 (by simpa using hfb)
    exact vw rfl ⟨none,by rw [z8d h5 h4 h70],hxH2,fun h=>by rw [z8d h5 h4 h70] at h;cases h⟩
   | false =>
    have h70:¬ z2o (ms.map (·.f)):=fun h=>by
     have:=hfl.2 h
     simp only at this
     rw [hfb] at this;cases this
    refine jk rfl ?_
    refine zae (s:=.ptr) (some ⟨W2.heap.size,0,none⟩) { W2 with heap:=W2.heap.push (.mapIter (some W.heap.size) c2 #[] c2) } (qjy uME rfl hk2) ?_
    have hxr:Ext [] W2.heap (W2.heap.push (.mapIter (some W.heap.size) c2 #[] c2)):=.push _
    have nrow:∀ {z:List UInt8 × ((Option Addr × Nat × Nat) × List ME) × Nat},z ∈ K→∃ p,okP p∧z.1=vk p∧z.2.1.2=ms.filter (zwd p)∧z.2.1.2 ≠ []:=by
     intro z hz
     obtain ⟨p,hp,e⟩:=hR.key z hz
     have hg:=zt7 hoK.keys (k:=z.1) (v:=z.2.1) (c:=z.2.2) hz
     have h:=hR.get p hp
     rw [← e,hg] at h
     exact ⟨p,hp,e,h.1,h.2⟩
    refine zu4 (fun k (_:Unit) W3=>∃ (seen:Array Nat) (last:Nat) (K3:KM),Ext [] H W3.heap∧W2.heap.size < W3.heap.size∧W3.heap[W.heap.size]?=some (.map (ents keyS (vl evK K3)) c2)∧W3.heap[W2.heap.size]?=some (.mapIter (some W.heap.size) c2 seen last)∧c2≤last∧MOk (fun _=>True) K3 c2∧Rows3 W3.heap (W.heap.size+1) K K3 seen∧k=(K3.filter fun y=>!seen.contains y.2.2).length)
     (K.filter fun y=>!(#[]:Array Nat).contains y.2.2).length ?_ ?_
    ·exact ⟨#[],c2,K,hxH2.trans hxr,by simp,zet hk2,zo,Nat.le_refl _,hoK,⟨rfl,fun z hz=>⟨z,hz,rfl,rfl,.refl _⟩,fun z hz=>(hR.row z hz).ext hxr (by simp),fun z _ h=>by simp at h⟩,rfl⟩
    rintro k _ W3 ⟨seen,last,K3,hx3,hs3,hk3,hi3,hcl,hoK3,hR3,rfl⟩ Kk hKk
    rcases qnh (P:=P) (ty:=znd) rfl hk3 hi3 (fun x hx=>hoK3.old x hx) hcl with ⟨hall,W4,hnx,hc4,hh4⟩ | ⟨x,hx,hns,W4,hnx,hc4,hh4⟩
    ·refine zae (s:=.any) _ W4 hnx ?_ hc4
     refine z1p (s:=.bool) false rfl rfl ?_
     refine jk rfl ?_
     have hget3:∀ {p v},okP p→zcu K3 (vk p)=some v→v.2.length≤64∧v.2.Pairwise (fun a b=>¬ zf9 (nm b.f) (nm a.f) < 0)∧v.2.Perm (ms.filter (zwd p))∧Mine W3.heap (W.heap.size+1) qm 4 v.1 (v.2.flatMap zka):=by
      intro p v hp hg
      obtain ⟨c,hc⟩:=zf0 hg
      obtain ⟨z0,hz0,e1,_,hpm⟩:=hR3.from_ _ hc
      obtain ⟨p0,hp0',e0,h0,_⟩:=nrow hz0
      have:p0=p:=zyw hp0' hp (by rw [← e0,e1])
      subst this
      obtain ⟨d1,d2⟩:=hR3.done _ hc (hall _ hc)
      exact ⟨d1,d2,by rw [← h0];exact hpm,hR3.row _ hc⟩
     have hnone:∀ {p},okP p→zcu K3 (vk p)=none→ms.filter (zwd p)=[]:=by
      intro p hp hg
      have h1:(zcu K3 (vk p)).map evK=(zcu K (vk p)).map evK:=by rw [← zwl,← zwl,hR3.vls]
      rw [hg] at h1
      have h2:zcu K (vk p)=none:=by
       cases h:zcu K (vk p) with
       | none=>rfl
       | some u=>rw [h] at h1;simp at h1
      have:=hR.get p hp
      rw [h2] at this
      exact this
     have h8:¬ qke (ms.map (·.f)):=by
      rintro ⟨f,hf,h⟩
      have hokp:okP (nm f).dropLast:=by rw [List.dropLast_eq_take];exact (zl2 f).take _
      rw [← zo5 hnem,List.length_map] at h
      cases hg:zcu K3 (vk (nm f).dropLast) with
      | none=>rw [hnone hokp hg] at h;simp at h
      | some v =>
       obtain ⟨d1,_,d3,_⟩:=hget3 hokp hg
       rw [← d3.length_eq] at h
       omega
     refine ⟨some W.heap.size,by rw [qeo h5 h4 h70 h8],by rw [hh4];exact hx3,fun _=>⟨W.heap.size,rfl,K3,c2,by rw [hh4];exact hk3,hoK3,fun p hp=>?_⟩⟩
     cases hg:zcu K3 (vk p) with
     | none =>
      have h1:=hnone hp hg
      have h2:kids (ms.map (·.f)) p=[]:=by rw [← zo5 hnem,h1];rfl
      have h3:=z1z (zh8 hnd).1 p
      rw [h2] at h3
      exact h3.eq_nil
     | some v =>
      obtain ⟨d1,d2,d3,d4⟩:=hget3 hp hg
      refine ⟨qdi d3 (zo5 hnem) hnd d2,?_,fun m hm=>?_⟩
      ·rw [hh4];exact d4.mono (Nat.zero_le _)
      ·have hmm:m ∈ ms:=(List.mem_filter.1 (d3.mem_iff.1 hm)).1
       rw [hh4];exact Mine.ext (hN m hmm) hx3 (by simp)
    ·refine zae (s:=.any) _ W4 hnx ?_ hc4
     refine z1p (s:=.bool) true rfl rfl ?_
     refine vw rfl ?_
     have hilt:=lt_of_get hi3
     have hx34:Ext [W2.heap.size] W3.heap W4.heap:=by rw [hh4];exact Ext.set _ (by simp)
     have hi4:W4.heap[W2.heap.size]?=some (.mapIter (some W.heap.size) c2 (seen.push x.2.2) c2):=by rw [hh4];exact Array.getElem?_setIfInBounds_self_of_lt hilt
     have hk4:=hx34.get hk3 (by simp;omega)
     refine qx (s:=.any) _ (qiv (last:=c2) rfl hk4 hi4 hx hoK3) ?_
     refine z1p (s:=.slc) x.2.1.1 rfl rfl ?_
     have hrow3:=hR3.row x hx
     have hrow4:Mine W4.heap (W.heap.size+1) qm 4 x.2.1.1 (x.2.1.2.flatMap zka):=hrow3.ext hx34 (fun b hb h=>by
      simp at h;subst h
      obtain ⟨_,c',T',fr',hcell⟩:=zbg hrow3 _ hb
      rw [hi3] at hcell;cases hcell)
     have hxl:x.2.1.1.2.1=x.2.1.2.length:=by have:=hrow3.len;rw [qj zka ziw] at this;omega
     obtain ⟨z0,hz0,e1,e2,hpm⟩:=hR3.from_ x hx
     obtain ⟨p0,hp0',e0,h0,h0n⟩:=nrow hz0
     have hH34:Ext [] H W4.heap:=hx3.own hx34 (by intro c hc hlt;simp at hc;omega)
     refine zq (fun hbig=>?_) (fun hsmall=>?_)
     ·have h8:qke (ms.map (·.f)):=by
       obtain ⟨m,hm⟩:=List.exists_mem_of_ne_nil _ h0n
       rw [h0] at hm
       obtain ⟨h1,h2⟩:=List.mem_filter.1 hm
       refine ⟨m.f,List.mem_map.2 ⟨m,h1,rfl⟩,?_⟩
       have:(nm m.f).dropLast=p0:=by simpa [zwd] using h2
       rw [this,← zo5 hnem,List.length_map,← h0,← hpm.length_eq]
       omega
      exact ⟨none,by rw [qd2 h5 h4 h70 h8],hH34,fun h=>by rw [qd2 h5 h4 h70 h8] at h;cases h⟩
     ·have hes:∀ m ∈ x.2.1.2,zst W4.heap m:=fun m hm=>by
       have hm2:=hpm.mem_iff.1 hm
       rw [h0] at hm2
       exact Mine.ext (hN m (List.mem_filter.1 hm2).1) hH34 (by simp)
      have hne2:x.2.1.2 ≠ []:=fun h=>h0n (by rw [h] at hpm;exact hpm.nil_eq.symm)
      refine zn (l:=[]) (qoi rfl hrow4 hes hne2 (by omega)) ?_
      rintro e W5 ⟨rfl,ys,hys,hso,hm5,hx45⟩
      refine ⟨(),rfl,?_⟩
      have hii:W2.heap.size ∉ jf x.2.1.1:=fun h=>by
       obtain ⟨_,c',T',fr',hcell⟩:=zbg hrow4 _ h
       rw [hi4] at hcell;cases hcell
      have hkk:W.heap.size ∉ jf x.2.1.1:=fun h=>by have:=jc hrow4 _ h;omega
      have hi5:=hx45.get hi4 hii
      have hk5:=hx45.get hk4 hkk
      have s5:=hx45.1
      have s4:=hx34.1
      obtain ⟨K4,hK4⟩:∃ K4:KM,K4=K3.map fun z=>(z.1,(if z.2.2=x.2.2 then (z.2.1.1,ys) else z.2.1),z.2.2):=⟨_,rfl⟩
      have hvl:vl evK K4=vl evK K3:=by
       rw [hK4]
       unfold vl
       rw [List.map_map]
       apply List.map_congr_left
       intro z _
       simp only [Function.comp]
       split <;> rfl
      have hoK4:MOk (fun _=>True) K4 c2:=by rw [hK4];exact MOk.map_val hoK3 _
      have hcount:(K4.filter fun y=>!(seen.push x.2.2).contains y.2.2).length=(K3.filter fun y=>!(seen.push x.2.2).contains y.2.2).length:=by
       rw [hK4,List.filter_map,List.length_map];rfl
      refine hKk _ _ _ (by rw [hcount];exact qjl hx hns) ⟨seen.push x.2.2,c2,K4,hH34.own hx45 (fun c hc hlt=>by have:=jc hrow4 c hc;omega),by omega,by rw [hvl];exact hk5,hi5,Nat.le_refl _,hoK4,⟨hvl.trans hR3.vls,fun z hz=>?_,fun z hz=>?_,fun z hz hin=>?_⟩,rfl⟩
      ·rw [hK4] at hz
       obtain ⟨y,hy,rfl⟩:=List.mem_map.1 hz
       obtain ⟨y0,hy0,f1,f2,f3⟩:=hR3.from_ y hy
       by_cases e:y.2.2=x.2.2
       ·have hyx:y=x:=Go.Fw.born_inj hoK3 hy hx e
        subst hyx
        exact ⟨y0,hy0,f1,by simp only [if_pos];exact f2,by simp only [if_pos];exact hys.trans f3⟩
       ·exact ⟨y0,hy0,f1,by simp only [if_neg e];exact f2,by simp only [if_neg e];exact f3⟩
      ·rw [hK4] at hz
       obtain ⟨y,hy,rfl⟩:=List.mem_map.1 hz
       by_cases e:y.2.2=x.2.2
       ·have hyx:y=x:=Go.Fw.born_inj hoK3 hy hx e
        subst hyx
        simp only [if_pos]
        exact hm5
       ·simp only [if_neg e]
        have hr4:Mine W4.heap (W.heap.size+1) qm 4 y.2.1.1 (y.2.1.2.flatMap zka):=(hR3.row y hy).ext hx34 (fun b hb h=>by
         simp at h;subst h
         obtain ⟨_,c',T',fr',hcell⟩:=zbg (hR3.row y hy) _ hb
         rw [hi3] at hcell;cases hcell)
        refine hr4.ext hx45 ?_
        obtain ⟨y0,hy0,f1,f2,_⟩:=hR3.from_ y hy
        have hne1:y0.1 ≠ z0.1:=fun h=>by
         rw [f1,e1] at h
         exact e (by rw [Go.Fw.key_inj hoK3 hy hx h])
        have:=hR.apart y0 hy0 z0 hz0 hne1
        rw [f2,e2] at this
        exact this
      ·rw [hK4] at hz
       obtain ⟨y,hy,rfl⟩:=List.mem_map.1 hz
       by_cases e:y.2.2=x.2.2
       ·have hyx:y=x:=Go.Fw.born_inj hoK3 hy hx e
        subst hyx
        simp only [if_pos]
        exact ⟨by rw [hys.length_eq];omega,hso⟩
       ·simp only [if_neg e]
        refine hR3.done y hy ?_
        rcases Array.mem_push.1 hin with h | h
        ·exact h
        ·exact absurd h e
noncomputable def zc0 (L:List Fil):Int:=if za3 L ≠ 0 then za3 L else zcv L
def zl3 (L:List Fil):List (List UInt8) × List UInt8:=zcx (ziu L) 9 []
theorem zi7 {L:List Fil}:zl3 L=zcx (ziu L) 9 []:=rfl
attribute [irreducible] zl3
def z0y (pre:Int) (q:Int) (r:Bl.SM) (bl:List (List UInt8) × List UInt8) (code:Int) (d:List UInt8) (r':Bl.SM):Prop :=
 (pre ≠ 0→code=pre∧d=Bl.nought∧r'=r)∧(pre=0→Bl.zz9 q r bl.1 code r'∧d=if code=0 then bl.2 else Bl.nought)
theorem qqn:zc P ji=#[.slice none 0 0]:=by kernel_rfl
theorem qqj:zc P vg=#[.map none]:=by kernel_rfl
theorem qqg:(zc P zc3).size=1:=by kernel_rfl
theorem qrx:P.cellsOf zc3=1:=by kernel_rfl
theorem qjj {L:List Fil} (h:za3 L=0):∀ f ∈ L,f.data.length≤1024:=by
 unfold za3 at h
 split at h
 ·rename_i h1;exact absurd h h1
 ·split at h
  ·cases h
  ·split at h
   ·cases h
   ·rename_i h2
    intro f hf
    have:qig f=false:=by
     rw [← Bool.not_eq_true]
     exact fun hb=>h2 (List.any_eq_true.2 ⟨f,hf,hb⟩)
    simpa [qig] using this
theorem qgf {L:List Fil} (h:zcv L=0):¬ z4b L∧¬ qke L:=by
 unfold zcv at h
 by_cases h5:z4b L
 ·rw [if_pos h5] at h;cases h
 ·rw [if_neg h5] at h
  by_cases h4:qkq L
  ·rw [if_pos h4] at h;cases h
  ·rw [if_neg h4] at h
   by_cases h70:z2o L
   ·rw [if_pos h70] at h;cases h
   ·rw [if_neg h70] at h
    by_cases h8:qke L
    ·rw [if_pos h8] at h;cases h
    ·exact ⟨h5,h8⟩
theorem qcy {L:List Fil} (h5:¬ z4b L) (hd:∀ f ∈ L,f.data.length≤1024):(zl3 L).1.length≤1+18 * L.length:=by
 obtain ⟨hp,hr⟩:=zh8 (zkn h5).1
 have h:=qgc hr (fun f hf=>hd f (hp.mem_iff.1 hf)) 9 []
 have h2:=List.length_filter_le (fun f=>zdc (nm f) [] && decide ((([]:Path)).length < (nm f).length)) (ziu L)
 have h3:=hp.length_eq
 rw [zi7]
 omega
theorem zsg {w:World} {H:Heap} {b:Nat} {R:Array Value→World→Prop} (hw:w.heap=H) (hb:H[b]?=some (.cells (zc P zf) zf (0,0))) (hR:∀ w',Ext [b] H w'.heap→R (byteCells Bl.nought).toArray w') :
  zay P (Instr.build zf #[]) .any w fun (t:Value)=>zbs P (storeVar zf (⟨b,0,none⟩:Addr) t) w fun w2=>ldA P 32 (⟨b,0,none⟩:Addr) w2 fun t4=>R t4 w2:=by
 refine qx (s:=.any) (arr Bl.nought) (Bl.b27 _) ?_
 refine z9a Bl.zeq hw hb zcD fun w2 hw2=>?_
 have hb2:w2.heap[b]?=some (.cells (byteCells Bl.nought).toArray zf (0,0)):=by rw [hw2];exact qp hb
 refine je rfl hb2 (by simp [Bl.zeq]) ?_
 exact hR w2 (by rw [hw2];exact Ext.set _ (by simp))
set_option maxHeartbeats 1000000 in
theorem qf2 {w:World} {H:Heap} {fp:List Nat} {p:Nat} {q:Int} {r:Bl.SM} {c:Nat} {a:Option Addr} {n nc:Nat} {L:List Fil} (hw:w.heap=H) (hS:Bl.Store H fp p q r c) (hfp:∀ b ∈ fp,b < H.size) (hRo:Bl.Rounds H) (h0:0 ∉ fp)
  (hL:Cells H a (L.flatMap zbf)) (hn:n=L.length) (hm:L.length≤65536) (hb:Bl.total r < 1000000000000) (hq:0≤q) (hq2:q≤9223372036854775807) (hlen:∀ k L,Bl.zaq r k=some L→L.length < 1099511627776) :
  qg P zmf #[.pointer (some ⟨p,0,none⟩),.slice a n nc] w fun e w'=>∃ code d r' c' fp',e=.returned (.tuple #[arr d,.int .i64 code])∧d.length=32∧Bl.Store w'.heap fp' p q r' c'∧Ext fp H w'.heap∧(∀ b ∈ fp',b < w'.heap.size)∧(∀ b ∈ fp',b ∈ fp ∨ H.size≤b) ∧
   z0y (zc0 L) q r (zl3 L) code d r'∧Bl.total r'≤Bl.total r+4096 * (1+18 * L.length):=by
 refine z7g ?_
 unfold zq0
 have hpl:=hS.lt
 have hH0:0 < H.size:=by obtain ⟨_,_,_,h,_⟩:=hRo;exact lt_of_get h
 refine jw hw fun w1 hw1=>?_
 have hx1:Ext [] H w1.heap:=by rw [hw1];exact .push _
 have hd1:w1.heap[H.size]?=some (.cells (zc P zf) zf (0,0)):=by rw [hw1];exact zo
 refine jk rfl ?_
 refine zn (qmc rfl (hL.ext hx1 (by simp)) hn hm) ?_
 rintro e w3 ⟨x,rfl,hx3,h3⟩
 refine ⟨(x,za3 L),rfl,?_⟩
 have hd3:=hx3.get hd1 (by simp)
 have hx03:=hx1.trans hx3
 have hn0:∀ {w':World} {H':Heap},H.size≤H'.size→Ext [] H H'→Ext [H.size] H' w'.heap→Ext fp H w'.heap:=fun _ hxa hxb=>(hxa.mono (by simp)).own hxb (fun c hc hlt=>by simp at hc;omega)
 have bad:∀ {H':Heap} {w':World} {code:Int},code ≠ 0→zc0 L=code→Ext [] H H'→Ext [H.size] H' w'.heap→∃ code' d r' c' fp',Ending.returned (.tuple #[arr Bl.nought,.int .i64 code])=.returned (.tuple #[arr d,.int .i64 code'])∧d.length=32∧Bl.Store w'.heap fp' p q r' c'∧Ext fp H w'.heap∧(∀ b ∈ fp',b < w'.heap.size)∧(∀ b ∈ fp',b ∈ fp ∨ H.size≤b) ∧
   z0y (zc0 L) q r (zl3 L) code' d r'∧Bl.total r'≤Bl.total r+4096 * (1+18 * L.length):=by
  intro H' w' code h0' hc hxa hxb
  have hxx:Ext fp H w'.heap:=(hxa.mono (by simp)).own hxb (fun c hc hlt=>by simp at hc;omega)
  have hsz:=hxx.1
  refine ⟨code,Bl.nought,r,c,fp,rfl,Bl.zeq,(hS.ext hxa (by simp)).ext hxb (fun b hb h=>by simp at h;have:=hfp b hb;omega),hxx,fun b hb=>by have:=hfp b hb;omega,fun b hb=>.inl hb,⟨fun _=>⟨hc.symm,rfl,rfl⟩,fun h=>absurd (hc.symm.trans h) h0'⟩,by omega⟩
 refine zam (fun hc=>?_) (fun hc=>?_)
 ·exact zsg rfl hd3 fun w4 hx4=>bad hc (by simp only at hc;rw [zc0,if_pos hc]) hx03 hx4
 simp only at hc
 have hchk:zc0 L=zcv L:=by rw [zc0,if_neg (by simpa using hc)]
 obtain ⟨ms,rfl,hm3,hN3⟩:=h3 hc
 simp only [List.length_map] at *
 have hxl:x.2.1=ms.length:=by
  have:=hm3.len
  rw [qj zka ziw] at this
  omega
 refine zn (ql6 (ms:=ms) rfl hm3.cells hxl hm hN3) ?_
 rintro e w5 ⟨v,rfl,hx5,h5⟩
 refine ⟨(v,zcv (ms.map (·.f))),rfl,?_⟩
 have hx05:=hx03.trans hx5
 have hd5:=hx5.get hd3 (by simp)
 refine jw rfl fun w6 hw6=>?_
 have hx6:Ext [] w5.heap w6.heap:=by rw [hw6];exact .push _
 have hb6:w6.heap[w5.heap.size]?=some (.cells #[.map none] vg (0,0)):=by rw [hw6,qqj];exact zo
 refine zbp rfl hb6 (by simp) fun w7 hw7=>?_
 have hx7:Ext [] w5.heap w7.heap:=by rw [hw7];exact hx6.set_own (.inl (Nat.le_refl _))
 have hb7:w7.heap[w5.heap.size]?=some (.cells #[.map v] vg (0,0)):=by rw [hw7];exact qp hb6
 have hx07:=hx05.trans hx7
 have hd7:=hx7.get hd5 (by simp)
 refine zam (fun hs=>?_) (fun hs=>?_)
 ·exact zsg rfl hd7 fun w8 hx8=>bad hs hchk hx07 hx8
 simp only at hs
 obtain ⟨mk,rfl,hK5⟩:=h5 hs
 obtain ⟨n5,n8⟩:=qgf hs
 have hdl:=qjj hc
 obtain ⟨hperm,hrise⟩:=zh8 (zkn n5).1
 refine jw rfl fun w9 hw9=>?_
 have hx9:Ext [] w7.heap w9.heap:=by rw [hw9];exact .push _
 have hb9:w9.heap[w7.heap.size]?=some (.cells #[zck (none,0,0)] ji (0,0)):=by rw [hw9,qqn];exact zo
 refine jw rfl fun w10 hw10=>?_
 have hx10:Ext [] w9.heap w10.heap:=by rw [hw10];exact .push _
 have hf10:w10.heap[w9.heap.size]?=some (.cells (zc P zc3) zc3 (0,0)):=by rw [hw10];exact zo
 refine qx (s:=.any) (zya w5.heap.size w9.heap.size w7.heap.size) rfl ?_
 have s1:=lt_of_get hd1
 have s5:=hx03.1
 have s6:=lt_of_get hb7
 have s9:=lt_of_get hb9
 have s10:=lt_of_get hf10
 have sx5:=hx5.1
 have sx3:=hx3.1
 have hx010:=(hx07.trans hx9).trans hx10
 refine zbw (v:=zya w5.heap.size w9.heap.size w7.heap.size) (by rw [qrx];rfl) (by simp [Value.cells,zya]) (by intro v hv;simp [Value.cells,zya] at hv;subst hv;rfl) rfl hf10 (by rw [qqg];simp [Value.cells,zya]) fun w11 hw11=>?_
 have hset:setCells (zc P zc3) 0 (zya w5.heap.size w9.heap.size w7.heap.size).cells.toList=#[zya w5.heap.size w9.heap.size w7.heap.size]:=by
  rw [zax (by rw [qqg];rfl)];rfl
 rw [hset] at hw11
 have hx1011:Ext [w9.heap.size] w10.heap w11.heap:=by rw [hw11];exact Ext.set _ (by simp)
 have hx911:Ext [] w9.heap w11.heap:=by rw [hw11];exact hx10.set_own (.inl (Nat.le_refl _))
 have hf11:w11.heap[w9.heap.size]?=some (.cells #[zya w5.heap.size w9.heap.size w7.heap.size] zc3 (0,0)):=by rw [hw11];exact qp hf10
 refine jg (s:=.any) (t:=zya w5.heap.size w9.heap.size w7.heap.size) rfl hf11 rfl ?_
 have hx711:=hx9.trans hx911
 have hx511:=hx7.trans hx711
 have hx011:=hx05.trans hx511
 have hD11:DirSt w11.heap w5.heap.size w9.heap.size w7.heap.size mk w11.heap.size (ziu (ms.map (·.f))) (none,0,0) [] :=
  ⟨hx711.get hb7 (by simp),hf11,hx911.get hb9 (by simp),hK5.keep hx511 (by simp),.nil,hRo.ext hx011 (by simp),by omega⟩
 have s11:=hx911.1
 have hlen1:=qcy n5 hdl
 simp only [List.length_map] at hlen1
 refine zsb (args:=#[.string (strOf (vk []))]) ?_
 refine (z09 (ziu (ms.map (·.f))) (fun f hf=>hdl f (hperm.mem_iff.1 hf)) hrise (fun p=>qmm n5 n8 p) 9 (w:=w11) (p:=[]) rfl hD11 (by omega) (Nat.le_refl _) (by simp [okP]) (by simp) (by rw [zi7] at hlen1;rw [List.length_nil];omega)).mono ?_
 rintro e w12 ⟨x2,rfl,hD12,hx12,hs12⟩
 rw [← zi7] at hD12 ⊢
 have h32:(zl3 (ms.map (·.f))).2.length=32:=by rw [zi7];exact zgs
 generalize zl3 (ms.map (·.f))=T at *
 refine ⟨arr T.2,rfl,?_⟩
 have hbl:zbc w12.heap w11.heap.size x2 T.1:=hD12.blobs
 refine jw rfl fun w13 hw13=>?_
 have hx13:Ext [] w12.heap w13.heap:=by rw [hw13];exact .push _
 have hd13:w13.heap[w12.heap.size]?=some (.cells (zc P zf) zf (0,0)):=by rw [hw13];exact zo
 refine z9a (k:=T.2) h32 rfl hd13 zcD fun w14 hw14=>?_
 have hx14:Ext [] w12.heap w14.heap:=by rw [hw14];exact hx13.set_own (.inl (Nat.le_refl _))
 have hd14:w14.heap[w12.heap.size]?=some (.cells (byteCells T.2).toArray zf (0,0)):=by rw [hw14];exact qp hd13
 refine jg (s:=.slc) (t:=x2) rfl (hx14.get hD12.b (by simp)) rfl ?_
 have hx012:Ext [] H w12.heap:=hx011.own hx12 (fun b hb hlt=>by
  rcases List.mem_cons.1 hb with h | h
  ·omega
  ·simp [jf] at h)
 have hx014:=hx012.trans hx14
 have s12:=hx12.1
 have s14:=hx14.1
 have hS14:=hS.ext hx014 (by simp)
 have htot:Bl.total r+4096 * T.1.length < 1125899906842624:=by omega
 refine zn (Bl.qlq rfl hS14 (fun b hb=>by have:=hfp b hb;have:=hx014.1;omega) (hRo.ext hx014 (by simp)) h0 ((hbl.ext hx14 (by simp)).rows) htot hq hq2 hlen) ?_
 rintro e w15 ⟨code,r',c',fp',rfl,hS15,hx15,hf1,hf2,hP,ht⟩
 refine ⟨code,rfl,?_⟩
 have s014:=hx014.1
 have nfp:∀ {b:Nat},H.size≤b→b ∉ fp:=fun h hb=>by have:=hfp _ hb;omega
 have hd14':w14.heap[H.size]?=some (.cells (zc P zf) zf (0,0)):=hx14.get (hx12.get (hx711.get hd7 (by simp)) (by simp [jf];omega)) (by simp)
 have hd15:=hx15.get hd14' (nfp (Nat.le_refl _))
 have he15:=hx15.get hd14 (nfp (by omega))
 have hx015:Ext fp H w15.heap:=(hx014.mono (by simp)).trans hx15
 have s15:=hx15.1
 have fin:∀ {w':World} {d:List UInt8},Ext [H.size] w15.heap w'.heap→d.length=32→d=(if code=0 then T.2 else Bl.nought)→∃ code' d' r'' c'' fp'',Ending.returned (.tuple #[arr d,.int .i64 code])=.returned (.tuple #[arr d',.int .i64 code'])∧d'.length=32∧Bl.Store w'.heap fp'' p q r'' c''∧Ext fp H w'.heap∧(∀ b ∈ fp'',b < w'.heap.size)∧(∀ b ∈ fp'',b ∈ fp ∨ H.size≤b) ∧
   z0y (zc0 (ms.map (·.f))) q r T code' d' r''∧Bl.total r''≤Bl.total r+4096 * (1+18 * ms.length):=by
  intro w' d hxb hdl' hd'
  have s':=hxb.1
  refine ⟨code,d,r',c',fp',rfl,hdl',hS15.ext hxb (fun b hb h=>?_),hx015.own hxb (fun c hc hlt=>by simp at hc;omega),fun b hb=>by have:=hf1 b hb;omega,fun b hb=>?_,⟨fun h=>absurd (hchk.trans hs) h,fun _=>⟨hP,hd'⟩⟩,by omega⟩
  ·simp at h;subst h
   rcases hf2 _ hb with h | h
   ·exact nfp (Nat.le_refl _) h
   ·omega
  ·rcases hf2 _ hb with h | h
   ·exact .inl h
   ·right;omega
 refine zam (fun h1=>?_) (fun h1=>?_)
 ·exact zsg rfl hd15 fun w16 hx16=>fin hx16 Bl.zeq (by rw [if_neg h1])
 ·refine je rfl he15 (by simp [h32]) ?_
  refine z9a (k:=T.2) h32 rfl hd15 zcD fun w17 hw17=>?_
  have hx17:Ext [H.size] w15.heap w17.heap:=by rw [hw17];exact Ext.set _ (by simp)
  have hd17:w17.heap[H.size]?=some (.cells (byteCells T.2).toArray zf (0,0)):=by rw [hw17];exact qp hd15
  refine je rfl hd17 (by simp [h32]) ?_
  subst h1
  exact fin hx17 h32 (by rw [if_pos rfl])
theorem qhv {D:List UInt8} (hD:D.length≤1024):∀ L ∈ zhp D,L.length≤10000000000:=by
 intro L hL
 rcases List.mem_append.1 hL with h | h
 ·obtain ⟨j,_,rfl⟩:=List.mem_map.1 h
  have:=zqh (D:=D) (j:=j)
  omega
 ·simp only [List.mem_singleton] at h
  subst h
  have:=ztz (D:=D) (k:=npc D) (by unfold npc;omega)
  omega
theorem qao {S:List Fil} (hd:∀ f ∈ S,f.data.length≤1024) (hSl:S.length≤65536):∀ (n:Nat) (p:Path),p.length+n=9→∀ L ∈ (zcx S n p).1,L.length≤10000000000
 | 0,p,_,L,hL=>by simp [zcx] at hL
 | n+1,p,hn,L,hL=>by
  simp only [zcx,List.mem_append,List.mem_singleton] at hL
  rcases hL with h | rfl
  ·rw [zk1] at h
   obtain ⟨b,hb,hLb⟩:=List.mem_flatten.1 h
   obtain ⟨f,hf,rfl⟩:=List.mem_map.1 hb
   obtain ⟨h1,h2,h3⟩:=zge hf
   unfold zq8 at hLb
   by_cases hfd:f.dir
   ·rw [if_pos hfd] at hLb
    exact qao hd hSl n (nm f) (by
     have:=congrArg List.length h3
     have h4:0 < (nm f).length:=List.length_pos_iff.2 h2
     simp at this;omega) L hLb
   ·rw [if_neg hfd] at hLb
    exact qhv (hd f h1) L hLb
  ·have hkm:∀ f ∈ kids S p,nm f ≠ []∧(nm f).dropLast=p:=fun f hf=>(zge hf).2
   exact z6u (z1w (rec:=zcx S n) (fun f hf=>(hkm f hf).1) (Nat.le_trans (List.length_filter_le _ _) hSl)) (qkj (S:=S) hn hkm)
theorem qh1 {L:List Fil} (h5:¬ z4b L) (hd:∀ f ∈ L,f.data.length≤1024) (hL:L.length≤65536):∀ b ∈ (zl3 L).1,b.length≤10000000000:=by
 obtain ⟨hp,hr⟩:=zh8 (zkn h5).1
 rw [zi7]
 exact qao (fun f hf=>hd f (hp.mem_iff.1 hf)) (by rw [hp.length_eq];exact hL) 9 [] rfl
theorem qph {w:World} {H H0:Heap} {fp:List Nat} {p bd:Nat} {q:Int} {r:Bl.SM} {x:Option Addr × Nat × Nat} {T:List (List UInt8) × List UInt8} {B:Nat} (hw:w.heap=H) (hx0:Ext [] H0 H) (hS:Bl.zdx H0 fp p q r) (hfp:∀ b ∈ fp,b < H0.size) (hbd:H0.size≤bd)
  (hd:H[bd]?=some (.cells (zc P zf) zf (0,0))) (hbl:zbc H B x T.1) (h32:T.2.length=32) (hl:∀ L ∈ T.1,L.length≤10000000000)
  (hb:Bl.total r < 1000000000000) (hTl:T.1.length≤200000000) (hn:r.length < 100000000000) (hq:0≤q) (hq2:q≤9223372036854775807) (hlen:∀ x ∈ r,x.2.1.2.length < 1099511627776) {R:Ending→World→Prop}
  (hR:∀ code d r' fp' w',d.length=32→Bl.zdx w'.heap fp' p q r'→Ext fp H0 w'.heap→(∀ b ∈ fp',b < w'.heap.size)→(∀ b ∈ fp',b ∈ fp ∨ H0.size≤b)→Bl.zz9 q r T.1 code r'→d=(if code=0 then T.2 else Bl.nought)→r'.length≤r.length+T.1.length→Bl.total r'≤Bl.total r+4096 * T.1.length→(∀ x ∈ r',x.2.1.2.length < 1099511627776)→R (.returned (.tuple #[arr d,.int .i64 code])) w') :
  zbj (zc P zf) zf w fun b9 w_5 =>
  zbs P (storeVar zf (⟨b9,0,none⟩:Addr) (arr T.2)) w_5 fun w_6 =>
  qy P zfi #[(Value.pointer (some ⟨p,0,none⟩)),(Value.slice x.1 x.2.1 x.2.2)] [.int .i64] false w_6 fun (t26:Int) w_7 =>
  xg (t26 != 0) (
  zay P (Instr.build zf #[]) .any w_7 fun (t29:Value) =>
  zbs P (storeVar zf (⟨bd,0,none⟩:Addr) t29) w_7 fun w_8 =>
  ldA P 32 (⟨bd,0,none⟩:Addr) w_8 fun t4_1 =>
  R (.returned (Value.tuple #[(Value.agg t4_1),(Value.int .i64 t26)])) w_8) (
  ldA P 32 (⟨b9,0,none⟩:Addr) w_7 fun t31 =>
  zbs P (storeVar zf (⟨bd,0,none⟩:Addr) (Value.agg t31)) w_7 fun w_9 =>
  ldA P 32 (⟨bd,0,none⟩:Addr) w_9 fun t4_2 =>
  R (.returned (Value.tuple #[(Value.agg t4_2),(Value.int .i64 0)])) w_9):=by
 subst hw
 refine jw rfl fun w13 hw13=>?_
 have hx13:Ext [] w.heap w13.heap:=by rw [hw13];exact .push _
 have hd13:w13.heap[w.heap.size]?=some (.cells (zc P zf) zf (0,0)):=by rw [hw13];exact zo
 refine z9a (k:=T.2) h32 rfl hd13 zcD fun w14 hw14=>?_
 have hx14:Ext [] w.heap w14.heap:=by rw [hw14];exact hx13.set_own (.inl (Nat.le_refl _))
 have hd14:w14.heap[w.heap.size]?=some (.cells (byteCells T.2).toArray zf (0,0)):=by rw [hw14];exact qp hd13
 have hx014:=hx0.trans hx14
 have s0:=hx0.1
 have s14:=hx14.1
 have hbl2:=lt_of_get hd
 have hS14:=hS.ext hx014 (by simp)
 refine zn (Bl.qi4 rfl hS14 (fun b hb=>by have:=hfp b hb;have:=hx014.1;omega) ((hbl.ext hx14 (by simp)).rows) (by omega) (by omega) hq hq2 hlen (fun L hL=>by have:=hl L hL;omega)) ?_
 rintro e w15 ⟨code,r',fp',rfl,hS15,hx15,hf,hP,hl1,hl2,hl3⟩
 refine ⟨code,rfl,?_⟩
 have nfp:∀ {b:Nat},H0.size≤b→b ∉ fp:=fun h hb=>by have:=hfp _ hb;omega
 have hd15:=hx15.get (hx14.get hd (by simp)) (nfp hbd)
 have he15:=hx15.get hd14 (nfp s0)
 have hx015:Ext fp H0 w15.heap:=(hx014.mono (by simp)).trans hx15
 have s15:=hx15.1
 have fin:∀ {w':World} {d:List UInt8},Ext [bd] w15.heap w'.heap→d.length=32→d=(if code=0 then T.2 else Bl.nought)→R (.returned (.tuple #[arr d,.int .i64 code])) w':=by
  intro w' d hxb hdl' hd'
  have s':=hxb.1
  refine hR code d r' fp' w' hdl' (hS15.ext hxb (fun b hb h=>?_)) (hx015.own hxb (fun c hc hlt=>by simp at hc;omega)) (fun b hb=>?_) (fun b hb=>?_) hP hd' hl1 hl2 hl3
  ·simp at h;subst h
   rcases hf _ hb with h | h
   ·exact nfp hbd h
   ·omega
  ·rcases hf _ hb with h | h
   ·have:=hfp _ h;omega
   ·omega
  ·rcases hf _ hb with h | h
   ·exact .inl h
   ·right;omega
 refine zam (fun h1=>?_) (fun h1=>?_)
 ·exact zsg rfl hd15 fun w16 hx16=>fin hx16 Bl.zeq (by rw [if_neg h1])
 ·refine je rfl he15 (by simp [h32]) ?_
  refine z9a (k:=T.2) h32 rfl hd15 zcD fun w17 hw17=>?_
  have hx17:Ext [bd] w15.heap w17.heap:=by rw [hw17];exact Ext.set _ (by simp)
  have hd17:w17.heap[bd]?=some (.cells (byteCells T.2).toArray zf (0,0)):=by rw [hw17];exact qp hd15
  refine je rfl hd17 (by simp [h32]) ?_
  subst h1
  exact fin hx17 h32 (by rw [if_pos rfl])
def qsc (H:Heap) (fp:List Nat) (p:Nat) (q:Int) (r:Bl.SM) (pre:Int) (T:List (List UInt8) × List UInt8) (k:Nat) (e:Ending) (w':World):Prop :=
 ∃ code d r' fp',e=.returned (.tuple #[arr d,.int .i64 code])∧d.length=32∧Bl.zdx w'.heap fp' p q r'∧Ext fp H w'.heap∧(∀ b ∈ fp',b < w'.heap.size)∧(∀ b ∈ fp',b ∈ fp ∨ H.size≤b) ∧
   z0y pre q r T code d r'∧r'.length≤r.length+k∧Bl.total r'≤Bl.total r+4096 * k∧∀ x ∈ r',x.2.1.2.length < 1099511627776
theorem qi8 {T E:TypeId} {sz:Nat} {H:Heap} {a:Option Addr} {l c:Nat} {vs:List Value} {i:Nat} {n:Int} (hu:P.underlying T=some (.slice E)) (hs:(P.info? E).map (·.size)=some sz) (hL:Cells H a vs) (hc:l≤c) (hi:i≤l) (hn:n=(i:Int)) :
  ∃ a',(∀ w,(Instr.sliceAt T (.slice a l c) none (some (.int .i64 n)) none).run P w=.ok (.slice a' i c) w)∧Cells H a' (vs.take (i * sz)):=by
 refine ⟨_,fun w=>zaw (l:=0) (h:=i) hu hs .no (.yes hn) (Nat.zero_le _) (by omega),?_⟩
 by_cases h:c=0
 ·rw [if_pos h];exact hL.take _
 ·rw [if_neg h,Nat.zero_mul]
  have:=hL.part 0 vs.length (by omega)
  simp only [List.drop_zero,List.take_length] at this
  exact this.take _
theorem qmw {T E:TypeId} {sz:Nat} {H:Heap} {a:Option Addr} {l c:Nat} {vs:List Value} {i:Nat} {n:Int} (hu:P.underlying T=some (.slice E)) (hs:(P.info? E).map (·.size)=some sz) (hL:Cells H a vs) (hv:vs.length=l * sz) (hc:l≤c) (hi:i≤l) (hn:n=(i:Int)) :
  ∃ a',(∀ w,(Instr.sliceAt T (.slice a l c) (some (.int .i64 n)) none none).run P w=.ok (.slice a' (l - i) (c - i)) w)∧Cells H a' (vs.drop (i * sz)):=by
 refine ⟨_,fun w=>zaw (l:=i) (h:=l) hu hs (.yes hn) .no (by omega) (by omega),?_⟩
 by_cases h:c=i
 ·left
  rw [List.drop_eq_nil_of_le]
  rw [hv,show l=i by omega];exact Nat.le_refl _
 ·rw [if_neg h]
  have h1:i * sz≤l * sz:=Nat.mul_le_mul_right _ hi
  have:=hL.part (i * sz) (vs.length - i * sz) (by omega)
  rwa [List.take_of_length_le (by simp)] at this
theorem uFs:P.underlying zu=some (.slice zl):=by kernel_rfl
theorem qsa:(P.info? zl).map (·.size)=some 3:=by kernel_rfl
theorem EFi:Elem P zl 3 40:=zno (z:=.agg #[.string .empty,.bool false,.string .empty]) (by kernel_rfl) rfl
theorem qq4:P.underlying zcj=some (.slice qw):=by kernel_rfl
theorem qq7:(P.info? qw).map (·.size)=some 1:=by kernel_rfl
theorem z3l (S:List Fil):(S.flatMap zbf).length=S.length * 3:=by rw [qj zbf zba]
theorem qri {S:List Fil}:zc2 (S.flatMap zbf):=by
 intro v hv
 obtain ⟨i,_,hi⟩:=List.mem_flatMap.1 hv
 exact zva v hi
theorem qp1 {S:List Fil} {i:Nat} (hi:i≤S.length):(S.flatMap zbf).take (i * 3)=(S.take i).flatMap zbf:=by
 have h1:S.flatMap zbf=(S.take i).flatMap zbf++(S.drop i).flatMap zbf:=by rw [← List.flatMap_append,List.take_append_drop]
 have h2:((S.take i).flatMap zbf).length=i * 3:=by rw [z3l,List.length_take,Nat.min_eq_left hi]
 rw [h1,List.take_left' h2]
theorem qpi {S:List Fil} {i:Nat} (hi:i≤S.length):(S.flatMap zbf).drop (i * 3)=(S.drop i).flatMap zbf:=by
 have h1:S.flatMap zbf=(S.take i).flatMap zbf++(S.drop i).flatMap zbf:=by rw [← List.flatMap_append,List.take_append_drop]
 have h2:((S.take i).flatMap zbf).length=i * 3:=by rw [z3l,List.length_take,Nat.min_eq_left hi]
 rw [h1,List.drop_left' h2]
theorem qsv {w:World} {H:Heap} (hw:w.heap=H) {K:(Option Addr × Nat × Nat)→World→Prop} (hK:∀ w',Ext [] H w'.heap→Mine w'.heap H.size zl 3 (some ⟨H.size,0,none⟩,0,0) (([]:List Fil).flatMap zbf)→K (some ⟨H.size,0,none⟩,0,0) w'):zaf P (Instr.buildSlice zu 0 #[]) .slc w K:=by
 refine zae (s:=.slc) (some ⟨H.size,0,none⟩,0,0) { w with heap:=H.push (.cells #[] zl) } (by rw [← hw];kernel_rfl) ?_
 exact hK _ (.push _) (.inr ⟨H.size,#[],rfl,Nat.le_refl _,zo,rfl,rfl,Nat.le_refl _,rfl⟩)
theorem qrg {w:World} {H:Heap} {B:Nat} {x:Option Addr × Nat × Nat} {a:Option Addr} {l c:Nat} {xs ys:List Fil} (hw:w.heap=H) (hx:Mine H B zl 3 x (xs.flatMap zbf)) (hB:B≤H.size) (hL:Cells H a (ys.flatMap zbf)) (hl:l=ys.length) (hlen:xs.length+ys.length≤1099511627) {K:(Option Addr × Nat × Nat)→World→Prop}
  (hK:∀ x' w',Mine w'.heap B zl 3 x' ((xs++ys).flatMap zbf)→Ext (jf x) H w'.heap→K x' w'):zaf P (Builtin.append_ #[zu,zu] zu #[.slice x.1 x.2.1 x.2.2,.slice a l c]) .slc w K:=by
 have hxl:x.2.1=xs.length:=by have:=hx.len;rw [z3l] at this;omega
 refine zcf EFi (by omega) uFs (za4 uFs) hw hx hB (Src.slc hw hL (by rw [z3l,hl])) qri (by omega) ?_
 intro x' w' hm hl' hx' hs
 refine hK x' w' ?_ hx'
 rw [List.flatMap_append];exact hm
theorem qre {w:World} {H:Heap} (f:Fil) (hw:w.heap=H) {K:(Option Addr × Nat × Nat)→World→Prop} (hK:∀ a w',Ext [] H w'.heap→Cells w'.heap a ([f].flatMap zbf)→K (a,1,1) w'):zaf P (Instr.buildSlice zu 1 #[(0,.agg (zbf f).toArray)]) .slc w K:=by
 refine zae (s:=.slc) (some ⟨w.heap.size,0,none⟩,1,1) _ (zd7 EFi uFs (v:=.agg (zbf f).toArray) (by simp [Value.cells,zba]) (by omega) (by omega)) ?_
 exact hK _ _ (by rw [← hw];exact .push _) (.inr ⟨w.heap.size,0,_,_,_,rfl,zo,by simp [Value.cells,zbf],by simp [Value.cells,zbf]⟩)
theorem qk6:∀ {S:List Fil} {f:Fil} {i:Nat},i≤S.length→(∀ g ∈ S.take i,zf9 (nm g) (nm f) < 0)→(∀ g,S[i]?=some g→¬ zf9 (nm g) (nm f) < 0)→z5u S f=S.take i++f :: S.drop i
 | [],f,i,_,_,_=>by simp [z5u]
 | g :: S,f,0,_,_,h2=>by
  unfold z5u
  rw [if_neg (h2 g rfl)];rfl
 | g :: S,f,i+1,hi,h1,h2=>by
  unfold z5u
  rw [if_pos (h1 g (by simp)),qk6 (by simpa using hi) (fun x hx=>h1 x (by simp [hx])) (fun x hx=>h2 x (by simpa using hx))]
  rfl
set_option maxHeartbeats 4000000 in
theorem qji {w:World} {H:Heap} {x:Option Addr × Nat × Nat} {S:List Fil} {f:Fil} (hw:w.heap=H) (hL:Cells H x.1 (S.flatMap zbf)) (hl:x.2.1=S.length) (hc:x.2.1≤x.2.2) (hS:S.length≤1000000) :
  qg P zl9 #[.slice x.1 x.2.1 x.2.2,.agg (zbf f).toArray] w fun e w'=>∃ x',e=.returned (zck x')∧Mine w'.heap H.size zl 3 x' ((z5u S f).flatMap zbf)∧Ext [] H w'.heap:=by
 refine z7d ?_
 unfold zrl
 refine jw hw fun w1 hw1=>?_
 have hx1:Ext [] H w1.heap:=by rw [hw1];exact .push _
 have hb1:w1.heap[H.size]?=some (.cells (zbf f).toArray zl (0,0)):=by rw [hw1];exact zo
 refine joinP_of (fun (s:Int) W=>∃ i:Nat,s=(i:Int)∧i≤S.length∧(∀ g ∈ S.take i,zf9 (nm g) (nm f) < 0)∧(∀ g,S[i]?=some g→¬ zf9 (nm g) (nm f) < 0)∧Ext [] w1.heap W.heap) ?_ ?_
 ·refine jd (fun (s:Int) W=>∃ i:Nat,s=(i:Int)∧i≤S.length∧(∀ g ∈ S.take i,zf9 (nm g) (nm f) < 0)∧Ext [] w1.heap W.heap) (fun s _=>(S.length - s).toNat) ⟨0,rfl,Nat.zero_le _,by simp,.refl _ _⟩ ?_
  rintro _ W ⟨i,rfl,hi,hlo,hxW⟩
  refine joinP_of (fun _ W'=>i < S.length∧(∀ g ∈ S.take (i+1),zf9 (nm g) (nm f) < 0)∧Ext [] w1.heap W'.heap) ?_ ?_
  rotate_left
  ·rintro _ W' ⟨g1,g2,g3⟩
   refine xk ((i+1:Nat):Int) (by simp) (by omega) (by omega) ?_
   exact ⟨⟨i+1,rfl,by omega,g2,g3⟩,by omega⟩
  refine jq rfl fun w3 hw3=>?_
  have hxW3:Ext [] w1.heap w3.heap:=by rw [hw3];exact hxW
  have hb3:=hxW3.get hb1 (by simp)
  refine zq (fun hlt=>?_) (fun hge=>?_)
  ·have hil:i < S.length:=by omega
   have hget:=List.getElem?_eq_getElem hil
   generalize S[i]=g at hget
   refine Bl.zb8 (i:=i) zba (by omega) (hL.ext (hx1.trans hxW3) (by simp)) hl hget rfl fun b o c T fr _ hb hsz hcc _=>?_
   refine jg (s:=.str) (t:=strOf g.path) rfl hb (hcc 0 (by omega)) ?_
   refine jg (s:=.str) (t:=strOf f.path) rfl hb3 rfl ?_
   refine zn (z8e g.path rfl) ?_
   rintro e w4 ⟨y,rfl,hm4,hx4⟩
   refine ⟨y,rfl,⟨jg (s:=.str) (o:=0) (t:=strOf f.path) (K:=fun z=>Value.string z=Value.string (strOf f.path)) rfl (hx4.get hb3 (by simp)) rfl rfl,?_⟩⟩
   refine zn (z8e f.path rfl) ?_
   rintro e w5 ⟨z,rfl,hm5,hx5⟩
   refine ⟨z,rfl,?_⟩
   have hm4:Mine w4.heap w3.heap.size qc 1 y (strRow (nm g)):=hm4
   have hm5:Mine w5.heap w4.heap.size qc 1 z (strRow (nm f)):=hm5
   have hyl:y.2.1=(nm g).length:=by have:=hm4.len;simp at this;omega
   have hzl:z.2.1=(nm f).length:=by have:=hm5.len;simp at this;omega
   have h8:=(zl2 g).2
   refine zn (z5q rfl (hm4.ext hx5 (by simp)).cells hyl hm5.cells hzl (by omega)) ?_
   rintro e w6 ⟨rfl,hw6⟩
   refine ⟨zf9 (nm g) (nm f),rfl,?_⟩
   have hx6:Ext [] w1.heap w6.heap:=by rw [hw6];exact (hxW3.trans hx4).trans hx5
   refine zq (fun h=>?_) (fun h=>?_)
   ·exact ⟨hil,zea hget hlo h,hx6⟩
   ·exact ⟨i,rfl,hi,hlo,fun g' hg'=>by rw [hget] at hg';cases hg';exact h,hx6⟩
  ·refine ⟨rfl,i,rfl,hi,hlo,fun g hg=>?_,hxW3⟩
   have:=(List.getElem?_eq_some_iff.1 hg).1
   omega
 ·rintro _ W ⟨i,rfl,hi,hlo,hhi,hxW⟩
  have hx:=hx1.trans hxW
  have hLW:=hL.ext hx (by simp)
  refine qsv rfl fun w9 hx9 hm9=>?_
  obtain ⟨a1,r1,c1⟩:=qi8 (T:=zu) (l:=x.2.1) (c:=x.2.2) (i:=i) uFs qsa (hLW.ext hx9 (by simp)) hc (by omega) rfl
  refine qx (s:=.slc) (a1,i,x.2.2) (r1 _) ?_
  rw [qp1 hi] at c1
  refine qrg (ys:=S.take i) rfl hm9 (by have:=hx9.1;omega) c1 (by simp;omega) (by simp;omega) fun x3 w10 hm10 hx10=>?_
  have h0:∀ b ∈ jf (some (⟨W.heap.size,0,none⟩:Addr),0,0),W.heap.size≤b:=by simp [jf]
  have s9:=hx9.1
  have s10:=hx10.1
  have sW:=hx.1
  have lb1:=lt_of_get hb1
  have sxW:=hxW.1
  have hx910:Ext [] W.heap w10.heap:=hx9.own hx10 (fun c hc hlt=>by have:=h0 c hc;omega)
  have hb10:=hx910.get (hxW.get hb1 (by simp)) (by simp)
  refine je rfl hb10 rfl ?_
  refine qre f rfl fun a2 w11 hx11 hc11=>?_
  have hx911:=hx910.trans hx11
  refine qrg (ys:=[f]) rfl (hm10.ext hx11 (by simp)) (by have:=hx11.1;omega) hc11 rfl (by simp;omega) fun x4 w12 hm12 hx12=>?_
  have g3:=jc hm10
  have hx912:Ext [] W.heap w12.heap:=hx911.own hx12 (fun c hc hlt=>by have:=g3 c hc;omega)
  obtain ⟨a3,r3,c3⟩:=qmw (T:=zu) (l:=x.2.1) (c:=x.2.2) (i:=i) uFs qsa (hLW.ext hx912 (by simp)) (by rw [z3l,hl]) hc (by omega) rfl
  refine qx (s:=.slc) (a3,x.2.1 - i,x.2.2 - i) (r3 _) ?_
  rw [qpi hi] at c3
  refine qrg (ys:=S.drop i) rfl hm12 (by have:=hx12.1;have:=hx11.1;omega) c3 (by simp;omega) (by simp;omega) fun x5 w13 hm13 hx13=>?_
  have g4:=jc hm12
  have hx913:Ext [] W.heap w13.heap:=hx912.own hx13 (fun c hc hlt=>by have:=g4 c hc;omega)
  refine ⟨x5,rfl,?_,hx.trans hx913⟩
  rw [qk6 hi hlo hhi]
  have e:([]++S.take i++[f]++S.drop i)=S.take i++f :: S.drop i:=by simp
  rw [e] at hm13
  exact hm13.mono sW
abbrev NR:=(Option Addr × Nat × Nat) × Path
def encR (y:NR):List Value:=[zck y.1]
theorem qfq (y:NR):(encR y).length=1:=rfl
theorem qfc (ys:List NR):ys.flatMap encR=ys.map fun y=>zck y.1:=by
 induction ys with
 | nil=>rfl
 | cons y ys ih=>rw [List.flatMap_cons,ih];rfl
def z9g (H:Heap) (y:NR):Prop:=Mine H 0 qc 1 y.1 (strRow y.2)
theorem qfh {w:World} {H:Heap} {a b:Option Addr} {n nc m mc:Nat} {ys:List NR} {p:Path} (hw:w.heap=H) (hL:Cells H a (ys.flatMap encR)) (hn:n=ys.length) (hy:∀ y ∈ ys,z9g H y) (h8:∀ y ∈ ys,y.2.length≤8) (hys:ys.length≤65536) (hp:Cells H b (strRow p)) (hm:m=p.length) :
  qg P zik #[.slice a n nc,.slice b m mc] w fun e w'=>w'.heap=H∧((e=.returned (.int .i64 (-1))∧∀ y ∈ ys,y.2 ≠ p) ∨ ∃ (i:Nat) (y:NR),e=.returned (.int .i64 (i:Int))∧ys[i]?=some y∧y.2=p):=by
 refine qby ?_
 unfold zs4
 refine jd (fun (s:Int) W=>∃ i:Nat,s=(i:Int)∧i≤ys.length∧(∀ y ∈ ys.take i,y.2 ≠ p)∧W.heap=H) (fun s _=>(ys.length - s).toNat) ⟨0,rfl,Nat.zero_le _,by simp,hw⟩ ?_
 rintro _ W ⟨i,rfl,hi,hno,hW⟩
 refine zq (fun hlt=>?_) (fun hge=>?_)
 ·have hil:i < ys.length:=by omega
  have hget:=List.getElem?_eq_getElem hil
  have hmem:ys[i] ∈ ys:=List.getElem_mem hil
  generalize ys[i]=y at hget hmem
  refine Bl.zb8 (i:=i) qfq (by omega) hL hn hget rfl fun b' o c T fr _ hb hsz hcc _=>?_
  refine jg (s:=.slc) (t:=y.1) hW hb (hcc 0 (by omega)) ?_
  have hyl:y.1.2.1=y.2.length:=by have:=Mine.len (hy y hmem);simp at this;omega
  have:=h8 y hmem
  refine zn (z5q hW (hy y hmem).cells hyl hp hm (by omega)) ?_
  rintro e w2 ⟨rfl,hw2⟩
  refine ⟨zf9 y.2 p,rfl,?_⟩
  refine za5 (fun h=>?_) (fun h=>?_)
  ·exact ⟨hw2,.inr ⟨i,y,rfl,hget,zpk.1 h⟩⟩
  ·refine xk ((i+1:Nat):Int) (by simp) (by omega) (by omega) ?_
   refine ⟨⟨i+1,rfl,by omega,fun z hz=>?_,hw2⟩,by omega⟩
   rw [List.take_add_one,hget] at hz
   rcases List.mem_append.1 hz with hz | hz
   ·exact hno z hz
   ·simp at hz;rw [hz];exact fun e=>h (zpk.2 e)
 ·obtain rfl:i=ys.length:=by omega
  rw [List.take_length] at hno
  exact ⟨hW,.inl ⟨rfl,hno⟩⟩
theorem ERs:Elem P qw 1 24:=zno (z:=.slice none 0 0) (by kernel_rfl) rfl
def zmh (H:Heap) (B:Nat) (x:Option Addr × Nat × Nat) (ps:List Path):Prop :=
 ∃ ys:List NR,Mine H B qw 1 x (ys.flatMap encR)∧ys.map (·.2)=ps∧∀ y ∈ ys,z9g H y
theorem zmh.nil {H:Heap} {B:Nat}:zmh H B (none,0,0) []:=⟨[],.inl ⟨rfl,rfl⟩,rfl,by simp⟩
theorem qr7 (ys:List NR):(ys.flatMap encR).length=ys.length:=by rw [qfc];simp
theorem zmh.len {H:Heap} {B:Nat} {x:Option Addr × Nat × Nat} {ps:List Path} (h:zmh H B x ps):x.2.1=ps.length:=by
 obtain ⟨ys,h1,h2,_⟩:=h
 have:=h1.len
 rw [qr7] at this
 rw [← h2];simp;omega
theorem zmh.ext {H H':Heap} {B:Nat} {x:Option Addr × Nat × Nat} {ps:List Path} (h:zmh H B x ps) (hx:Ext [] H H'):zmh H' B x ps:=by
 obtain ⟨ys,h1,h2,h3⟩:=h
 exact ⟨ys,h1.ext hx (by simp),h2,fun y hy=>Mine.ext (h3 y hy) hx (by simp)⟩
theorem zmh.cap {H:Heap} {B:Nat} {x:Option Addr × Nat × Nat} {ps:List Path} (h:zmh H B x ps):x.2.1≤x.2.2:=by
 obtain ⟨ys,h1,_⟩:=h
 exact zfl h1
theorem zmh.ge {H:Heap} {B:Nat} {x:Option Addr × Nat × Nat} {ps:List Path} (h:zmh H B x ps):∀ b ∈ jf x,B≤b:=by
 obtain ⟨ys,h1,_⟩:=h
 exact jc h1
theorem qm7 {w:World} {H:Heap} {B B2:Nat} {x y:Option Addr × Nat × Nat} {ps:List Path} {p:Path} (hw:w.heap=H) (hB:zmh H B x ps) (hBs:B≤H.size) (hy:Mine H B2 qc 1 y (strRow p)) (hlen:ps.length≤1073741824) {K:(Option Addr × Nat × Nat)→World→Prop}
  (hK:∀ x' w',zmh w'.heap B x' (ps++[p])→Ext (jf x) H w'.heap→K x' w') :
  zaf P (Instr.buildSlice zcj 1 #[(0,(Value.slice y.1 y.2.1 y.2.2))]) .slc w fun (t15:(Option Addr × Nat × Nat)) w_4 =>
  zaf P (Builtin.append_ #[zcj,zcj] zcj #[(Value.slice x.1 x.2.1 x.2.2),(Value.slice t15.1 t15.2.1 t15.2.2)]) .slc w_4 K:=by
 have hl:=hB.len
 obtain ⟨ys,h1,h2,h3⟩:=hB
 have hylen:ys.length=ps.length:=by rw [← h2];simp
 refine zae (s:=.slc) (some ⟨w.heap.size,0,none⟩,1,1) _ (zd7 ERs qq4 (v:=.slice y.1 y.2.1 y.2.2) rfl (by omega) (by omega)) ?_
 subst hw
 have hxp:Ext [] w.heap (w.heap.push (.cells (Value.slice y.1 y.2.1 y.2.2).cells qw)):=.push _
 refine zcf (n:=1) (us:=[zck y]) (H:=w.heap.push (.cells (Value.slice y.1 y.2.1 y.2.2).cells qw)) ERs (by omega) qq4 (za4 qq4) rfl (h1.ext hxp (by simp)) (by simp;omega)
  (Src.slc rfl (.inr ⟨w.heap.size,0,_,_,_,rfl,zo,by simp [Value.cells],by simp [Value.cells,zck]⟩) rfl) (by intro v hv;simp at hv;subst hv;rfl) (by omega) ?_
 intro x' w4 hm4 hl4 hx4 hs4
 have hx04:Ext (jf x) w.heap w4.heap:=(hxp.mono (by simp)).trans hx4
 refine hK x' w4 ⟨ys++[(y,p)],by rw [List.flatMap_append,List.flatMap_singleton];exact hm4,by simp [h2],fun z hz=>?_⟩ hx04
 rcases List.mem_append.1 hz with hz | hz
 ·exact Mine.ext (h3 z hz) hx04 (zeo (h3 z hz) h1 (by decide))
 ·simp only [List.mem_singleton] at hz
  subst hz
  exact Mine.ext (hy.mono (Nat.zero_le _)) hx04 (zeo hy h1 (by decide))
theorem qpk {L:List Fil} (h5:¬ z4b L) {f g:Fil} (hf:f ∈ L) (hg:g ∈ L) (e:nm f=nm g):f=g:=by
 obtain ⟨i,hi,rfl⟩:=List.getElem_of_mem hf
 obtain ⟨j,hj,rfl⟩:=List.getElem_of_mem hg
 rcases Nat.lt_trichotomy i j with h | h | h
 ·exact absurd ⟨j,hj,.inr ⟨L[i],List.mem_take_iff_getElem.2 ⟨i,by omega,rfl⟩,e⟩⟩ h5
 ·subst h;rfl
 ·exact absurd ⟨i,hi,.inr ⟨L[j],List.mem_take_iff_getElem.2 ⟨j,by omega,rfl⟩,e.symm⟩⟩ h5
theorem z5y:∀ {S:List Fil} {f:Fil},z5u (S.map clean) (clean f)=(z5u S f).map clean
 | [],f=>rfl
 | g :: S,f=>by
  simp only [List.map_cons,z5u,z6z]
  split
  ·rw [List.map_cons,z5y]
  ·rfl
theorem qgn {f:Fil}:(zbf f).toArray.setIfInBounds 0 (.string (strOf (vk (nm f))))=(zbf (clean f)).toArray:=by
 simp [zbf,clean]
theorem zm6 {H:Heap} {a:Option Addr} {n i:Nat} {m:Int} {ys:List NR} {L:List Fil} {f:Fil} (hL:Cells H a (ys.flatMap encR)) (hn:n=ys.length) (hy:∀ y ∈ ys,z9g H y) (he:ys.map (·.2)=L.map nm) (hi:L[i]?=some f) (hm:m=(i:Int)) {K:Addr→Prop}
  (hK:∀ (b o:Nat) c T fr (z:Option Addr × Nat × Nat),H[b]?=some (.cells c T fr)→c[o]?=some (zck z)→z9g H (z,nm f)→K ⟨b,o,none⟩):ixS a n 1 m K:=by
 have h1:(ys.map (·.2))[i]?=(L.map nm)[i]?:=by rw [he]
 rw [List.getElem?_map,List.getElem?_map,hi] at h1
 cases hg:ys[i]? with
 | none=>rw [hg] at h1;cases h1
 | some y =>
  rw [hg] at h1
  simp only [Option.map_some,Option.some.injEq] at h1
  have hmem:y ∈ ys:=List.mem_of_getElem? hg
  refine Bl.zb8 (i:=i) qfq (by omega) hL hn hg hm fun b o c T fr _ hb hsz hcc _=>?_
  refine hK b o c T fr y.1 hb (hcc 0 (by omega)) ?_
  have:=hy y hmem
  rw [← h1];exact this
theorem z9g.len {H:Heap} {z:Option Addr × Nat × Nat} {p:Path} (h:z9g H (z,p)):z.2.1=p.length:=by
 have:=Mine.len h
 simp at this;omega
theorem qf8 {H:Heap} {z:Option Addr × Nat × Nat} {p:Path} (h:z9g H (z,p)) (hp:p ≠ []) {n:Int} (hn:n=((p.length - 1:Nat):Int)) :
  ∃ a',(∀ w,(Instr.sliceAt qw (.slice z.1 z.2.1 z.2.2) none (some (.int .i64 n)) none).run P w=.ok (.slice a' (p.length - 1) z.2.2) w)∧Cells H a' (strRow p.dropLast):=by
 have hl:=h.len
 obtain ⟨a',h1,h2⟩:=qi8 (T:=qw) (l:=z.2.1) (c:=z.2.2) (i:=p.length - 1) zyn qir (Mine.cells h) (zfl h) (by omega) hn
 refine ⟨a',h1,?_⟩
 rw [List.dropLast_eq_take]
 have:(strRow p).take ((p.length - 1) * 1)=strRow (p.take (p.length - 1)):=by simp [strRow,List.map_take]
 rw [← this];exact h2
structure Seen (H:Heap) (a:Option Addr) (x:Option Addr × Nat × Nat) (ys:List NR) (L:List Fil):Prop where
 row:Cells H a (L.flatMap zbf)
 cells:Cells H x.1 (ys.flatMap encR)
 len:x.2.1=ys.length
 cap:x.2.1≤x.2.2
 path:∀ y ∈ ys,z9g H y
 eq:ys.map (·.2)=L.map nm
theorem Seen.ext {H H':Heap} {a:Option Addr} {x:Option Addr × Nat × Nat} {ys:List NR} {L:List Fil} (h:Seen H a x ys L) (hx:Ext [] H H'):Seen H' a x ys L :=
 ⟨h.row.ext hx (by simp),h.cells.ext hx (by simp),h.len,h.cap,fun y hy=>Mine.ext (h.path y hy) hx (by simp),h.eq⟩
theorem qll {w:World} {H:Heap} {a:Option Addr} {n:Nat} {x:Option Addr × Nat × Nat} {ys:List NR} {L:List Fil} (hw:w.heap=H) (hN:Seen H a x ys L) (hn:n=L.length) (hm:L.length≤65536) {R:(Option Addr × Nat × Nat) × Int→World→Prop}
  (hR:∀ x' (i:Int) w',Mine w'.heap H.size zl 3 x' (((ziu L).map clean).flatMap zbf)→Ext [] H w'.heap→R (x',i) w') :
  zav ((Option Addr × Nat × Nat) × Int) (fun s_14 w_24 k_14 =>
  xg (decide (s_14.2 < (n:Int))) (
  ixS a n 3 s_14.2 fun t193 =>
  ldA P 3 t193 w_24 fun t194 =>
  zbj (zc P zl) zl w_24 fun b20 w_25 =>
  zbs P (storeVar zl (⟨b20,0,none⟩:Addr) (Value.agg t194)) w_25 fun w_26 =>
  ixS x.1 x.2.1 1 s_14.2 fun t197 =>
  ld .slc t197 w_26 fun (t198:(Option Addr × Nat × Nat)) =>
  qy P zij #[(Value.slice t198.1 t198.2.1 t198.2.2)] [.str] false w_26 fun (t199:ByteArray) w_27 =>
  stC (⟨b20,0,none⟩:Addr) (Value.string t199) w_27 fun w_28 =>
  ldA P 3 (⟨b20,0,none⟩:Addr) w_28 fun t202 =>
  qy P zl9 #[(Value.slice s_14.1.1 s_14.1.2.1 s_14.1.2.2),(Value.agg t202)] [.slc] false w_28 fun (t203:(Option Addr × Nat × Nat)) w_29 =>
  za7 .i64 s_14.2 1 fun t190 =>
  k_14 ((t203.1,t203.2.1,t203.2.2),t190) w_29) (
  R s_14 w_24)) ((none,0,0),0) w:=by
 refine jd (fun (s:(Option Addr × Nat × Nat) × Int) W=>∃ i:Nat,s.2=(i:Int)∧i≤L.length∧Ext [] H W.heap∧Mine W.heap H.size zl 3 s.1 (((ziu (L.take i)).map clean).flatMap zbf)∧(ziu (L.take i)).length=i) (fun s _=>(L.length - s.2).toNat)
  ⟨0,rfl,Nat.zero_le _,by rw [hw];exact .refl _ _,.inl ⟨rfl,rfl⟩,rfl⟩ ?_
 rintro ⟨x',_⟩ W ⟨i,rfl,hi,hx,hmW,hsl⟩
 refine zq (fun hlt=>?_) (fun hge=>?_)
 ·have hil:i < L.length:=by simp only at hlt;omega
  have hget:=List.getElem?_eq_getElem hil
  generalize L[i]=f at hget
  refine zgx (i:=i) zba (by omega) rfl (hN.ext hx).row hn hget rfl ?_
  refine qr0 f rfl fun w3 hw3=>?_
  have hx3:Ext [] W.heap w3.heap:=by rw [hw3];exact .push _
  have hb3:w3.heap[W.heap.size]?=some (.cells (zbf f).toArray zl (0,0)):=by rw [hw3];exact zo
  have hN3:=hN.ext (hx.trans hx3)
  refine zm6 (i:=i) hN3.cells hN3.len hN3.path hN3.eq hget rfl fun b o c T fr z hb hc hp=>?_
  refine jg (s:=.slc) (t:=z) rfl hb hc ?_
  have hsm:=(zl2 f).small
  refine zn (qkp (p:=nm f) rfl (Mine.cells hp) hp.len (by omega)) ?_
  rintro e w4 ⟨rfl,rfl⟩
  refine ⟨strOf (vk (nm f)),rfl,?_⟩
  refine zbp rfl hb3 (by simp [zbf]) fun w5 hw5=>?_
  have hx5:Ext [] W.heap w5.heap:=by rw [hw5];exact hx3.set_own (.inl (Nat.le_refl _))
  have hb5:w5.heap[W.heap.size]?=some (.cells (zbf (clean f)).toArray zl (0,0)):=by rw [hw5,← qgn];exact qp hb3
  refine je rfl hb5 rfl ?_
  have hm5:Mine w5.heap H.size zl 3 x' (((ziu (L.take i)).map clean).flatMap zbf):=hmW.ext hx5 (by simp)
  have hl5:x'.2.1=((ziu (L.take i)).map clean).length:=by have:=hm5.len;rw [z3l] at this;omega
  refine zn (qji (f:=clean f) rfl hm5.cells hl5 (zfl hm5) (by simp;omega)) ?_
  rintro e w6 ⟨x6,rfl,hm6,hx6⟩
  refine ⟨x6,rfl,?_⟩
  refine xk ((i+1:Nat):Int) (by simp) (by omega) (by omega) ?_
  have hs:ziu (L.take (i+1))=z5u (ziu (L.take i)) f:=by unfold ziu;rw [List.take_add_one,hget];simp
  have s1:=(hx.trans hx5).1
  refine ⟨⟨i+1,rfl,by omega,(hx.trans hx5).trans hx6,?_,?_⟩,by simp only;omega⟩
  ·rw [hs,← z5y];exact hm6.mono s1
  ·rw [hs,(zvz _ _).length_eq];simp [hsl]
 ·obtain rfl:i=L.length:=by simp only at hge;omega
  rw [List.take_length] at hmW
  exact hR x' _ W hmW hx
theorem qqb {ys:List NR} {i:Nat} (hi:i≤ys.length):(ys.flatMap encR).take (i * 1)=(ys.take i).flatMap encR:=by
 simp [qfc,List.map_take]
theorem Seen.none {H:Heap} {a:Option Addr} {x:Option Addr × Nat × Nat} {ys:List NR} {L:List Fil} (h:Seen H a x ys L) {i:Nat} {p:Path} (hno:∀ y ∈ ys.take i,y.2 ≠ p):∀ g ∈ L.take i,nm g ≠ p:=by
 intro g hg e
 have h1:(ys.take i).map (·.2)=(L.take i).map nm:=by rw [List.map_take,h.eq,List.map_take]
 have:p ∈ (ys.take i).map (·.2):=by rw [h1];exact List.mem_map.2 ⟨g,hg,e⟩
 obtain ⟨y,hy,e2⟩:=List.mem_map.1 this
 exact hno y hy e2
theorem Seen.at {H:Heap} {a:Option Addr} {x:Option Addr × Nat × Nat} {ys:List NR} {L:List Fil} (h:Seen H a x ys L) {j:Nat} {y:NR} (hy:ys[j]?=some y):∃ g,L[j]?=some g∧nm g=y.2:=by
 have h1:(ys.map (·.2))[j]?=(L.map nm)[j]?:=by rw [h.eq]
 rw [List.getElem?_map,List.getElem?_map,hy] at h1
 cases hg:L[j]? with
 | none=>rw [hg] at h1;cases h1
 | some g =>
  rw [hg] at h1
  simp only [Option.map_some,Option.some.injEq] at h1
  exact ⟨g,rfl,h1.symm⟩
theorem Seen.small {H:Heap} {a:Option Addr} {x:Option Addr × Nat × Nat} {ys:List NR} {L:List Fil} (h:Seen H a x ys L):∀ y ∈ ys,y.2.length≤8:=by
 intro y hy
 have:y.2 ∈ L.map nm:=by rw [← h.eq];exact List.mem_map.2 ⟨y,hy,rfl⟩
 obtain ⟨g,_,e⟩:=List.mem_map.1 this
 rw [← e];exact (zl2 g).2
theorem Seen.count {H:Heap} {a:Option Addr} {x:Option Addr × Nat × Nat} {ys:List NR} {L:List Fil} (h:Seen H a x ys L):ys.length=L.length:=by
 have:=congrArg List.length h.eq
 simpa using this
set_option maxHeartbeats 4000000 in
theorem qp4 {w:World} {H:Heap} {a:Option Addr} {n:Nat} {x:Option Addr × Nat × Nat} {ys:List NR} {L:List Fil} (hw:w.heap=H) (hN:Seen H a x ys L) (hn:n=L.length) (hm:L.length≤65536) {Rb Rn:World→Prop}
  (hb:z4b L→∀ w',w'.heap=H→Rb w') (hno:¬ z4b L→∀ w',w'.heap=H→Rn w') :
  zav Int (fun s_5 w_9 k_5 =>
  xg (decide (s_5 < (n:Int))) (
  Go.Fw.joinP Unit (fun k_6 =>
  Go.Fw.joinP Unit (fun k_7 =>
  zbd w_9 fun w_10 =>
  ixS x.1 x.2.1 1 s_5 fun t83 =>
  ld .slc t83 w_10 fun (t84:(Option Addr × Nat × Nat)) =>
  xg ((t84.2.1:Int) == 0) (
  Rb w_10) (
  ixS x.1 x.2.1 1 s_5 fun t93 =>
  zay P (Instr.sliceAt zcj (Value.slice x.1 x.2.1 x.2.2) none (some (Value.int .i64 s_5)) none) .slc w_10 fun (t90:(Option Addr × Nat × Nat)) =>
  ld .slc t93 w_10 fun (t94:(Option Addr × Nat × Nat)) =>
  qy P zik #[(Value.slice t90.1 t90.2.1 t90.2.2),(Value.slice t94.1 t94.2.1 t94.2.2)] [.int .i64] false w_10 fun (t95:Int) w_11 =>
  xg (decide (t95 ≥ 0)) (
  Rb w_11) (
  k_7 () w_11))) (fun _ w_12 =>
  k_6 () w_12)) (fun _ w_13 =>
  za7 .i64 s_5 1 fun t80 =>
  k_5 t80 w_13)) (
  Rn w_9)) 0 w:=by
 have hyl:=hN.count
 refine jd (fun (s:Int) W=>∃ i:Nat,s=(i:Int)∧i≤L.length∧W.heap=H∧∀ j (h:j < L.length),j < i→nm L[j] ≠ []∧∀ g ∈ L.take j,nm g ≠ nm L[j]) (fun s _=>(L.length - s).toNat) ⟨0,rfl,Nat.zero_le _,hw,by omega⟩ ?_
 rintro _ W ⟨i,rfl,hi,hW,hok⟩
 refine zq (fun hlt=>?_) (fun hge=>?_)
 ·have hil:i < L.length:=by omega
  have hget:=List.getElem?_eq_getElem hil
  generalize hf:L[i]=f at hget
  refine zab (zab ?_)
  refine jq hW fun w10 hw10=>?_
  refine zm6 (i:=i) hN.cells hN.len hN.path hN.eq hget rfl fun b o c T fr z hbb hc hp=>?_
  refine jg (s:=.slc) (t:=z) hw10 hbb hc ?_
  have hzl:=hp.len
  refine za5 (fun h0=>?_) (fun h0=>?_)
  ·exact hb ⟨i,hil,.inl (by rw [hf];exact List.length_eq_zero_iff.1 (by omega))⟩ _ hw10
  refine zm6 (i:=i) hN.cells hN.len hN.path hN.eq hget rfl fun b2 o2 c2 T2 fr2 z2 hbb2 hc2 hp2=>?_
  have hz2l:=hp2.len
  obtain ⟨a1,r1,c1⟩:=qi8 (T:=zcj) (l:=x.2.1) (c:=x.2.2) (i:=i) qq4 qq7 hN.cells hN.cap (by have:=hN.len;omega) rfl
  refine qx (s:=.slc) (a1,i,x.2.2) (r1 _) ?_
  rw [qqb (by omega)] at c1
  refine jg (s:=.slc) (t:=z2) hw10 hbb2 hc2 ?_
  refine zn (qfh (ys:=ys.take i) (p:=nm f) hw10 c1 (by simp;omega) (fun y hy=>hN.path y (List.mem_of_mem_take hy)) (fun y hy=>hN.small y (List.mem_of_mem_take hy)) (by simp;omega) (Mine.cells hp2) hz2l) ?_
  rintro e w11 ⟨hw11,⟨rfl,hnone⟩ | ⟨j,y,rfl,hj,hyp⟩⟩
  ·refine ⟨-1,rfl,jk rfl ?_⟩
   refine xk ((i+1:Nat):Int) (by simp) (by omega) (by omega) ?_
   refine ⟨⟨i+1,rfl,by omega,hw11,fun j hj hji=>?_⟩,by omega⟩
   by_cases e:j=i
   ·subst e
    rw [hf]
    exact ⟨fun h=>h0 (by rw [hzl,h];rfl),hN.none hnone⟩
   ·exact hok j hj (by omega)
  ·refine ⟨(j:Int),rfl,vw (by simp) ?_⟩
   obtain ⟨g,hg,hgn⟩:=hN.at (j:=j) (y:=y) (by
    rw [List.getElem?_take] at hj
    split at hj
    ·exact hj
    ·cases hj)
   have hji:j < i:=by
    rw [List.getElem?_take] at hj
    split at hj
    ·assumption
    ·cases hj
   refine hb ⟨i,hil,.inr ⟨g,List.mem_take_iff_getElem.2 ⟨j,by omega,(List.getElem?_eq_some_iff.1 hg).2⟩,?_⟩⟩ _ hw11
   rw [hf,hgn,hyp]
 ·obtain rfl:i=L.length:=by omega
  refine hno ?_ _ hW
  rintro ⟨j,hj,h | ⟨g,hg,e⟩⟩
  ·exact (hok j hj hj).1 h
  ·exact (hok j hj hj).2 g hg e
set_option maxHeartbeats 4000000 in
theorem qp8 {w:World} {H:Heap} {a:Option Addr} {n:Nat} {x:Option Addr × Nat × Nat} {ys:List NR} {L:List Fil} (hw:w.heap=H) (hN:Seen H a x ys L) (hn:n=L.length) (hm:L.length≤65536) (h5:¬ z4b L) {Rb:World→Prop} {Rn:Bool × Int→World→Prop}
  (hb:qkq L→∀ w',w'.heap=H→Rb w') (hno:¬ qkq L→∀ (t:Bool) (i:Int) w',(t=true ↔ z2o L)→w'.heap=H→Rn (t,i) w') :
  zav (Bool × Int) (fun s_8 w_14 k_8 =>
  xg (decide (s_8.2 < (n:Int))) (
  Go.Fw.joinP Bool (fun k_9 =>
  zbd w_14 fun w_15 =>
  ixS x.1 x.2.1 1 s_8.2 fun t106 =>
  ixS x.1 x.2.1 1 s_8.2 fun t110 =>
  ld .slc t106 w_15 fun (t107:(Option Addr × Nat × Nat)) =>
  ld .slc t110 w_15 fun (t111:(Option Addr × Nat × Nat)) =>
  zl4 .i64 (t111.2.1:Int) 1 fun t113 =>
  zay P (Instr.sliceAt qw (Value.slice t107.1 t107.2.1 t107.2.2) none (some (Value.int .i64 t113)) none) .slc w_15 fun (t114:(Option Addr × Nat × Nat)) =>
  qy P zik #[(Value.slice x.1 x.2.1 x.2.2),(Value.slice t114.1 t114.2.1 t114.2.2)] [.int .i64] false w_15 fun (t117:Int) w_16 =>
  Go.Fw.joinP Unit (fun k_10 =>
  xg (decide ((t114.2.1:Int) > 0)) (
  xg (decide (t117 < 0)) (
  Rb w_16) (
  k_10 () w_16)) (
  k_10 () w_16)) (fun _ w_17 =>
  xg s_8.1 (
  k_9 true w_17) (
  xg (decide ((t114.2.1:Int) > 0)) (
  ixS a n 3 t117 fun t133 =>
  ld .bool (Addr.add t133 1) w_17 fun (t135:Bool) =>
  k_9 (!t135) w_17) (
  k_9 false w_17)))) (fun s_10 w_18 =>
  za7 .i64 s_8.2 1 fun t103 =>
  k_8 (s_10,t103) w_18)) (
  Rn s_8 w_14)) (false,0) w:=by
 have hyl:=hN.count
 refine jd (fun (s:Bool × Int) W=>∃ i:Nat,s.2=(i:Int)∧i≤L.length∧W.heap=H∧(∀ f ∈ L.take i,(nm f).dropLast ≠ []→∃ g ∈ L,nm g=(nm f).dropLast)∧(s.1=true ↔ ∃ f ∈ L.take i,∃ g ∈ L,nm g=(nm f).dropLast∧g.dir=false)) (fun s _=>(L.length - s.2).toNat)
  ⟨0,rfl,Nat.zero_le _,hw,by simp,by simp⟩ ?_
 rintro ⟨t,_⟩ W ⟨i,rfl,hi,hW,hok,hfl⟩
 simp only at hfl
 refine zq (fun hlt=>?_) (fun hge=>?_)
 ·have hil:i < L.length:=by simp only at hlt;omega
  have hget:=List.getElem?_eq_getElem hil
  have hmem:L[i] ∈ L:=List.getElem_mem hil
  have hne:nm L[i] ≠ []:=(zkn h5).2 _ hmem
  generalize hf:L[i]=f at hget hmem hne
  refine joinP_of (fun (t':Bool) W'=>W'.heap=H∧((nm f).dropLast ≠ []→∃ g ∈ L,nm g=(nm f).dropLast)∧(t'=true ↔ t=true ∨ ∃ g ∈ L,nm g=(nm f).dropLast∧g.dir=false)) ?_ ?_
  rotate_left
  ·rintro t' W' ⟨g1,g2,g3⟩
   refine xk ((i+1:Nat):Int) (by simp) (by omega) (by omega) ?_
   refine ⟨⟨i+1,rfl,by omega,g1,zea hget hok g2,?_⟩,by simp only;omega⟩
   rw [g3,hfl,List.take_add_one,hget]
   constructor
   ·rintro (⟨u,hu,h⟩ | h)
    ·exact ⟨u,by simp [hu],h⟩
    ·exact ⟨f,by simp,h⟩
   ·rintro ⟨u,hu,h⟩
    rcases List.mem_append.1 hu with hu | hu
    ·exact .inl ⟨u,hu,h⟩
    ·simp at hu;subst hu;exact .inr h
  refine jq hW fun w10 hw10=>?_
  refine zm6 (i:=i) hN.cells hN.len hN.path hN.eq hget rfl fun b o c T fr z hbb hc hp=>?_
  refine zm6 (i:=i) hN.cells hN.len hN.path hN.eq hget rfl fun b2 o2 c2 T2 fr2 z2 hbb2 hc2 hp2=>?_
  have hz2l:=hp2.len
  refine jg (s:=.slc) (t:=z) hw10 hbb hc ?_
  refine jg (s:=.slc) (t:=z2) hw10 hbb2 hc2 ?_
  have h8:=(zl2 f).2
  have hpos:0 < (nm f).length:=List.length_pos_iff.2 hne
  refine zbo (((nm f).length - 1:Nat):Int) (by omega) (by omega) (by omega) ?_
  obtain ⟨a1,r1,c1⟩:=qf8 hp hne rfl
  refine qx (s:=.slc) (a1,(nm f).length - 1,z.2.2) (r1 _) ?_
  refine zn (qfh (ys:=ys) (p:=(nm f).dropLast) hw10 hN.cells hN.len hN.path hN.small (by omega) c1 (by simp)) ?_
  have hdl:(nm f).dropLast.length=(nm f).length - 1:=by simp
  rintro e w11 ⟨hw11,⟨rfl,hnone⟩ | ⟨j,y,rfl,hj,hyp⟩⟩
  ·refine ⟨-1,rfl,zab ?_⟩
   have hno':=hN.none (i:=ys.length) (p:=(nm f).dropLast) (by rw [List.take_length];exact hnone)
   rw [hyl,List.take_length] at hno'
   refine zq (fun hp0=>vw rfl (hb ⟨f,hmem,?_,hno'⟩ _ hw11)) (fun hp0=>?_)
   ·intro h;rw [h] at hdl;simp at hdl hp0;omega
   ·have hd0:(nm f).dropLast=[]:=List.length_eq_zero_iff.1 (by simp only at hp0;omega)
    have hn70:¬ ∃ g ∈ L,nm g=(nm f).dropLast∧g.dir=false:=fun ⟨g,hg,e,_⟩=>hno' g hg e
    cases t with
    | true=>exact vw rfl ⟨hw11,fun h=>absurd hd0 h,by simp⟩
    | false=>exact jk rfl (jk (decide_eq_false hp0) ⟨hw11,fun h=>absurd hd0 h,by simp [hn70]⟩)
  ·refine ⟨(j:Int),rfl,zab ?_⟩
   obtain ⟨g,hg,hgn⟩:=hN.at hj
   rw [hyp] at hgn
   have hgm:g ∈ L:=List.mem_of_getElem? hg
   have hup:(nm f).dropLast ≠ []:=by rw [← hgn];exact (zkn h5).2 _ hgm
   have hupl:0 < (nm f).dropLast.length:=List.length_pos_iff.2 hup
   have hpt:decide ((((a1,(nm f).length - 1,z.2.2):Option Addr × Nat × Nat).2.1:Int) > 0)=true:=by simp only [decide_eq_true_eq];omega
   refine vw hpt (jk (decide_eq_false (by omega)) ?_)
   cases t with
   | true=>exact vw rfl ⟨hw11,fun _=>⟨g,hgm,hgn⟩,by simp⟩
   | false =>
    refine jk rfl (vw hpt ?_)
    refine Bl.zb8 (i:=j) zba (by omega) hN.row hn hg rfl fun b3 o3 c3 T3 fr3 _ hb3 hsz3 hcc3 _=>?_
    simp only [jv]
    refine jg (s:=.bool) (t:=g.dir) hw11 hb3 (hcc3 1 (by omega)) ?_
    refine ⟨hw11,fun _=>⟨g,hgm,hgn⟩,?_⟩
    constructor
    ·intro h
     exact .inr ⟨g,hgm,hgn,by simpa using h⟩
    ·rintro (h | ⟨g',hg',e,hd⟩)
     ·cases h
     ·rw [← qpk h5 hg' hgm (e.trans hgn.symm),hd];rfl
 ·obtain rfl:i=L.length:=by simp only at hge;omega
  rw [List.take_length] at hok hfl
  exact hno (fun ⟨f,hf,h1,h2⟩=>by obtain ⟨g,hg,e⟩:=hok f hf h1;exact h2 g hg e) t _ W hfl hW
set_option maxHeartbeats 4000000 in
theorem qpe {w:World} {H:Heap} {a:Option Addr} {n:Nat} {x:Option Addr × Nat × Nat} {ys:List NR} {L:List Fil} (hw:w.heap=H) (hN:Seen H a x ys L) (hn:n=L.length) (hm:L.length≤65536) (h5:¬ z4b L) {Rb Rn:World→Prop}
  (hb:qke L→∀ w',w'.heap=H→Rb w') (hno:¬ qke L→∀ w',w'.heap=H→Rn w') :
  zav Int (fun s_11 w_19 k_11 =>
  xg (decide (s_11 < (n:Int))) (
  zav (Int × Int) (fun s_12 w_20 k_12 =>
  xg (decide (s_12.2 < (n:Int))) (
  Go.Fw.joinP Int (fun k_13 =>
  zbd w_20 fun w_21 =>
  ixS x.1 x.2.1 1 s_12.2 fun t154 =>
  ixS x.1 x.2.1 1 s_11 fun t159 =>
  ld .slc t154 w_21 fun (t155:(Option Addr × Nat × Nat)) =>
  ld .slc t159 w_21 fun (t160:(Option Addr × Nat × Nat)) =>
  xg ((t155.2.1:Int) == (t160.2.1:Int)) (
  ixS x.1 x.2.1 1 s_12.2 fun t166 =>
  ixS x.1 x.2.1 1 s_11 fun t170 =>
  ixS x.1 x.2.1 1 s_11 fun t174 =>
  ld .slc t166 w_21 fun (t167:(Option Addr × Nat × Nat)) =>
  ld .slc t170 w_21 fun (t171:(Option Addr × Nat × Nat)) =>
  ld .slc t174 w_21 fun (t175:(Option Addr × Nat × Nat)) =>
  zl4 .i64 (t175.2.1:Int) 1 fun t177 =>
  zay P (Instr.sliceAt qw (Value.slice t171.1 t171.2.1 t171.2.2) none (some (Value.int .i64 t177)) none) .slc w_21 fun (t178:(Option Addr × Nat × Nat)) =>
  qy P zi1 #[(Value.slice t167.1 t167.2.1 t167.2.2),(Value.slice t178.1 t178.2.1 t178.2.2)] [.bool] false w_21 fun (t179:Bool) w_22 =>
  xg t179 (
  za7 .i64 s_12.1 1 fun t182 =>
  k_13 t182 w_22) (
  k_13 s_12.1 w_22)) (
  k_13 s_12.1 w_21)) (fun s_13 w_23 =>
  za7 .i64 s_12.2 1 fun t151 =>
  k_12 (s_13,t151) w_23)) (
  xg (decide (s_12.1 > 64)) (
  Rb w_20) (
  za7 .i64 s_11 1 fun t145 =>
  k_11 t145 w_20))) (0,0) w_19) (
  Rn w_19)) 0 w:=by
 have hyl:=hN.count
 refine jd (fun (s:Int) W=>∃ i:Nat,s=(i:Int)∧i≤L.length∧W.heap=H∧∀ f ∈ L.take i,¬ 64 < (kids L (nm f).dropLast).length) (fun s _=>(L.length - s).toNat) ⟨0,rfl,Nat.zero_le _,hw,by simp⟩ ?_
 rintro _ W ⟨i,rfl,hi,hW,hok⟩
 refine zq (fun hlt=>?_) (fun hge=>?_)
 ·have hil:i < L.length:=by omega
  have hget:=List.getElem?_eq_getElem hil
  have hmem:L[i] ∈ L:=List.getElem_mem hil
  have hne:nm L[i] ≠ []:=(zkn h5).2 _ hmem
  generalize hf:L[i]=f at hget hmem hne
  have hdl:(nm f).dropLast.length=(nm f).length - 1:=by simp
  have hpos:0 < (nm f).length:=List.length_pos_iff.2 hne
  have h8:=(zl2 f).2
  refine jd (fun (s:Int × Int) W=>∃ j:Nat,s.2=(j:Int)∧j≤L.length∧W.heap=H∧s.1=((kids (L.take j) (nm f).dropLast).length:Int)) (fun s _=>(L.length - s.2).toNat) ⟨0,rfl,Nat.zero_le _,hW,by simp [kids]⟩ ?_
  rintro ⟨t,_⟩ W2 ⟨j,rfl,hj,hW2,ht⟩
  simp only at ht
  subst ht
  have hkl:(kids (L.take j) (nm f).dropLast).length≤j:=Nat.le_trans (List.length_filter_le _ _) (by simp;omega)
  refine zq (fun hlt2=>?_) (fun hge2=>?_)
  ·have hjl:j < L.length:=by simp only at hlt2;omega
   have hget2:=List.getElem?_eq_getElem hjl
   generalize L[j]=g at hget2
   have hkt:=qav (p:=(nm f).dropLast) hget2
   refine joinP_of (fun (t':Int) W'=>W'.heap=H∧t'=((kids (L.take (j+1)) (nm f).dropLast).length:Int)) ?_ ?_
   rotate_left
   ·rintro t' W' ⟨g1,g2⟩
    refine xk ((j+1:Nat):Int) (by simp) (by omega) (by omega) ?_
    exact ⟨⟨j+1,rfl,by omega,g1,g2⟩,by simp only;omega⟩
   refine jq hW2 fun w10 hw10=>?_
   refine zm6 (i:=j) hN.cells hN.len hN.path hN.eq hget2 rfl fun b o c T fr z hbb hc hp=>?_
   refine zm6 (i:=i) hN.cells hN.len hN.path hN.eq hget rfl fun b2 o2 c2 T2 fr2 z2 hbb2 hc2 hp2=>?_
   refine jg (s:=.slc) (t:=z) hw10 hbb hc ?_
   refine jg (s:=.slc) (t:=z2) hw10 hbb2 hc2 ?_
   have hzl:=hp.len
   have hz2l:=hp2.len
   refine za5 (fun hl=>?_) (fun hl=>?_)
   ·refine zm6 (i:=j) hN.cells hN.len hN.path hN.eq hget2 rfl fun b3 o3 c3 T3 fr3 z3 hbb3 hc3 hp3=>?_
    refine zm6 (i:=i) hN.cells hN.len hN.path hN.eq hget rfl fun b4 o4 c4 T4 fr4 z4 hbb4 hc4 hp4=>?_
    refine zm6 (i:=i) hN.cells hN.len hN.path hN.eq hget rfl fun b5 o5 c5 T5 fr5 z5 hbb5 hc5 hp5=>?_
    refine jg (s:=.slc) (t:=z3) hw10 hbb3 hc3 ?_
    refine jg (s:=.slc) (t:=z4) hw10 hbb4 hc4 ?_
    refine jg (s:=.slc) (t:=z5) hw10 hbb5 hc5 ?_
    have hz3l:=hp3.len
    have hz5l:=hp5.len
    have h8g:=(zl2 g).2
    refine zbo (((nm f).length - 1:Nat):Int) (by omega) (by omega) (by omega) ?_
    obtain ⟨a1,r1,c1⟩:=qf8 hp4 hne rfl
    refine qx (s:=.slc) (a1,(nm f).length - 1,z4.2.2) (r1 _) ?_
    refine zn (qaf (p:=nm g) (q:=(nm f).dropLast) hw10 (Mine.cells hp3) hz3l c1 hdl.symm (by omega) (by omega)) ?_
    rintro e w11 ⟨rfl,hw11⟩
    refine ⟨zdc (nm g) (nm f).dropLast,rfl,?_⟩
    cases hwi:zdc (nm g) (nm f).dropLast with
    | true =>
     have hk:qfx (nm f).dropLast g=true:=zoz.2 ⟨by omega,hwi⟩
     rw [hk,if_pos rfl] at hkt
     refine vw rfl (xk (((kids (L.take j) (nm f).dropLast).length+1:Nat):Int) (by simp) (by omega) (by omega) ⟨hw11,by rw [hkt];simp⟩)
    | false =>
     have hk:qfx (nm f).dropLast g=false:=by rw [← Bool.not_eq_true,zoz,hwi];simp
     rw [hk,if_neg (by decide)] at hkt
     exact jk rfl ⟨hw11,by rw [hkt]⟩
   ·have hk:qfx (nm f).dropLast g=false:=by rw [← Bool.not_eq_true,zoz];omega
    rw [hk,if_neg (by decide)] at hkt
    exact ⟨hw10,by rw [hkt]⟩
  ·obtain rfl:j=L.length:=by simp only at hge2;omega
   rw [List.take_length] at *
   refine zq (fun h=>?_) (fun h=>?_)
   ·exact hb ⟨f,hmem,by simp only at h;omega⟩ _ hW2
   ·refine xk ((i+1:Nat):Int) (by simp) (by omega) (by omega) ?_
    exact ⟨⟨i+1,rfl,by omega,hW2,zea hget hok (by simp only at h;omega)⟩,by omega⟩
 ·obtain rfl:i=L.length:=by omega
  rw [List.take_length] at hok
  exact hno (fun ⟨f,hf,h⟩=>hok f hf h) W hW
theorem z03 {L:List Fil} (h:za3 L ≠ 0):zc0 L=za3 L:=by unfold zc0;rw [if_pos h]
theorem qae {L:List Fil} (h:za3 L=0):zc0 L=zcv L:=by unfold zc0;rw [if_neg (by simpa using h)]
theorem z1r {L:List Fil} (h:zhk L ≠ 0):za3 L=zhk L:=by unfold za3;rw [if_pos h]
theorem qj9 {L:List Fil} (h:zhk L=0) (ha:L.any qdc=true):za3 L=1:=by unfold za3;rw [if_neg (by simpa using h),if_pos ha]
theorem qk2 {L:List Fil} (h:zhk L=0) (ha:L.any qdc=false) (hb:L.any qig=true):za3 L=134:=by unfold za3;rw [if_neg (by simpa using h),if_neg (by simp [ha]),if_pos hb]
theorem qgz {L:List Fil} (h:zhk L=0) (ha:L.any qdc=false) (hb:L.any qig=false):za3 L=0:=by unfold za3;rw [if_neg (by simpa using h),if_neg (by simp [ha]),if_neg (by simp [hb])]
theorem qkd {L:List Fil} {g:Fil→Bool} (h:∀ f ∈ L,g f=false):L.any g=false:=by
 rw [List.any_eq_false]
 intro f hf
 simp [h f hf]
set_option maxHeartbeats 8000000 in
theorem qh3 {w:World} {H:Heap} {a:Option Addr} {n nc:Nat} {L:List Fil} (hw:w.heap=H) (hL:Cells H a (L.flatMap zbf)) (hn:n=L.length) (hm:L.length≤65536) :
  qg P zpj #[.slice a n nc] w fun e w'=>∃ x,e=.returned (.tuple #[zck x,.int .i64 (zc0 L)])∧Ext [] H w'.heap∧(zc0 L=0→Mine w'.heap H.size zl 3 x (((ziu L).map clean).flatMap zbf)):=by
 refine z4i ?_
 unfold zqa
 have bad:∀ {W:World} {code:Int},code ≠ 0→zc0 L=code→Ext [] H W.heap→∃ x,Ending.returned (.tuple #[.slice none 0 0,.int .i64 code])=.returned (.tuple #[zck x,.int .i64 (zc0 L)])∧Ext [] H W.heap∧(zc0 L=0→Mine W.heap H.size zl 3 x (((ziu L).map clean).flatMap zbf)):=by
  intro W code h0 hc hx
  exact ⟨(none,0,0),by rw [hc];rfl,hx,fun h=>absurd (hc.symm.trans h) h0⟩
 refine jd (fun (s:(Option Addr × Nat × Nat) × Int) W=>∃ i:Nat,s.2=(i:Int)∧i≤L.length∧Ext [] H W.heap∧zmh W.heap H.size s.1 ((L.take i).map nm)∧∀ g ∈ L.take i,(zb1 g.path).2=0) (fun s _=>(L.length - s.2).toNat)
  ⟨0,rfl,Nat.zero_le _,by rw [hw];exact .refl _ _,.nil,by simp⟩ ?_
 rintro ⟨x,_⟩ W ⟨i,rfl,hi,hx,hP,hok⟩
 simp only at hP
 refine zq (fun hlt=>?_) (fun hge=>?_)
 ·have hil:i < L.length:=by simp only at hlt;omega
  have hget:=List.getElem?_eq_getElem hil
  generalize L[i]=f at hget
  refine Bl.zb8 (i:=i) zba (by omega) (hL.ext hx (by simp)) hn hget rfl fun b o c T fr _ hb hsz hc _=>?_
  refine jg (s:=.str) (t:=strOf f.path) rfl hb (hc 0 (by omega)) ?_
  refine zn (qga f.path rfl) ?_
  rintro e w2 ⟨y,rfl,hm2,hx2⟩
  refine ⟨(y,(zb1 f.path).2),rfl,?_⟩
  refine zam (fun h=>?_) (fun h=>?_)
  ·have hfb:=zy6 hget h hok
   have h':(zb1 f.path).2 ≠ 0:=h
   exact bad h (by rw [z03 (by rw [z1r (by rw [hfb];exact h'),hfb];exact h'),z1r (by rw [hfb];exact h'),hfb]) (hx.trans hx2)
  ·refine qm7 rfl (hP.ext hx2) (by have:=hx.1;have:=hx2.1;omega) hm2 (by simp;omega) fun x' w4 hP4 hx4=>?_
   refine xk ((i+1:Nat):Int) (by simp) (by omega) (by omega) ?_
   refine ⟨⟨i+1,rfl,by omega,(hx.trans hx2).own hx4 (fun c hc hlt=>by have:=(hP.ge) c hc;omega),?_,zea hget hok h⟩,by simp only;omega⟩
   have e:(L.take (i+1)).map nm=(L.take i).map nm++[(zb1 f.path).1]:=by rw [List.take_add_one,hget];simp [nm]
   rw [e];exact hP4
 obtain rfl:i=L.length:=by simp only at hge;omega
 rw [List.take_length] at hP hok
 have hfb:=zvp hok
 obtain ⟨ys,y1,y2,y3⟩:=hP
 have hN:Seen W.heap a x ys L:=⟨hL.ext hx (by simp),y1.cells,by have:=y1.len;rw [qr7] at this;omega,zfl y1,y3,y2⟩
 have keep:∀ {W':World},W'.heap=W.heap→Ext [] H W'.heap:=fun h=>by rw [h];exact hx
 refine jd (fun (s:Int) W'=>∃ i:Nat,s=(i:Int)∧i≤L.length∧W'.heap=W.heap∧∀ g ∈ L.take i,qdc g=false) (fun s _=>(L.length - s).toNat) ⟨0,rfl,Nat.zero_le _,rfl,by simp⟩ ?_
 rintro _ W5 ⟨i,rfl,hi,hW5,hna⟩
 refine zq (fun hlt=>?_) (fun hge=>?_)
 ·have hil:i < L.length:=by omega
  have hget:=List.getElem?_eq_getElem hil
  have hmem:L[i] ∈ L:=List.getElem_mem hil
  generalize L[i]=f at hget hmem
  have next:qdc f=false→∀ {W':World},W'.heap=W.heap→za7 .i64 (i:Int) 1 fun t48=>(∃ i:Nat,t48=(i:Int)∧i≤L.length∧W'.heap=W.heap∧∀ g ∈ L.take i,qdc g=false)∧(L.length - t48).toNat < ((L.length:Int) - (i:Int)).toNat:=by
   intro hf W' hW'
   refine xk ((i+1:Nat):Int) (by simp) (by omega) (by omega) ?_
   exact ⟨⟨i+1,rfl,by omega,hW',zea hget hna hf⟩,by omega⟩
  refine zab (zab ?_)
  refine Bl.zb8 (i:=i) zba (by omega) hN.row hn hget rfl fun b o c T fr _ hb hsz hc _=>?_
  simp only [jv]
  refine jg (s:=.bool) (t:=f.dir) hW5 hb (hc 1 (by omega)) ?_
  cases hd:f.dir with
  | false=>exact jk rfl (next (by simp [qdc,hd]) hW5)
  | true =>
   refine vw rfl ?_
   refine Bl.zb8 (i:=i) zba (by omega) hN.row hn hget rfl fun b o c T fr _ hb hsz hc _=>?_
   simp only [jv]
   refine jg (s:=.str) (t:=strOf f.data) hW5 hb (hc 2 (by omega)) ?_
   have hbe:(!((strOf f.data).toList == (ByteArray.mk #[]).toList))=!decide (f.data=[]):=by
    rw [zaj]
    have:(ByteArray.mk #[]).toList=[]:=zaj (L:=[])
    rw [this]
    cases f.data <;> simp
   rw [hbe]
   by_cases h:f.data=[]
   ·exact jk (by simp [h]) (next (by simp [qdc,h]) hW5)
   ·refine vw (by simp [h]) (bad (by decide) ?_ (keep hW5))
    have h1:=qj9 hfb (List.any_eq_true.2 ⟨f,hmem,by simp [qdc,hd,h]⟩)
    rw [z03 (by rw [h1];decide),h1]
 obtain rfl:i=L.length:=by omega
 rw [List.take_length] at hna
 have hna:=qkd hna
 refine jd (fun (s:Int) W'=>∃ i:Nat,s=(i:Int)∧i≤L.length∧W'.heap=W.heap∧∀ g ∈ L.take i,qig g=false) (fun s _=>(L.length - s).toNat) ⟨0,rfl,Nat.zero_le _,hW5,by simp⟩ ?_
 rintro _ W6 ⟨i,rfl,hi,hW6,hnb⟩
 refine zq (fun hlt=>?_) (fun hge=>?_)
 ·have hil:i < L.length:=by omega
  have hget:=List.getElem?_eq_getElem hil
  have hmem:L[i] ∈ L:=List.getElem_mem hil
  generalize L[i]=f at hget hmem
  refine Bl.zb8 (i:=i) zba (by omega) hN.row hn hget rfl fun b o c T fr _ hb hsz hc _=>?_
  simp only [jv]
  refine jg (s:=.str) (t:=strOf f.data) hW6 hb (hc 2 (by omega)) ?_
  refine zq (fun h=>?_) (fun h=>?_)
  ·have h1:=qk2 hfb hna (List.any_eq_true.2 ⟨f,hmem,by simp only [jl] at h;simp [qig];omega⟩)
   exact bad (by decide) (by rw [z03 (by rw [h1];decide),h1]) (keep hW6)
  ·refine xk ((i+1:Nat):Int) (by simp) (by omega) (by omega) ?_
   exact ⟨⟨i+1,rfl,by omega,hW6,zea hget hnb (by simp only [jl] at h;simp [qig];omega)⟩,by omega⟩
 obtain rfl:i=L.length:=by omega
 rw [List.take_length] at hnb
 have hp0:=qgz hfb hna (qkd hnb)
 have hchk:=qae hp0
 refine qp4 hW6 hN hn hm (fun h5 w' hw'=>bad (code:=5) (by decide) (by rw [hchk,qdq h5]) (keep hw')) fun h5 W7 hW7=>?_
 refine qp8 hW7 hN hn hm h5 (fun h4 w' hw'=>bad (code:=4) (by decide) (by rw [hchk,qe0 h5 h4]) (keep hw')) fun h4 t _ W8 ht hW8=>?_
 cases t with
 | true=>exact vw rfl (bad (code:=70) (by decide) (by rw [hchk,z8d h5 h4 (ht.1 rfl)]) (keep hW8))
 | false =>
  have h70:¬ z2o L:=fun h=>by have:=ht.2 h;cases this
  refine jk rfl ?_
  refine qpe hW8 hN hn hm h5 (fun h8 w' hw'=>bad (code:=8) (by decide) (by rw [hchk,qd2 h5 h4 h70 h8]) (keep hw')) fun h8 W9 hW9=>?_
  have hc0:zc0 L=0:=by rw [hchk,qeo h5 h4 h70 h8]
  refine qll hW9 hN hn hm fun x' _ w' hm' hx'=>?_
  exact ⟨x',by rw [hc0];rfl,hx.trans hx',fun _=>hm'.mono hx.1⟩
theorem z8v {L:List Fil}:(zl3 L).2.length=32:=by rw [zi7];exact zgs
theorem ql8 {w:World} {H:Heap} {B:Nat} {l:Option Addr × Nat × Nat} {L:List Fil} (hw:w.heap=H) (hM:Mine H B zl 3 l (((ziu L).map clean).flatMap zbf)) (hd:∀ f ∈ L,f.data.length≤1024) (hm:L.length≤65536) (hp:(ziu L).Perm L) (hbl:(zl3 L).1.length≤500000000) :
  qg P ztl #[.slice l.1 l.2.1 l.2.2] w fun e w'=>∃ x',e=.returned (.tuple #[zck x',arr (zl3 L).2])∧zbc w'.heap H.size x' (zl3 L).1∧Ext [] H w'.heap:=by
 refine z9f ?_
 unfold zs3
 refine jw hw fun w1 hw1=>?_
 have hx1:Ext [] H w1.heap:=by rw [hw1];exact .push _
 have hd1:w1.heap[H.size]?=some (.cells (zc P zf) zf (0,0)):=by rw [hw1];exact zo
 have s1:=lt_of_get hd1
 have e1:zcx ((ziu L).map clean) 9 []=zl3 L:=by rw [z4u,zi7]
 refine zn (qmd ((ziu L).map clean) (fun f hf=>by
   obtain ⟨g,hg,rfl⟩:=List.mem_map.1 hf
   exact hd g (hp.mem_iff.1 hg)) (by rw [List.length_map,hp.length_eq];exact hm) 9 (B:=H.size) (BL:=B) (BD:=0) (x:=(none,0,0)) (d:=(none,0,0)) (Ls:=[]) (p:=[]) rfl .nil (by omega) (hM.ext hx1 (by simp)) (.inl ⟨rfl,rfl⟩) rfl (by simp) (by rw [e1];simpa using hbl)) ?_
 rintro e w2 ⟨x',rfl,hB2,hx2,hs2⟩
 refine ⟨(x',arr (zcx ((ziu L).map clean) 9 []).2),rfl,?_⟩
 simp only [e1] at hB2 ⊢
 have hx2':Ext [] w1.heap w2.heap:=hx2.mono (by simp [jf])
 have hd2:=hx2'.get hd1 (by simp)
 refine z9a (k:=(zl3 L).2) z8v rfl hd2 zcD fun w3 hw3=>?_
 have hx3:Ext [H.size] w2.heap w3.heap:=by rw [hw3];exact Ext.set _ (by simp)
 have hd3:w3.heap[H.size]?=some (.cells (byteCells (zl3 L).2).toArray zf (0,0)):=by rw [hw3];exact qp hd2
 refine je rfl hd3 (by simp [z8v]) ?_
 refine ⟨x',rfl,?_,(hx1.trans hx2').own hx3 (fun c hc hlt=>by simp at hc;omega)⟩
 exact hB2.keep hx3 (fun m hm c T fr hc=>by
  simp at hm;subst hm
  rw [hd2] at hc
  simp only [Option.some.injEq,Obj.cells.injEq] at hc
  rw [← hc.2.1];exact ⟨by decide,by decide⟩)
theorem qr3 {L:List Fil} (h:zc0 L=0):¬ z4b L∧∀ f ∈ L,f.data.length≤1024:=by
 unfold zc0 at h
 split at h
 ·rename_i h1;exact absurd h h1
 ·rename_i h1
  exact ⟨(qgf h).1,qjj (by simpa using h1)⟩
set_option maxHeartbeats 2000000 in
theorem qm3 {w:World} {H:Heap} {fp:List Nat} {p:Nat} {q:Int} {r:Bl.SM} {a:Option Addr} {n nc:Nat} {L:List Fil} (hw:w.heap=H) (hS:Bl.zdx H fp p q r) (hfp:∀ b ∈ fp,b < H.size)
  (hL:Cells H a (L.flatMap zbf)) (hn':n=L.length) (hm:L.length≤65536)
  (hb:Bl.total r < 1000000000000) (hn:r.length < 100000000000) (hq:0≤q) (hq2:q≤9223372036854775807) (hlen:∀ x ∈ r,x.2.1.2.length < 1099511627776) :
  qg P zti #[.pointer (some ⟨p,0,none⟩),.slice a n nc] w (qsc H fp p q r (zc0 L) (zl3 L) (1+18 * L.length)):=by
 refine qcp ?_
 unfold zui
 refine jw hw fun w1 hw1=>?_
 have hx1:Ext [] H w1.heap:=by rw [hw1];exact .push _
 have hd1:w1.heap[H.size]?=some (.cells (zc P zf) zf (0,0)):=by rw [hw1];exact zo
 have s1:=lt_of_get hd1
 refine zn (qh3 rfl (hL.ext hx1 (by simp)) hn' hm) ?_
 rintro e w2 ⟨x,rfl,hx2,h2⟩
 refine ⟨(x,zc0 L),rfl,?_⟩
 have hd2:=hx2.get hd1 (by simp)
 have hx02:=hx1.trans hx2
 refine zam (fun hc=>?_) (fun hc=>?_)
 ·refine zsg rfl hd2 fun w3 hx3=>?_
  have hxx:Ext fp H w3.heap:=(hx02.mono (by simp)).own hx3 (fun c hc hlt=>by simp at hc;omega)
  have hsz:=hxx.1
  exact ⟨zc0 L,Bl.nought,r,fp,rfl,Bl.zeq,(hS.ext hx02 (by simp)).ext hx3 (fun b hb h=>by simp at h;have:=hfp b hb;omega),hxx,fun b hb=>by have:=hfp b hb;omega,fun b hb=>.inl hb,⟨fun _=>⟨rfl,rfl,rfl⟩,fun h=>absurd h hc⟩,by omega,by omega,hlen⟩
 have hc:zc0 L=0:=hc
 obtain ⟨n5,hdl⟩:=qr3 hc
 have hM:=h2 hc
 have hl18:=qcy n5 hdl
 obtain ⟨hperm,_⟩:=zh8 (zkn n5).1
 have s2:=hx2.1
 refine zn (ql8 rfl hM hdl hm hperm (by omega)) ?_
 rintro e w12 ⟨x2,rfl,hbl,hx12⟩
 refine ⟨(x2,arr (zl3 L).2),rfl,?_⟩
 refine qph (R:=qsc H fp p q r (zc0 L) (zl3 L) (1+18 * L.length)) (T:=zl3 L) rfl (hx02.trans hx12) hS hfp (Nat.le_refl _) (hx12.get hd2 (by simp)) hbl z8v (qh1 n5 hdl hm) hb (by omega) hn hq hq2 hlen fun code d r' fp' w' a1 a2 a3 a4 a5 a6 a7 a8 a9 a10=>?_
 exact ⟨code,d,r',fp',rfl,a1,a2,a3,a4,a5,⟨fun h=>absurd hc h,fun _=>⟨a6,a7⟩⟩,by omega,by omega,a10⟩
theorem fFl:(P.fieldsOf zl).toList.map (fun f=>(f.name,f.type,f.offset))=[("Path",qc,0),("Dir",z9v,1),("Data",qc,2)]:=by kernel_rfl
theorem uFl:P.underlying zl=some (.struct (P.fieldsOf zl)):=by kernel_rfl
theorem qpu:P.stoodInHeld zl=false:=by kernel_rfl
theorem qnd:P.eqGuardType P.depth zl=false:=by kernel_rfl
theorem qjz:P.underlying z9v=some .bool:=by kernel_rfl
theorem qha {cs:Array Value} {t:TypeId} {o:Nat} {v:Value} {w:World} (ha:(isAgg t).run P w=.ok false w) (hc:cs[o]?=some v):(part t cs o).run P w=.ok v w:=by
 simp [part,ha,hc]
theorem qmg {a b:List UInt8}:(a == b)=decide (a=b):=by rw [Bool.eq_iff_iff];simp
theorem qrv {f:Fil} {w:World}:(Op.equalIn 10000 zl (.agg (zbf f).toArray) (.agg (zbf f).toArray)).run P w=.ok true w:=by
 rw [run_equalIn_agg w 9999 zl _ _ uFl qpu]
 have hf:=fFl
 generalize (P.fieldsOf zl).toList=fs at hf
 have hl:fs.length=3:=by simpa using congrArg List.length hf
 obtain ⟨f0,f1,f2,rfl⟩:∃ a b c,fs=[a,b,c]:=by
  match fs,hl with
  | [a,b,c],_=>exact ⟨a,b,c,rfl⟩
 simp only [List.map_cons,List.map_nil,List.cons.injEq,Prod.mk.injEq,and_true] at hf
 obtain ⟨⟨n0,t0,o0⟩,⟨n1,t1,o1⟩,n2,t2,o2⟩:=hf
 have e0:∀ w,(part f0.type (zbf f).toArray f0.offset).run P w=.ok (.string (strOf f.path)) w:=fun w=>by rw [t0,o0];exact qha (by kernel_rfl) rfl
 have e1:∀ w,(part f1.type (zbf f).toArray f1.offset).run P w=.ok (.bool f.dir) w:=fun w=>by rw [t1,o1];exact qha (by kernel_rfl) rfl
 have e2:∀ w,(part f2.type (zbf f).toArray f2.offset).run P w=.ok (.string (strOf f.data)) w:=fun w=>by rw [t2,o2];exact qha (by kernel_rfl) rfl
 have q0:(Op.equalIn 9999 f0.type (.string (strOf f.path)) (.string (strOf f.path))).run P w=.ok true w:=by rw [t0,run_equalIn_string w 9998 _ _ _ zwa,zaj,qmg];simp
 have q1:(Op.equalIn 9999 f1.type (.bool f.dir) (.bool f.dir)).run P w=.ok true w:=by rw [t1,run_equalIn_bool' w 9998 _ _ _ qjz];simp
 have q2:(Op.equalIn 9999 f2.type (.string (strOf f.data)) (.string (strOf f.data))).run P w=.ok true w:=by rw [t2,run_equalIn_string w 9998 _ _ _ zwa,zaj,qmg];simp
 simp only [Op.eqFields,n0,n1,n2,ne_eq,String.reduceEq,not_false_eq_true,if_true,Sem.run_bind,e0,e1,e2,Result.andThen_ok,q0,q1,q2,Bool.not_true,Bool.false_eq_true,if_false,Sem.run_pure]
theorem qrh {x y:Operand} {f:Fil} {w:World}:(eqM .neq zl x y (.agg (zbf f).toArray) (.agg (zbf f).toArray)).run P w=.ok (.bool false) w:=by
 simp only [eqM,Sem.run_bind,run_eqGuard_agg w .neq zl x y _ _ qnd,Result.andThen_ok,run_neq_struct w,qrv,Bool.not_true]
theorem ql4 {w:World} {H:Heap} {a b:Option Addr} {n nc m mc:Nat} {L:List Fil} (hw:w.heap=H) (hA:Cells H a (L.flatMap zbf)) (hn:n=L.length) (hB:Cells H b (L.flatMap zbf)) (hm:m=L.length) (hL:L.length≤1099511627776) :
  qg P zlm #[.slice a n nc,.slice b m mc] w fun e w'=>e=.returned (.bool true)∧w'.heap=H:=by
 subst hn hm
 refine zxs ?_
 unfold zpz
 refine jk (by simp) ?_
 refine jd (fun (s:Int) W=>∃ i:Nat,s=(i:Int)∧i≤L.length∧W.heap=H) (fun s _=>(L.length - s).toNat) ⟨0,rfl,Nat.zero_le _,hw⟩ ?_
 rintro _ W ⟨i,rfl,hi,hW⟩
 refine zq (fun hlt=>?_) (fun hge=>⟨rfl,hW⟩)
 have hil:i < L.length:=by omega
 have hget:=List.getElem?_eq_getElem hil
 generalize L[i]=f at hget
 refine jq hW fun W1 hW1=>?_
 refine Bl.zb8 (i:=i) zba (by omega) hA rfl hget rfl fun ba oa ca Ta fra _ hba hsa hca _=>?_
 refine Bl.zb8 (i:=i) zba (by omega) hB rfl hget rfl fun b2 o2 c2 T2 fr2 _ hb2 hs2 hc2 _=>?_
 have ext3:∀ {c:Array Value} {o:Nat},o+3≤c.size→(∀ j,j < 3→c[o+j]?=(zbf f)[j]?)→c.extract o (o+3)=(zbf f).toArray:=by
  intro c o hs hc
  apply Array.ext_getElem?
  intro j
  rw [Array.getElem?_extract]
  by_cases hj:j < 3
  ·rw [if_pos (by omega),hc j hj];simp
  ·rw [if_neg (by omega),Array.getElem?_eq_none (by simp [zba];omega)]
 refine zmy hW1 hba hsa ?_
 rw [ext3 hsa hca]
 refine zmy hW1 hb2 hs2 ?_
 rw [ext3 hs2 hc2]
 refine qx (s:=.bool) false qrh ?_
 refine jk rfl ?_
 refine xk ((i+1:Nat):Int) (by simp) (by omega) (by omega) ?_
 exact ⟨⟨i+1,rfl,by omega,hW1⟩,by omega⟩
theorem qly {pre q:Int} {r r' rl rl':Bl.SM} {T:List (List UInt8) × List UInt8} {code code':Int} {d d':List UInt8} (h:z0y pre q r T code d r') (h':z0y pre q rl T code' d' rl') (hv:∀ k,Bl.zaq r k=Bl.zaq rl k) (ht:Bl.total r=Bl.total rl):code=code'∧d=d'∧∀ k,Bl.zaq r' k=Bl.zaq rl' k:=by
 by_cases h0:pre=0
 ·obtain ⟨a1,a2⟩:=h.2 h0
  obtain ⟨b1,b2⟩:=h'.2 h0
  obtain ⟨rfl,hv'⟩:=Bl.qeb a1 b1 hv ht
  exact ⟨rfl,a2.trans b2.symm,hv'⟩
 ·obtain ⟨a1,a2,a3⟩:=h.1 h0
  obtain ⟨b1,b2,b3⟩:=h'.1 h0
  exact ⟨a1.trans b1.symm,a2.trans b2.symm,by rw [a3,b3];exact hv⟩
theorem qdu {r:Bl.SM} {c:Nat} (h:MOk (fun L:List UInt8=>L.length=32) r c) {k L:List UInt8} (hv:Bl.zaq r k=some L):L.length≤Bl.total r:=by
 have h1:=Bl.qbc h (k:=k) (c':=0) (v:=((none,0,0),[]))
 have h2:Bl.qlc r k=L.length:=by unfold Bl.qlc;rw [hv]
 simp only [List.length_nil] at h1
 omega
def dgS (s:Rest):List UInt8 × Rest:=match s with | none=>(Bl.nought,none) | some R=>if 32≤R.length then (R.take 32,some (R.drop 32)) else (Bl.nought,none)
theorem zq1 {s:Rest}:(dgS s).1.length=32:=by
 unfold dgS
 cases s with
 | none=>exact Bl.zeq
 | some R =>
  simp only
  split
  ·simp;omega
  ·exact Bl.zeq
theorem slA {b:Nat} {w:World}:(Instr.sliceAt zf (Value.pointer (some (⟨b,0,none⟩:Addr))) none none none).run P w=.ok (.slice (some ⟨b,0,none⟩) 32 32) w:=by
 rw [zeb (l:=0) (h:=32) Bl.u27 sz8 .no .no (by omega) (by omega)]
 simp [Addr.add]
theorem qrd {w:World} {H:Heap} {b:Nat} {c:Array Value} {T:TypeId} {y:Option Addr × Nat × Nat} {k:List UInt8} (hk:k.length≤32) (hw:w.heap=H) (hb:H[b]?=some (.cells c T (0,0))) (hs:c.size=32) (hy:Cells H y.1 (byteCells k)) (hl:y.2.1=k.length) {K:Int→World→Prop}
  (hK:∀ n w',w'.heap=H.setIfInBounds b (.cells (setCells c 0 (byteCells k)) T (0,0))→K n w') :
  zaf P (Builtin.copy_ #[zk,zk] zds #[(Value.slice (some ⟨b,0,none⟩) 32 32),(Value.slice y.1 y.2.1 y.2.2)]) (.int .i64) w K:=by
 obtain ⟨w4,hrun,hcm4,hw4⟩:=qkt (P:=P) (w:=w) (st:=zk) (xt:=zk) (ty:=zds) (od:=0) (dl:=32) (dc:=32) (sa:=y.1) (sl:=y.2.1) (sc:=y.2.2) (vs:=byteCells k) uS8 sz8 hw hy (by rw [hl];simp;omega) zaa hb (by rw [hs];simpa using hk)
 exact zae _ w4 hrun (hK _ w4 hw4) hcm4
theorem qse:zc P zf=(byteCells Bl.nought).toArray:=by kernel_rfl
theorem qnf {w:World} {H:Heap} {b:Nat} {F:List Nat} {s:Rest} (hw:w.heap=H) (hI:InW H b F s) (hF:∀ c ∈ F,c < H.size) :
  qg P zgd #[.pointer (some ⟨b,0,none⟩)] w fun e w'=>e=.returned (arr (dgS s).1)∧InW w'.heap b F (dgS s).2∧Ext [b] H w'.heap:=by
 have hbl:=hI.lt
 refine zxl ?_
 unfold zjs
 refine jw hw fun w1 hw1=>?_
 have hx1:Ext [] H w1.heap:=by rw [hw1];exact .push _
 have hb1:w1.heap[H.size]?=some (.cells (zc P zf) zf (0,0)):=by rw [hw1];exact zo
 refine jw rfl fun w2 hw2=>?_
 have hx2:Ext [] w1.heap w2.heap:=by rw [hw2];exact .push _
 have hb2:w2.heap[w1.heap.size]?=some (.cells (zc P zf) zf (0,0)):=by rw [hw2];exact zo
 refine jq rfl fun w3 hw3=>?_
 have hx3:Ext [] H w3.heap:=by rw [hw3];exact hx1.trans hx2
 have hb3:w3.heap[w1.heap.size]?=some (.cells (zc P zf) zf (0,0)):=by rw [hw3];exact hb2
 have hd3:w3.heap[H.size]?=some (.cells (zc P zf) zf (0,0)):=by rw [hw3];exact hx2.get hb1 (by simp)
 have s1:=lt_of_get hb1
 have s3:=lt_of_get hb3
 have hI3:=hI.ext hx3 (by simp) (by simp)
 refine qx (s:=.slc) (some ⟨w1.heap.size,0,none⟩,32,32) slA ?_
 have htake:qg P zf8 #[.pointer (some ⟨b,0,none⟩),.int .i64 32] w3 fun e w'=>Ext [b] w3.heap w'.heap∧InW w'.heap b F (dgS s).2∧∃ y k,e=.returned (zck y)∧Cells w'.heap y.1 (byteCells k)∧y.2.1=k.length∧k.length≤32∧(∀ c ∈ jf y,c ∈ F)∧setCells (zc P zf) 0 (byteCells k)=(byteCells (dgS s).1).toArray:=by
  have hnil:setCells (zc P zf) 0 (byteCells [])=(byteCells Bl.nought).toArray:=by rw [qse];rfl
  cases s with
  | none =>
   obtain ⟨x,e,h1,h2,h3,h4⟩:=id hI3
   refine zra ?_
   unfold ziy
   refine zab ?_
   refine jk rfl ?_
   simp only [xq,jv]
   refine jg (s:=.int .i64) (t:=e) rfl h1 rfl ?_
   refine vw (by simpa using h4) ?_
   exact ⟨.refl _ _,hI3,(none,0,0),[],rfl,.inl rfl,rfl,by simp,by simp [jf],hnil⟩
  | some R =>
   refine (qio (n:=32) rfl hI3 (by omega)).mono ?_
   rintro e w' ⟨hx,⟨hl,rfl,h3⟩ | ⟨hl,y,rfl,hC,hy,ho,h3⟩⟩
   ·have e1:dgS (some R)=(Bl.nought,none):=by unfold dgS;simp only;rw [if_neg (by omega)]
    rw [e1]
    exact ⟨hx,h3,(none,0,0),[],rfl,.inl rfl,rfl,by simp,by simp [jf],hnil⟩
   ·have e1:dgS (some R)=(R.take 32,some (R.drop 32)):=by unfold dgS;simp only;rw [if_pos hl]
    rw [e1]
    have hl32:(R.take 32).length=32:=by simp;omega
    exact ⟨hx,h3,y,R.take 32,rfl,hC,by rw [hl32,hy],by omega,ho,zax (by rw [zcD];simp [hl32])⟩
 refine zn htake ?_
 rintro e w4 ⟨hx4,hI4,y,k,rfl,hC,hyl,hk,ho,hset⟩
 refine ⟨y,rfl,⟨qx (s:=.slc) (some ⟨w1.heap.size,0,none⟩,32,32) slA rfl,?_⟩⟩
 have hb4:=hx4.get hb3 (by simp;omega)
 have hd4:=hx4.get hd3 (by simp;omega)
 refine qrd hk rfl hb4 zcD hC hyl fun n w5 hw5=>?_
 rw [hset] at hw5
 have hx5:Ext [w1.heap.size] w4.heap w5.heap:=by rw [hw5];exact Ext.set _ (by simp)
 have hb5:w5.heap[w1.heap.size]?=some (.cells (byteCells (dgS s).1).toArray zf (0,0)):=by rw [hw5];exact qp hb4
 refine je rfl hb5 (by simp [zq1]) ?_
 have hd5:=hx5.get hd4 (by simp;omega)
 refine z9a (k:=(dgS s).1) zq1 rfl hd5 zcD fun w6 hw6=>?_
 have hx6:Ext [H.size] w5.heap w6.heap:=by rw [hw6];exact Ext.set _ (by simp)
 have hd6:w6.heap[H.size]?=some (.cells (byteCells (dgS s).1).toArray zf (0,0)):=by rw [hw6];exact qp hd5
 refine je rfl hd6 (by simp [zq1]) ?_
 refine ⟨rfl,?_,?_⟩
 ·refine (hI4.ext hx5 (by simp;omega) fun c hc h=>?_).ext hx6 (by simp;omega) fun c hc h=>?_
  ·simp at h;subst h;have:=hF _ hc;omega
  ·simp at h;subst h;have:=hF _ hc;omega
 ·have h03:Ext [b] H w3.heap:=hx3.mono (by simp)
  exact ((h03.trans hx4).own hx5 (fun c hc hlt=>by simp at hc;omega)).own hx6 (fun c hc hlt=>by simp at hc;omega)
theorem bNk (n:Int) (w:World):(Instr.build zh #[(0,.int .i64 n)]).run P w=.ok (.agg #[.int .i64 n,.string .empty,.int .i64 0,.slice none 0 0,.slice none 0 0]) w:=by kernel_rfl
theorem qsz (s:ByteArray) (n:Int) (a0 a1 a2 a3 a4 a5 a6 a7 a8 a9 a10 a11 a12 a13 a14 a15 a16 a17 a18 a19 a20 a21 a22 a23 a24 a25 a26 a27 a28 a29 a30 a31:UInt8) (w:World):(Instr.build ql #[(0,.string s),(1,.int .i64 n),(2,arr [a0,a1,a2,a3,a4,a5,a6,a7,a8,a9,a10,a11,a12,a13,a14,a15,a16,a17,a18,a19,a20,a21,a22,a23,a24,a25,a26,a27,a28,a29,a30,a31])]).run P w=.ok (.agg ([Value.string s,Value.int .i64 n]++byteCells [a0,a1,a2,a3,a4,a5,a6,a7,a8,a9,a10,a11,a12,a13,a14,a15,a16,a17,a18,a19,a20,a21,a22,a23,a24,a25,a26,a27,a28,a29,a30,a31]).toArray) w:=by kernel_rfl
theorem bT3 (s:ByteArray) (n:Int) {k:List UInt8} (hk:k.length=32) (w:World):(Instr.build ql #[(0,.string s),(1,.int .i64 n),(2,arr k)]).run P w=.ok (.agg ([Value.string s,Value.int .i64 n]++byteCells k).toArray) w:=by
 match k,hk with
 | [a0,a1,a2,a3,a4,a5,a6,a7,a8,a9,a10,a11,a12,a13,a14,a15,a16,a17,a18,a19,a20,a21,a22,a23,a24,a25,a26,a27,a28,a29,a30,a31],_=>exact qsz s n a0 a1 a2 a3 a4 a5 a6 a7 a8 a9 a10 a11 a12 a13 a14 a15 a16 a17 a18 a19 a20 a21 a22 a23 a24 a25 a26 a27 a28 a29 a30 a31 w
theorem qqk (m:Nat) (n:Nat) (w:World):(Builtin.min_ #[zdv,zdv] zdv #[.int .u64 (n:Int),.int .u64 (m:Int)]).run P w=.ok (.int .u64 ((min n m:Nat):Int)) w:=by
 rw [run_min_int2]
 congr 2
 split <;> omega
def zed:Nat→Rest→List (List UInt8) × Rest
 | 0,s=>([],s)
 | k+1,s=>((zed k s).1++[(dgS (zed k s).2).1],(dgS (zed k s).2).2)
def zyg (s:Rest):Itm × Rest:=(⟨(txS 16 s).1,((min (nmS (txS 16 s).2).1 9:Nat):Int),(dgS (nmS (txS 16 s).2).2).1⟩,(dgS (nmS (txS 16 s).2).2).2)
def zbn:Nat→Rest→List Itm × Rest
 | 0,s=>([],s)
 | k+1,s=>((zbn k s).1++[(zyg (zbn k s).2).1],(zyg (zbn k s).2).2)
def zak (s:Rest):Nod × Rest :=
 if min (nmS s).1 9=1 then (⟨1,(txS 64 (nmS s).2).1,0,[],[]⟩,(txS 64 (nmS s).2).2)
 else if min (nmS s).1 9=2 then (⟨2,[],((min (nmS (nmS s).2).1 1025:Nat):Int),(zed ((min (nmS (nmS s).2).1 1025+63) / 64) (nmS (nmS s).2).2).1,[]⟩,(zed ((min (nmS (nmS s).2).1 1025+63) / 64) (nmS (nmS s).2).2).2)
 else if min (nmS s).1 9=3 then (⟨3,[],0,[],(zbn (min (nmS (nmS s).2).1 65) (nmS (nmS s).2).2).1⟩,(zbn (min (nmS (nmS s).2).1 65) (nmS (nmS s).2).2).2)
 else (⟨((min (nmS s).1 9:Nat):Int),[],0,[],[]⟩,(nmS s).2)
theorem zp0 {s:Rest}:∀ {k:Nat},(zed k s).1.length=k
 | 0=>rfl
 | k+1=>by rw [zed,List.length_append,zp0];rfl
theorem z5b {s:Rest}:∀ {k:Nat},∀ p ∈ (zed k s).1,p.length=32
 | 0,p,h=>by cases h
 | k+1,p,h=>by
  simp only [zed,List.mem_append,List.mem_singleton] at h
  rcases h with h | rfl
  ·exact z5b p h
  ·exact zq1
theorem zn8 {s:Rest}:∀ {k:Nat},(zbn k s).1.length=k
 | 0=>rfl
 | k+1=>by rw [zbn,List.length_append,zn8];rfl
theorem z9t {s:Rest}:∀ {k:Nat},∀ p ∈ (zbn k s).1,p.sum.length=32
 | 0,p,h=>by cases h
 | k+1,p,h=>by
  simp only [zbn,List.mem_append,List.mem_singleton] at h
  rcases h with h | rfl
  ·exact z9t p h
  ·exact zq1
theorem zur {s:Rest}:(∀ p ∈ (zak s).1.parts,p.length=32)∧∀ i ∈ (zak s).1.items,i.sum.length=32:=by
 unfold zak
 split
 ·simp
 ·split
  ·exact ⟨z5b,by simp⟩
  ·split
   ·exact ⟨by simp,z9t⟩
   ·simp
structure NodM (H:Heap) (B:Nat) (n:Nod) (xp xi:Option Addr × Nat × Nat):Prop where
 parts:Mine H B zf 32 xp (n.parts.flatMap Bl.zfb)
 items:Mine H B ql 34 xi (n.items.flatMap zeg)
 p32:∀ p ∈ n.parts,p.length=32
 i32:∀ i ∈ n.items,i.sum.length=32
theorem NodM.nodW {H:Heap} {B:Nat} {n:Nod} {xp xi:Option Addr × Nat × Nat} (h:NodM H B n xp xi):NodW H n xp xi:=by
 have l1:=h.parts.len
 have l2:=h.items.len
 rw [qj Bl.zfb Bl.zdp] at l1
 rw [qj zeg zat] at l2
 exact ⟨h.parts.cells,by omega,h.items.cells,by omega,h.p32,h.i32⟩
theorem NodM.ext {H H':Heap} {B:Nat} {n:Nod} {xp xi:Option Addr × Nat × Nat} {M:List Nat} (h:NodM H B n xp xi) (hx:Ext M H H') (hM:∀ m ∈ M,m < B):NodM H' B n xp xi :=
 ⟨h.parts.ext hx (fun c hc hm=>by have:=jc h.parts c hc;have:=hM c hm;omega),h.items.ext hx (fun c hc hm=>by have:=jc h.items c hc;have:=hM c hm;omega),h.p32,h.i32⟩
theorem NodM.mono {H:Heap} {B B':Nat} {n:Nod} {xp xi:Option Addr × Nat × Nat} (h:NodM H B n xp xi) (hB:B'≤B):NodM H B' n xp xi :=
 ⟨h.parts.mono hB,h.items.mono hB,h.p32,h.i32⟩
theorem NodM.bare {H:Heap} {B:Nat} {n:Nod} (hp:n.parts=[]) (hi:n.items=[]):NodM H B n (none,0,0) (none,0,0) :=
 ⟨by rw [hp];exact .inl ⟨rfl,rfl⟩,by rw [hi];exact .inl ⟨rfl,rfl⟩,by rw [hp];simp,by rw [hi];simp⟩
theorem z9j {w:World} {H:Heap} {B:Nat} {x:Option Addr × Nat × Nat} {T:List Itm} {i:Itm} {Q:World→Prop} (hw:w.heap=H) (hm:Mine H B ql 34 x (T.flatMap zeg)) (hBs:B≤H.size) (hlen:T.length≤1073741824) (hQ:∀ w',Ext [] H w'.heap→Q w') {K:(Option Addr × Nat × Nat)→World→Prop}
  (hK:∀ x' w',Mine w'.heap B ql 34 x' ((T++[i]).flatMap zeg)→Ext (jf x) H w'.heap→(∀ c ∈ jf x',c ∈ jf x ∨ H.size≤c)→K x' w') :
  zaf P (Instr.buildSlice zad 1 #[(0,.agg (zeg i).toArray)]) .slc w fun (t27:(Option Addr × Nat × Nat)) w_13=>Q w_13 ∧
  zaf P (Builtin.append_ #[zad,zad] zad #[(Value.slice x.1 x.2.1 x.2.2),(Value.slice t27.1 t27.2.1 t27.2.2)]) .slc w_13 K:=by
 have hlx:x.2.1=T.length:=by
  have:=hm.len
  rw [qj zeg zat] at this
  omega
 refine zae (s:=.slc) (some ⟨w.heap.size,0,none⟩,1,1) _ (zd7 ET uST (v:=.agg (zeg i).toArray) (by simp [Value.cells,zat]) (by omega) (by omega)) ?_
 subst hw
 have hxp:Ext [] w.heap (w.heap.push (.cells (Value.agg (zeg i).toArray).cells ql)):=.push _
 refine ⟨hQ _ hxp,?_⟩
 refine zcf (bts:=56) (n:=1) (us:=zeg i) (H:=w.heap.push (.cells (Value.agg (zeg i).toArray).cells ql)) ET (by omega) uST (za4 uST) rfl (hm.ext hxp (by simp)) (by simp;omega)
  (Src.slc rfl (.inr ⟨w.heap.size,0,_,_,_,rfl,zo,by simp [ze5],by simp [ze5,List.take_of_length_le]⟩) (by rw [zat])) zyv (by omega) ?_
 intro x' w4 hm4 hl4 hx4 hs4
 refine hK x' w4 (by rw [List.flatMap_append,List.flatMap_singleton];exact hm4) ((hxp.mono (by simp)).trans hx4) (fun c hc=>?_)
 rcases hs4 c hc with h | h
 ·exact .inl h
 ·right;have:=hxp.1;omega
set_option maxHeartbeats 8000000 in
theorem qo6 {w:World} {H:Heap} {b:Nat} {F:List Nat} {s:Rest} (hw:w.heap=H) (hI:InW H b F s) (hF:∀ c ∈ F,c < H.size) :
  qg P zte #[.pointer (some ⟨b,0,none⟩)] w fun e w'=>∃ xp xi,e=.returned (.agg (zbz (zak s).1 xp xi).toArray)∧NodM w'.heap H.size (zak s).1 xp xi∧InW w'.heap b F (zak s).2∧Ext [b] H w'.heap:=by
 have hbl:=hI.lt
 refine qan ?_
 unfold ztn
 refine jw hw fun w1 hw1=>?_
 have hx1:Ext [] H w1.heap:=by rw [hw1];exact .push _
 have hd1:w1.heap[H.size]?=some (.cells (zc P zh) zh (0,0)):=by rw [hw1];exact zo
 have s1:=lt_of_get hd1
 refine zn (qcl rfl (hI.ext hx1 (by simp) (by simp))) ?_
 rintro e w2 ⟨rfl,hI2,hx2⟩
 refine ⟨((nmS s).1:Int),rfl,?_⟩
 have s2:=hx2.1
 refine qx (s:=.int .u64) ((min (nmS s).1 9:Nat):Int) (qqk 9 _ _) ?_
 refine zqc (by omega) (by omega) ?_
 refine qx (s:=.any) _ (bNk _ _) ?_
 refine qd3 ⟨((min (nmS s).1 9:Nat):Int),[],0,[],[]⟩ (none,0,0) (none,0,0) rfl fun w4 hw4=>?_
 have hx4:Ext [] w2.heap w4.heap:=by rw [hw4];exact .push _
 have hn4:w4.heap[w2.heap.size]?=some (.cells (zbz ⟨((min (nmS s).1 9:Nat):Int),[],0,[],[]⟩ (none,0,0) (none,0,0)).toArray zh (0,0)):=by rw [hw4];exact zo
 have s4:=lt_of_get hn4
 have hd4:=hx4.get (hx2.get hd1 (by simp;omega)) (by simp)
 have hI4:=hI2.ext hx4 (by simp) (by simp)
 have hx04:Ext [b] H w4.heap:=((hx1.mono (by simp)).trans hx2).trans (hx4.mono (by simp))
 refine Go.Fw.joinP_of (fun _ W=>∃ xp xi,W.heap[w2.heap.size]?=some (.cells (zbz (zak s).1 xp xi).toArray zh (0,0))∧(Mine W.heap w4.heap.size zf 32 xp ((zak s).1.parts.flatMap Bl.zfb)∧Mine W.heap w4.heap.size ql 34 xi ((zak s).1.items.flatMap zeg))∧InW W.heap b F (zak s).2∧Ext [b] H W.heap∧W.heap[H.size]?=some (.cells (zc P zh) zh (0,0))) ?_ ?_
 rotate_left
 ·rintro _ W ⟨xp,xi,h1,h2,h3,h4,hd⟩
  refine je rfl h1 rfl ?_
  refine zbw (v:=.agg (zbz (zak s).1 xp xi).toArray) (by rw [szN];rfl) (by simp [Value.cells,zbz]) (by
   intro v hv
   simp only [Value.cells,zbz,List.mem_cons,List.not_mem_nil,or_false] at hv
   rcases hv with rfl | rfl | rfl | rfl | rfl <;> rfl) rfl hd (by rw [zcN];simp [Value.cells,zbz]) fun w5 hw5=>?_
  rw [zax (by rw [zcN];simp [Value.cells,zbz])] at hw5
  have hx5:Ext [H.size] W.heap w5.heap:=by rw [hw5];exact Ext.set _ (by simp)
  have hd5:w5.heap[H.size]?=some (.cells (zbz (zak s).1 xp xi).toArray zh (0,0)):=by rw [hw5];exact qp hd
  refine je rfl hd5 rfl ?_
  have hnod:NodM w5.heap H.size (zak s).1 xp xi:=by
   obtain ⟨m1,m2⟩:=h2
   exact (NodM.ext ⟨m1,m2,zur.1,zur.2⟩ hx5 (fun c hc=>by simp at hc;omega)).mono (by omega)
  refine ⟨xp,xi,rfl,hnod,h3.ext hx5 (by simp;omega) (fun c hc h=>by simp at h;subst h;have:=hF _ hc;omega),h4.own hx5 (fun c hc hlt=>by simp at hc;omega)⟩
 refine jg (s:=.int .i64) (t:=((min (nmS s).1 9:Nat):Int)) rfl hn4 rfl ?_
 refine zab ?_
 have nil2:∀ {W:World},Mine W.heap w4.heap.size zf 32 (none,0,0) (([]:List (List UInt8)).flatMap Bl.zfb)∧Mine W.heap w4.heap.size ql 34 (none,0,0) (([]:List Itm).flatMap zeg):=⟨.inl ⟨rfl,rfl⟩,.inl ⟨rfl,rfl⟩⟩
 have bn:w2.heap.size ≠ b:=by have:=hx2.1;have:=hx1.1;omega
 have fn:∀ c ∈ F,w2.heap.size ≠ c:=fun c hc=>by have:=hF c hc;have:=hx2.1;have:=hx1.1;omega
 refine za5 (fun h1=>?_) (fun h1=>?_)
 ·have h1:min (nmS s).1 9=1:=by omega
  have hr:zak s=(⟨1,(txS 64 (nmS s).2).1,0,[],[]⟩,(txS 64 (nmS s).2).2):=by unfold zak;rw [if_pos h1]
  rw [h1] at hn4
  refine zn (qis (most:=64) rfl hI4 (by omega)) ?_
  rintro e w5 ⟨rfl,hI5,hx5⟩
  refine ⟨strOf (txS 64 (nmS s).2).1,rfl,?_⟩
  have hn5:=hx5.get hn4 (by simp;exact bn)
  refine zbp rfl hn5 (by simp [zbz]) fun w6 hw6=>?_
  have hx6:Ext [w2.heap.size] w5.heap w6.heap:=by rw [hw6];exact Ext.set _ (by simp)
  rw [hr]
  refine ⟨(none,0,0),(none,0,0),by rw [hw6];exact qp hn5,nil2,hI5.ext hx6 (by simp;exact bn.symm) (fun c hc h=>by simp at h;exact fn c hc h.symm),(hx04.trans hx5).own hx6 (fun c hc hlt=>by simp at hc;omega),hx6.get (hx5.get hd4 (by simp;omega)) (by simp;omega)⟩
 refine za5 (fun h2=>?_) (fun h2=>?_)
 ·have h1:min (nmS s).1 9 ≠ 1:=by omega
  have h2:min (nmS s).1 9=2:=by omega
  generalize hs2:nmS (nmS s).2=a2 at *
  have hr:zak s=(⟨2,[],((min a2.1 1025:Nat):Int),(zed ((min a2.1 1025+63) / 64) a2.2).1,[]⟩,(zed ((min a2.1 1025+63) / 64) a2.2).2):=by unfold zak;rw [if_neg h1,if_pos h2,hs2]
  rw [h2] at hn4
  refine zn (qcl rfl hI4) ?_
  rintro e w5 ⟨rfl,hI5,hx5⟩
  refine ⟨((nmS (nmS s).2).1:Int),rfl,?_⟩
  rw [hs2] at hI5 ⊢
  refine qx (s:=.int .u64) ((min a2.1 1025:Nat):Int) (qqk 1025 _ _) ?_
  generalize hK:min a2.1 1025=K at *
  have hK2:K≤1025:=by omega
  refine zqc (by omega) (by omega) ?_
  have hn5:=hx5.get hn4 (by simp;exact bn)
  refine zbp rfl hn5 (by simp [zbz]) fun w6 hw6=>?_
  have hx6:Ext [w2.heap.size] w5.heap w6.heap:=by rw [hw6];exact Ext.set _ (by simp)
  have hn6:w6.heap[w2.heap.size]?=some (.cells (zbz ⟨2,[],(K:Int),[],[]⟩ (none,0,0) (none,0,0)).toArray zh (0,0)):=by rw [hw6];exact qp hn5
  refine jg (s:=.int .i64) (t:=(K:Int)) rfl hn6 rfl ?_
  have hparts:qg P zi6 #[.int .i64 (K:Int)] w6 fun e w'=>e=.returned (.int .i64 (((K+63) / 64:Nat):Int))∧w'=w6:=by
   refine zut ?_
   unfold zmi
   refine xk ((K:Int)+64) rfl (by omega) (by omega) ?_
   refine zbo ((K:Int)+63) (by omega) (by omega) (by omega) ?_
   refine z0n (K+63) 64 (by omega) rfl (by omega) (by omega) ?_
   exact ⟨rfl,rfl⟩
  refine zn hparts ?_
  rintro e w7 ⟨rfl,rfl⟩
  refine ⟨(((K+63) / 64:Nat):Int),rfl,?_⟩
  have hI6:=hI5.ext hx6 (by simp;exact bn.symm) (fun c hc h=>by simp at h;exact fn c hc h.symm)
  have hx06:=(hx04.trans hx5).own hx6 (fun c hc hlt=>by simp at hc;omega)
  have hd6:=hx6.get (hx5.get hd4 (by simp;omega)) (by simp;omega)
  have s46:w4.heap.size≤w7.heap.size:=Nat.le_trans hx5.1 hx6.1
  generalize hM:(K+63) / 64=M at *
  rw [hr]
  refine jd (fun (t:Int) W=>∃ (i:Nat) (xp:Option Addr × Nat × Nat),t=(i:Int)∧i≤M∧W.heap[w2.heap.size]?=some (.cells (zbz ⟨2,[],(K:Int),(zed i a2.2).1,[]⟩ xp (none,0,0)).toArray zh (0,0))∧Mine W.heap w4.heap.size zf 32 xp ((zed i a2.2).1.flatMap Bl.zfb) ∧
   InW W.heap b F (zed i a2.2).2∧Ext [b] H W.heap∧W.heap[H.size]?=some (.cells (zc P zh) zh (0,0))∧w4.heap.size≤W.heap.size) (fun t _=>(M - t).toNat) ⟨0,(none,0,0),rfl,Nat.zero_le _,hn6,.inl ⟨rfl,rfl⟩,hI6,hx06,hd6,s46⟩ ?_
  rintro _ W ⟨i,xp,rfl,hi,g1,g2,g3,g4,g5,g6⟩
  refine zq (fun hlt=>?_) (fun hge=>?_)
  ·refine jq rfl fun w8 hw8=>?_
   rw [← hw8] at g1 g2 g3 g4 g5 g6
   refine jg (s:=.slc) (t:=xp) rfl g1 rfl ?_
   refine zn (qnf rfl g3 (fun c hc=>by have:=hF c hc;have:=g4.1;omega)) ?_
   rintro e w9 ⟨rfl,hI9,hx9⟩
   refine ⟨arr (dgS (zed i a2.2).2).1,rfl,?_⟩
   have k1:=hx9.get g1 (by simp;exact bn)
   have k2:=g2.ext hx9 (fun c hc h=>by simp at h;subst h;have:=jc g2 _ hc;omega)
   have s9:=hx9.1
   refine ⟨jg (s:=.slc) (o:=3) (t:=xp) (K:=fun z=>Value.slice z.1 z.2.1 z.2.2=Value.slice xp.1 xp.2.1 xp.2.2) rfl k1 rfl rfl,?_⟩
   refine z0u rfl k2 (by omega) zq1 (by rw [zp0];omega) (fun w10 hx10=>jg (s:=.slc) (o:=3) (t:=xp) (K:=fun z=>Value.slice z.1 z.2.1 z.2.2=Value.slice xp.1 xp.2.1 xp.2.2) rfl (hx10.get k1 (by simp)) rfl rfl) fun xp2 w11 hm11 hx11 hs11=>?_
   have own3:∀ {c:Nat},c < w4.heap.size→c ∉ jf xp:=fun h hc=>by have:=jc g2 _ hc;omega
   have k11:=hx11.get k1 (own3 s4)
   refine zbp rfl k11 (by simp [zbz]) fun w12 hw12=>?_
   have hx12:Ext [w2.heap.size] w11.heap w12.heap:=by rw [hw12];exact Ext.set _ (by simp)
   have s11:=hx11.1
   have s12:=hx12.1
   refine xk ((i+1:Nat):Int) (by simp) (by omega) (by omega) ?_
   refine ⟨⟨i+1,xp2,rfl,by omega,by rw [hw12];exact qp k11,hm11.ext hx12 (fun c hc h=>by simp at h;subst h;have:=jc hm11 _ hc;omega),?_,?_,?_,by omega⟩,by omega⟩
   ·refine (hI9.ext hx11 (own3 (by omega)) fun c hc=>own3 (by have:=hF c hc;omega)).ext hx12 (by simp;exact bn.symm) (fun c hc h=>by simp at h;exact fn c hc h.symm)
   ·exact ((g4.trans hx9).own hx11 (fun c hc hlt=>by have:=jc g2 _ hc;omega)).own hx12 (fun c hc hlt=>by simp at hc;omega)
   ·exact hx12.get (hx11.get (hx9.get g5 (by simp;omega)) (own3 (by omega))) (by simp;omega)
  ·obtain rfl:i=M:=by omega
   exact ⟨xp,(none,0,0),g1,⟨g2,.inl ⟨rfl,rfl⟩⟩,g3,g4,g5⟩
 refine za5 (fun h3=>?_) (fun h3=>?_)
 ·have h1:min (nmS s).1 9 ≠ 1:=by omega
  have h2:min (nmS s).1 9 ≠ 2:=by omega
  have h3:min (nmS s).1 9=3:=by omega
  generalize hs2:nmS (nmS s).2=a2 at *
  have hr:zak s=(⟨3,[],0,[],(zbn (min a2.1 65) a2.2).1⟩,(zbn (min a2.1 65) a2.2).2):=by unfold zak;rw [if_neg h1,if_neg h2,if_pos h3,hs2]
  rw [h3] at hn4
  refine zn (qcl rfl hI4) ?_
  rintro e w7 ⟨rfl,hI6,hx5⟩
  refine ⟨((nmS (nmS s).2).1:Int),rfl,?_⟩
  rw [hs2] at hI6 ⊢
  refine qx (s:=.int .u64) ((min a2.1 65:Nat):Int) (qqk 65 _ _) ?_
  generalize hM:min a2.1 65=M at *
  have hn6:=hx5.get hn4 (by simp;exact bn)
  have hx06:=hx04.trans hx5
  have hd6:=hx5.get hd4 (by simp;omega)
  have s46:w4.heap.size≤w7.heap.size:=hx5.1
  rw [hr]
  refine jd (fun (t:Int) W=>∃ (i:Nat) (xi:Option Addr × Nat × Nat),t=(i:Int)∧i≤M∧W.heap[w2.heap.size]?=some (.cells (zbz ⟨3,[],0,[],(zbn i a2.2).1⟩ (none,0,0) xi).toArray zh (0,0))∧Mine W.heap w4.heap.size ql 34 xi ((zbn i a2.2).1.flatMap zeg) ∧
   InW W.heap b F (zbn i a2.2).2∧Ext [b] H W.heap∧W.heap[H.size]?=some (.cells (zc P zh) zh (0,0))∧w4.heap.size≤W.heap.size) (fun t _=>(M - t).toNat) ⟨0,(none,0,0),rfl,Nat.zero_le _,hn6,.inl ⟨rfl,rfl⟩,hI6,hx06,hd6,s46⟩ ?_
  rintro _ W ⟨i,xi,rfl,hi,g1,g2,g3,g4,g5,g6⟩
  refine zq (fun hlt=>?_) (fun hge=>?_)
  ·refine jq rfl fun w8 hw8=>?_
   rw [← hw8] at g1 g2 g3 g4 g5 g6
   have re:∀ {W':World},W'.heap[w2.heap.size]?=some (.cells (zbz ⟨3,[],0,[],(zbn i a2.2).1⟩ (none,0,0) xi).toArray zh (0,0))→ld .slc (⟨w2.heap.size,4,none⟩:Addr) W' fun z=>Value.slice z.1 z.2.1 z.2.2=Value.slice xi.1 xi.2.1 xi.2.2:=fun h=>jg (s:=.slc) (o:=4) (t:=xi) (K:=fun z=>Value.slice z.1 z.2.1 z.2.2=Value.slice xi.1 xi.2.1 xi.2.2) rfl h rfl rfl
   refine jg (s:=.slc) (t:=xi) rfl g1 rfl ?_
   refine zn (qis (most:=16) rfl g3 (by omega)) ?_
   rintro e w9 ⟨rfl,hI9,hx9⟩
   refine ⟨strOf (txS 16 (zbn i a2.2).2).1,rfl,?_⟩
   have k9:=hx9.get g1 (by simp;exact bn)
   refine ⟨re k9,?_⟩
   refine zn (qcl rfl hI9) ?_
   rintro e w10 ⟨rfl,hI10,hx10⟩
   refine ⟨((nmS (txS 16 (zbn i a2.2).2).2).1:Int),rfl,?_⟩
   have k10:=hx10.get k9 (by simp;exact bn)
   refine ⟨re k10,?_⟩
   refine qx (s:=.int .u64) ((min (nmS (txS 16 (zbn i a2.2).2).2).1 9:Nat):Int) (qqk 9 _ _) ?_
   refine zqc (by omega) (by omega) ?_
   have s9:=hx9.1
   have s10:=hx10.1
   have s04:=g4.1
   refine zn (qnf rfl hI10 (fun c hc=>by have:=hF c hc;omega)) ?_
   rintro e w11 ⟨rfl,hI11,hx11⟩
   refine ⟨arr (dgS (nmS (txS 16 (zbn i a2.2).2).2).2).1,rfl,?_⟩
   have k11:=hx11.get k10 (by simp;exact bn)
   refine ⟨qx (s:=.int .u64) ((min (nmS (txS 16 (zbn i a2.2).2).2).1 9:Nat):Int) (qqk 9 _ _) rfl,re k11,?_⟩
   refine qx (s:=.any) (.agg (zeg (zyg (zbn i a2.2).2).1).toArray) (by rw [bT3 _ _ zq1];unfold zeg zyg;rw [Bl.zev zq1];rfl) ?_
   have hx811:=(hx9.trans hx10).trans hx11
   have k2:=g2.ext hx811 (fun c hc h=>by simp at h;subst h;have:=jc g2 _ hc;omega)
   have s11:=hx11.1
   refine z9j (i:=(zyg (zbn i a2.2).2).1) rfl k2 (by omega) (by rw [zn8];omega) (fun w12 hx12=>re (hx12.get k11 (by simp))) fun xi2 w13 hm13 hx13 hs13=>?_
   have own3:∀ {c:Nat},c < w4.heap.size→c ∉ jf xi:=fun h hc=>by have:=jc g2 _ hc;omega
   have k13:=hx13.get k11 (own3 s4)
   refine zbp rfl k13 (by simp [zbz]) fun w14 hw14=>?_
   have hx14:Ext [w2.heap.size] w13.heap w14.heap:=by rw [hw14];exact Ext.set _ (by simp)
   have s13:=hx13.1
   have s14:=hx14.1
   refine ⟨((i+1:Nat):Int),(by rw [wrap_u64] <;> omega),?_⟩
   have hI:InW w11.heap b F (zbn (i+1) a2.2).2:=hI11
   refine ⟨⟨i+1,xi2,rfl,by omega,by rw [hw14];exact qp k13,hm13.ext hx14 (fun c hc h=>by simp at h;subst h;have:=jc hm13 _ hc;omega),?_,?_,?_,by omega⟩,by omega⟩
   ·refine (hI.ext hx13 (own3 (by omega)) fun c hc=>own3 (by have:=hF c hc;omega)).ext hx14 (by simp;exact bn.symm) (fun c hc h=>by simp at h;exact fn c hc h.symm)
   ·exact ((g4.trans hx811).own hx13 (fun c hc hlt=>by have:=jc g2 _ hc;omega)).own hx14 (fun c hc hlt=>by simp at hc;omega)
   ·exact hx14.get (hx13.get (hx811.get g5 (by simp;omega)) (own3 (by omega))) (by simp;omega)
  ·obtain rfl:i=M:=by omega
   exact ⟨(none,0,0),xi,g1,⟨.inl ⟨rfl,rfl⟩,g2⟩,g3,g4,g5⟩
 ·have h1:min (nmS s).1 9 ≠ 1:=by omega
  have h2:min (nmS s).1 9 ≠ 2:=by omega
  have h3:min (nmS s).1 9 ≠ 3:=by omega
  have hr:zak s=(⟨((min (nmS s).1 9:Nat):Int),[],0,[],[]⟩,(nmS s).2):=by unfold zak;rw [if_neg h1,if_neg h2,if_neg h3]
  rw [hr]
  exact ⟨(none,0,0),(none,0,0),hn4,nil2,hI4,hx04,hd4⟩
def zdo:Nod:=⟨0,[],0,[],[]⟩
def zj8 (L:List UInt8):Nod × Int:=if (zak (some L)).2=some []∧zan (zak (some L)).1=true then ((zak (some L)).1,0) else (zdo,21)
theorem qk3 {m:Nat} {s:Rest}:(txS m s).1.length≤m:=by
 unfold txS
 cases s with
 | none=>simp
 | some R =>
  simp only
  cases h:zq4 m R with
  | none=>simp
  | some y =>
   unfold zq4 at h
   cases h2:rdNum R with
   | none=>rw [h2] at h;cases h
   | some z =>
    rw [h2] at h
    simp only at h
    split at h
    ·cases h
    ·rename_i h3
     simp only [Option.some.injEq] at h
     rw [← h];simp;omega
theorem zxp {s:Rest}:∀ {k:Nat},∀ i ∈ (zbn k s).1,i.name.length≤16
 | 0,p,h=>by cases h
 | k+1,p,h=>by
  simp only [zbn,List.mem_append,List.mem_singleton] at h
  rcases h with h | rfl
  ·exact zxp p h
  ·exact qk3
theorem zrd {s:Rest}:(zak s).1.size≤1025∧(∀ i ∈ (zak s).1.items,i.name.length≤16)∧(zak s).1.items.length≤65:=by
 unfold zak
 split
 ·simp
 ·split
  ·exact ⟨by simp only;omega,by simp,by simp⟩
  ·split
   ·exact ⟨by simp,zxp,by simp only;rw [zn8];omega⟩
   ·simp
theorem bN0 (w:World):(Instr.build zh #[]).run P w=.ok (.agg (zbz zdo (none,0,0) (none,0,0)).toArray) w:=by kernel_rfl
theorem stN {w:World} {H:Heap} {b:Nat} {c:Array Value} {T:TypeId} (n:Nod) (xp xi:Option Addr × Nat × Nat) (hw:w.heap=H) (hb:H[b]?=some (.cells c T (0,0))) (hs:c.size=5) {K:World→Prop}
  (hK:∀ w',w'.heap=H.setIfInBounds b (.cells (zbz n xp xi).toArray T (0,0))→K w'):zbs P (storeVar zh (⟨b,0,none⟩:Addr) (.agg (zbz n xp xi).toArray)) w K:=by
 refine zbw (v:=.agg (zbz n xp xi).toArray) (by rw [szN];rfl) (by simp [Value.cells,zbz]) (by
   intro v hv
   simp only [Value.cells,zbz,List.mem_cons,List.not_mem_nil,or_false] at hv
   rcases hv with rfl | rfl | rfl | rfl | rfl <;> rfl) hw hb (by rw [hs];simp [Value.cells,zbz]) fun w5 hw5=>hK w5 ?_
 rw [zax (by rw [hs];simp [Value.cells,zbz])] at hw5
 simpa [Value.cells] using hw5
theorem zkc {w:World} {H:Heap} {b:Nat} {R:Array Value→World→Prop} (hw:w.heap=H) (hb:H[b]?=some (.cells (zc P zh) zh (0,0))) (hR:∀ w',Ext [b] H w'.heap→R (zbz zdo (none,0,0) (none,0,0)).toArray w') :
  zay P (Instr.build zh #[]) .any w fun (t:Value)=>zbs P (storeVar zh (⟨b,0,none⟩:Addr) t) w fun w2=>ldA P 5 (⟨b,0,none⟩:Addr) w2 fun t4=>R t4 w2:=by
 refine qx (s:=.any) _ (bN0 _) ?_
 refine stN zdo (none,0,0) (none,0,0) hw hb zcN fun w2 hw2=>?_
 have hb2:w2.heap[b]?=some (.cells (zbz zdo (none,0,0) (none,0,0)).toArray zh (0,0)):=by rw [hw2];exact qp hb
 refine je rfl hb2 rfl ?_
 exact hR w2 (by rw [hw2];exact Ext.set _ (by simp))
set_option maxHeartbeats 4000000 in
theorem qin {w:World} {H:Heap} {a:Option Addr} {n nc:Nat} {L:List UInt8} (hw:w.heap=H) (hL:Cells H a (byteCells L)) (hn:n=L.length) (hl:L.length≤1099511627776) :
  qg P zpe #[.slice a n nc] w fun e w'=>∃ xp xi,e=.returned (.tuple #[.agg (zbz (zj8 L).1 xp xi).toArray,.int .i64 (zj8 L).2])∧NodM w'.heap H.size (zj8 L).1 xp xi∧Ext [] H w'.heap:=by
 refine z3u ?_
 unfold zpw
 refine jw hw fun w1 hw1=>?_
 have hx1:Ext [] H w1.heap:=by rw [hw1];exact .push _
 have hd1:w1.heap[H.size]?=some (.cells (zc P zh) zh (0,0)):=by rw [hw1];exact zo
 have s1:=lt_of_get hd1
 refine zn (qqa rfl (hL.ext hx1 (by simp)) hn hl) ?_
 rintro e w2 ⟨b,F,rfl,hI2,hx2,hb2,hF2,hb2l,hF2l⟩
 refine ⟨some ⟨b,0,none⟩,rfl,?_⟩
 have hd2:=hx2.get hd1 (by simp)
 refine zn (qo6 rfl hI2 hF2l) ?_
 rintro e w3 ⟨xp,xi,rfl,hN3,hI3,hx3⟩
 refine ⟨.agg (zbz (zak (some L)).1 xp xi).toArray,rfl,?_⟩
 have hsm:=zrd (s:=some L)
 have hdec:zj8 L=if (zak (some L)).2=some []∧zan (zak (some L)).1=true then ((zak (some L)).1,0) else (zdo,21):=rfl
 generalize zak (some L)=D at *
 have hx13:Ext [] w1.heap w3.heap:=hx2.own hx3 (fun c hc hlt=>by simp at hc;omega)
 have hd3:=hx13.get hd1 (by simp)
 refine qd3 D.1 xp xi rfl fun w5 hw5=>?_
 have hx5:Ext [] w3.heap w5.heap:=by rw [hw5];exact .push _
 have hn5:w5.heap[w3.heap.size]?=some (.cells (zbz D.1 xp xi).toArray zh (0,0)):=by rw [hw5];exact zo
 have s3:=hx13.1
 have hd5:=hx5.get hd3 (by simp)
 have hx05:=(hx1.trans hx13).trans hx5
 have bad:∀ {W W':World},¬ (D.2=some []∧zan D.1=true)→Ext [] w5.heap W.heap→Ext [H.size] W.heap W'.heap→∃ xp xi,Ending.returned (.tuple #[.agg (zbz zdo (none,0,0) (none,0,0)).toArray,.int .i64 21])=.returned (.tuple #[.agg (zbz (zj8 L).1 xp xi).toArray,.int .i64 (zj8 L).2])∧NodM W'.heap H.size (zj8 L).1 xp xi∧Ext [] H W'.heap:=by
  intro W W' h hxa hxb
  rw [hdec,if_neg h]
  exact ⟨_,_,rfl,.bare rfl rfl,(hx05.trans hxa).own hxb (fun c hc hlt=>by simp at hc;omega)⟩
 refine Go.Fw.joinP_of (fun _ W=>Ext [] w5.heap W.heap∧(D.2=some []∧zan D.1=true)) ?_ ?_
 ·refine zn (qqf rfl (hI3.ext hx5 (by simp) (by simp))) ?_
  rintro e w6 ⟨rfl,rfl⟩
  refine ⟨decide (D.2=some []),rfl,?_⟩
  by_cases he:D.2=some []
  ·refine jk (by simp [he]) ?_
   refine je rfl hn5 rfl ?_
   refine zn (qk1 rfl (hN3.nodW.ext hx5) (by omega) (fun i hi=>by have:=hsm.2.1 i hi;omega) (by omega)) ?_
   rintro e w8 ⟨rfl,hx8⟩
   refine ⟨zan D.1,rfl,?_⟩
   cases hr:zan D.1 with
   | true=>exact jk rfl ⟨hx8,he,rfl⟩
   | false=>exact vw rfl (zkc rfl (hx8.get hd5 (by simp)) fun w9 hx9=>bad (fun h=>by rw [hr] at h;cases h.2) hx8 hx9)
  ·exact vw (by simp [he]) (zkc rfl hd5 fun w7 hx7=>bad (fun h=>he h.1) (.refl _ _) hx7)
 ·rintro _ W ⟨hx,hok⟩
  refine je rfl (hx.get hn5 (by simp)) rfl ?_
  refine stN D.1 xp xi rfl (hx.get hd5 (by simp)) zcN fun w11 hw11=>?_
  have hx11:Ext [H.size] W.heap w11.heap:=by rw [hw11];exact Ext.set _ (by simp)
  have hd11:w11.heap[H.size]?=some (.cells (zbz D.1 xp xi).toArray zh (0,0)):=by rw [hw11];exact qp (hx.get hd5 (by simp))
  refine je rfl hd11 rfl ?_
  rw [hdec,if_pos hok]
  refine ⟨xp,xi,rfl,?_,(hx05.trans hx).own hx11 (fun c hc hlt=>by simp at hc;omega)⟩
  have s2:=hx2.1
  exact (((hN3.ext hx5 (by simp)).ext hx (by simp)).ext hx11 (fun c hc=>by simp at hc;omega)).mono (by omega)
def zkr (v:Option (List UInt8)) (k:List UInt8) (kind:Int):Nod × Int :=
 if Bl.got v k ≠ 0 then (zdo,Bl.got v k) else if (zj8 (v.getD [])).2 ≠ 0 ∨ (zj8 (v.getD [])).1.kind ≠ kind then (zdo,21) else ((zj8 (v.getD [])).1,0)
set_option maxHeartbeats 4000000 in
theorem qks {w:World} {H:Heap} {fp:List Nat} {p:Nat} {q:Int} {r:Bl.SM} {c:Nat} {k:List UInt8} {kind:Int} (hw:w.heap=H) (hS:Bl.Store H fp p q r c) (hk:k.length=32) (hR:Bl.Rounds H) (hlen:∀ L,Bl.zaq r k=some L→L.length < 1099511627776) :
  qg P zie #[.pointer (some ⟨p,0,none⟩),arr k,.int .i64 kind] w fun e w'=>∃ xp xi,e=.returned (.tuple #[.agg (zbz (zkr (Bl.zaq r k) k kind).1 xp xi).toArray,.int .i64 (zkr (Bl.zaq r k) k kind).2])∧NodM w'.heap H.size (zkr (Bl.zaq r k) k kind).1 xp xi∧Ext [] H w'.heap:=by
 refine qet ?_
 unfold zwz
 rw [show (arr k).cells=(byteCells k).toArray from rfl]
 refine jw hw fun w1 hw1=>?_
 have hx1:Ext [] H w1.heap:=by rw [hw1];exact .push _
 have hb1:w1.heap[H.size]?=some (.cells (byteCells k).toArray zf (0,0)):=by rw [hw1];exact zo
 have s1:=lt_of_get hb1
 refine jw rfl fun w2 hw2=>?_
 have hx2:Ext [] w1.heap w2.heap:=by rw [hw2];exact .push _
 have hd2:w2.heap[w1.heap.size]?=some (.cells (zc P zh) zh (0,0)):=by rw [hw2];exact zo
 have s2:=lt_of_get hd2
 have hx02:=hx1.trans hx2
 refine je rfl (hx2.get hb1 (by simp)) (by simp [hk]) ?_
 refine zn (Bl.qks (k:=k) rfl (hS.ext hx02 (by simp)) hk (hR.ext hx02 (by simp)) hlen) ?_
 rintro e w3 ⟨x,rfl,hx3,hgot,hno⟩
 refine ⟨(x,Bl.got (Bl.zaq r k) k),rfl,?_⟩
 have hd3:=hx3.get hd2 (by simp)
 have hx03:=hx02.trans hx3
 refine zam (fun h=>?_) (fun h=>?_)
 ·have hv:zkr (Bl.zaq r k) k kind=(zdo,Bl.got (Bl.zaq r k) k):=by unfold zkr;rw [if_pos h]
  refine zkc rfl hd3 fun w4 hx4=>?_
  rw [hv]
  exact ⟨_,_,rfl,.bare rfl rfl,hx03.own hx4 (fun c hc hlt=>by simp at hc;omega)⟩
 have h:Bl.got (Bl.zaq r k) k=0:=h
 obtain ⟨L,hL,hm⟩:=hgot h
 have hv:zkr (Bl.zaq r k) k kind=if (zj8 L).2 ≠ 0 ∨ (zj8 L).1.kind ≠ kind then (zdo,21) else ((zj8 L).1,0):=by
  unfold zkr;rw [if_neg (by simpa using h),hL];rfl
 have hxl:x.2.1=L.length:=by have:=hm.len;simp at this;omega
 refine zn (qin (L:=L) rfl hm.cells hxl (by have:=hlen L hL;omega)) ?_
 rintro e w5 ⟨xp,xi,rfl,hN5,hx5⟩
 refine ⟨(.agg (zbz (zj8 L).1 xp xi).toArray,(zj8 L).2),rfl,?_⟩
 generalize zj8 L=D at *
 have hd5:=hx5.get hd3 (by simp)
 have s3:=hx3.1
 have s5:=hx5.1
 refine qd3 D.1 xp xi rfl fun w7 hw7=>?_
 have hx7:Ext [] w5.heap w7.heap:=by rw [hw7];exact .push _
 have hn7:w7.heap[w5.heap.size]?=some (.cells (zbz D.1 xp xi).toArray zh (0,0)):=by rw [hw7];exact zo
 have hd7:=hx7.get hd5 (by simp)
 have hx07:=(hx03.trans hx5).trans hx7
 have bad:∀ {W':World},(D.2 ≠ 0 ∨ D.1.kind ≠ kind)→Ext [w1.heap.size] w7.heap W'.heap→∃ xp xi,Ending.returned (.tuple #[.agg (zbz zdo (none,0,0) (none,0,0)).toArray,.int .i64 21])=.returned (.tuple #[.agg (zbz (zkr (Bl.zaq r k) k kind).1 xp xi).toArray,.int .i64 (zkr (Bl.zaq r k) k kind).2])∧NodM W'.heap H.size (zkr (Bl.zaq r k) k kind).1 xp xi∧Ext [] H W'.heap:=by
  intro W' h hxb
  rw [hv,if_pos h]
  exact ⟨_,_,rfl,.bare rfl rfl,hx07.own hxb (fun c hc hlt=>by simp at hc;omega)⟩
 refine Go.Fw.joinP_of (fun _ W=>W.heap=w7.heap∧¬ (D.2 ≠ 0 ∨ D.1.kind ≠ kind)) ?_ ?_
 ·refine zam (fun h1=>?_) (fun h1=>?_)
  ·exact zkc rfl hd7 fun w8 hx8=>bad (.inl h1) hx8
  ·refine jg (s:=.int .i64) (t:=D.1.kind) rfl hn7 rfl ?_
   refine zam (fun h2=>?_) (fun h2=>?_)
   ·exact zkc rfl hd7 fun w8 hx8=>bad (.inr h2) hx8
   ·exact ⟨rfl,fun h=>h.elim (fun h=>h h1) (fun h=>h h2)⟩
 ·rintro _ W ⟨hW,hok⟩
  rw [← hW] at hn7 hd7
  have hxW:Ext [] H W.heap:=by rw [hW];exact hx07
  refine je rfl hn7 rfl ?_
  refine stN D.1 xp xi rfl hd7 zcN fun w11 hw11=>?_
  have hx11:Ext [w1.heap.size] W.heap w11.heap:=by rw [hw11];exact Ext.set _ (by simp)
  have hd11:w11.heap[w1.heap.size]?=some (.cells (zbz D.1 xp xi).toArray zh (0,0)):=by rw [hw11];exact qp hd7
  refine je rfl hd11 rfl ?_
  rw [hv,if_neg hok]
  refine ⟨xp,xi,rfl,?_,hxW.own hx11 (fun c hc hlt=>by simp at hc;omega)⟩
  have k1:=hN5.ext hx7 (by simp)
  rw [← hW] at k1
  exact (k1.ext hx11 (fun c hc=>by simp at hc;omega)).mono (by omega)
theorem qj8 {w:World} {H:Heap} {b:Nat} (hw:w.heap=H) (hb:H[b]?=some (.cells #[.pointer none,.slice none 0 0] jm (0,0))) :
  qg P zb3 #[.pointer (some ⟨b,0,none⟩)] w fun e w'=>e=.returned (.string (strOf []))∧w'.heap=H:=by
 refine zgc ?_
 unfold zda
 refine jq hw fun w1 hw1=>?_
 simp only [xq,jv,Nat.zero_add]
 refine jg (s:=.slc) (t:=(none,0,0)) hw1 hb rfl ?_
 refine jg (s:=.slc) (t:=(none,0,0)) hw1 hb rfl ?_
 refine zae (s:=.ptr) none w1 (Lib.run_unsafeSliceData_nil w1 _ _ _ _) ?_
 refine ⟨jg (s:=.slc) (t:=(none,0,0)) hw1 hb rfl rfl,?_⟩
 refine zae (s:=.str) (strOf []) w1 (Lib.run_unsafeString_none w1 _ _ _ _) ?_
 exact ⟨rfl,hw1⟩
def zyp (g:List UInt8→Nod × Int) (size:Int):Nat→List (List UInt8)→List UInt8→List UInt8 × Int
 | _,[],acc=>(acc,0)
 | i,p :: ps,acc=>if (g p).2 ≠ 0 then ([],(g p).2) else if ((g p).1.data.length:Int) ≠ min 64 (size - 64 * i) then ([],21) else zyp g size (i+1) ps (acc++(g p).1.data)
def zdr (r:Bl.SM) (n:Nod):List UInt8 × Int:=zyp (fun k=>zkr (Bl.zaq r k) k 1) n.size 0 n.parts []
theorem qaj {L:List UInt8}:(zj8 L).1.data.length≤64∧((zj8 L).2=0→(zj8 L).1.kind=1→(zj8 L).1.data ≠ []):=by
 unfold zj8
 split
 ·rename_i h
  constructor
  ·unfold zak
   split
   ·exact qk3
   ·split
    ·simp
    ·split <;> simp
  ·intro _ hk hd
   have h2:=h.2
   unfold zan at h2
   rw [if_pos hk] at h2
   simp only [decide_eq_true_eq] at h2
   simp only at hd
   rw [hd] at h2
   simp at h2
 ·exact ⟨by simp [zdo],by intro h;simp at h⟩
theorem qce {v:Option (List UInt8)} {k:List UInt8}:(zkr v k 1).1.data.length≤64∧((zkr v k 1).2=0→(zkr v k 1).1.data ≠ []):=by
 unfold zkr
 split
 ·rename_i h;exact ⟨by simp [zdo],fun h'=>absurd h' h⟩
 ·split
  ·exact ⟨by simp [zdo],by intro h;simp at h⟩
  ·rename_i h
   refine ⟨qaj.1,fun _=>qaj.2 ?_ ?_⟩
   ·exact Decidable.byContradiction fun h'=>h (.inl h')
   ·exact Decidable.byContradiction fun h'=>h (.inr h')
set_option maxHeartbeats 4000000 in
theorem qkg {w:World} {H:Heap} {fp:List Nat} {p:Nat} {q:Int} {r:Bl.SM} {c:Nat} {n:Nod} {xp xi:Option Addr × Nat × Nat} (hw:w.heap=H) (hS:Bl.Store H fp p q r c) (hR:Bl.Rounds H) (hlen:∀ k L,Bl.zaq r k=some L→L.length < 1099511627776)
  (hN:NodW H n xp xi) (hpl:n.parts.length≤65536) (hs1:-1099511627776≤n.size) (hs2:n.size≤1099511627776) :
  qg P zcc #[.pointer (some ⟨p,0,none⟩),.agg (zbz n xp xi).toArray] w fun e w'=>e=.returned (.tuple #[.string (strOf (zdr r n).1),.int .i64 (zdr r n).2])∧Ext [] H w'.heap:=by
 refine z0z ?_
 unfold zm2
 refine jw hw fun w1 hw1=>?_
 have hx1:Ext [] H w1.heap:=by rw [hw1];exact .push _
 have hb1:w1.heap[H.size]?=some (.cells (zbz n xp xi).toArray zh (0,0)):=by rw [hw1];exact zo
 have s1:=lt_of_get hb1
 refine jw rfl fun w2 hw2=>?_
 have hx2:Ext [] w1.heap w2.heap:=by rw [hw2];exact .push _
 have hd2:w2.heap[w1.heap.size]?=some (.cells #[.pointer none,.slice none 0 0] jm (0,0)):=by rw [hw2,zcB];exact zo
 have s2:=lt_of_get hd2
 have hx02:=hx1.trans hx2
 refine jg (s:=.slc) (t:=xp) rfl (hx2.get hb1 (by simp)) rfl ?_
 refine jd (fun (s:Int) W=>∃ (i:Nat) (acc:List UInt8),s=(i:Int)∧i≤n.parts.length∧zyp (fun k=>zkr (Bl.zaq r k) k 1) n.size i (n.parts.drop i) acc=zdr r n∧Ext [] H W.heap∧w2.heap.size≤W.heap.size∧acc.length≤64 * i∧W.heap[H.size]?=some (.cells (zbz n xp xi).toArray zh (0,0)) ∧
   Bd W.heap w2.heap.size w1.heap.size acc∧((acc=[]∧W.heap[w1.heap.size]?=some (.cells #[.pointer none,.slice none 0 0] jm (0,0))) ∨ acc ≠ [])) (fun s _=>(n.parts.length - s).toNat)
  ⟨0,[],rfl,Nat.zero_le _,rfl,hx02,Nat.le_refl _,by simp,hx2.get hb1 (by simp),⟨(none,0,0),none,hd2,.inl rfl,s2,.inl ⟨rfl,rfl⟩⟩,.inl ⟨rfl,hd2⟩⟩ ?_
 rintro _ W ⟨i,acc,rfl,hi,hc,hx,hsz,hal,hbW,hB,hne⟩
 have hxl:xp.2.1=n.parts.length:=hN.plen
 refine zq (fun hlt=>?_) (fun hge=>?_)
 ·have hil:i < n.parts.length:=by omega
  have hget:=List.getElem?_eq_getElem hil
  have hk32:=hN.p32 _ (List.getElem_mem hil)
  rw [List.drop_eq_getElem_cons hil] at hc
  generalize n.parts[i]=k at hget hk32 hc
  refine zgx (i:=i) Bl.zdp (by omega) rfl (hN.parts.ext hx (by simp)) hxl hget rfl ?_
  rw [Bl.zev hk32]
  refine qoj hk32 rfl fun w5 hw5=>?_
  have hx5:Ext [] W.heap w5.heap:=by rw [hw5];exact .push _
  have hb5:w5.heap[W.heap.size]?=some (.cells (byteCells k).toArray zf (0,0)):=by rw [hw5];exact zo
  refine je rfl hb5 (by simp [hk32]) ?_
  have hx05:=hx.trans hx5
  refine zn (qks (k:=k) rfl (hS.ext hx05 (by simp)) hk32 (hR.ext hx05 (by simp)) (hlen k)) ?_
  rintro e w6 ⟨yp,yi,rfl,hN6,hx6⟩
  refine ⟨(.agg (zbz (zkr (Bl.zaq r k) k 1).1 yp yi).toArray,(zkr (Bl.zaq r k) k 1).2),rfl,?_⟩
  have hgd:=qce (v:=Bl.zaq r k) (k:=k)
  unfold zyp at hc
  generalize zkr (Bl.zaq r k) k 1=D at *
  refine qd3 D.1 yp yi rfl fun w8 hw8=>?_
  have hx8:Ext [] w6.heap w8.heap:=by rw [hw8];exact .push _
  have hn8:w8.heap[w6.heap.size]?=some (.cells (zbz D.1 yp yi).toArray zh (0,0)):=by rw [hw8];exact zo
  have hxW8:=(hx5.trans hx6).trans hx8
  refine zam (fun h=>?_) (fun h=>?_)
  ·rw [if_pos h] at hc
   rw [← hc]
   exact ⟨rfl,hx.trans hxW8⟩
  have h:D.2=0:=h
  rw [if_neg (by simpa using h)] at hc
  refine jg (s:=.str) (t:=strOf D.1.data) rfl hn8 rfl ?_
  refine jg (s:=.int .i64) (t:=n.size) rfl (hxW8.get hbW (by simp)) rfl ?_
  refine zff ((64 * i:Nat):Int) (by omega) (by omega) (by omega) ?_
  refine zbo (n.size - 64 * (i:Int)) (by omega) (by omega) (by omega) ?_
  refine qx (s:=.int .i64) (min 64 (n.size - 64 * (i:Int))) (by
   rw [run_min_int2];congr 2
   by_cases h:(n.size - 64 * (i:Int)) < 64
   ·rw [if_pos h];omega
   ·rw [if_neg h];omega) ?_
  refine zam (fun h2=>?_) (fun h2=>?_)
  ·simp only [jl] at h2
   rw [if_pos h2] at hc
   rw [← hc]
   exact ⟨rfl,hx.trans hxW8⟩
  simp only [jl] at h2
  rw [if_neg (by simpa using h2)] at hc
  refine jg (s:=.str) (t:=strOf D.1.data) rfl hn8 rfl ?_
  have hB8:Bd w8.heap w2.heap.size w1.heap.size acc:=by
   obtain ⟨x,pp,b1,b2,b3,b4⟩:=hB
   exact ⟨x,pp,hxW8.get b1 (by simp),b2,b3,b4.ext hxW8 (by simp)⟩
  have s8:=hxW8.1
  refine zn (zkb (M:=D.1.data) rfl hB8 (by omega) (by omega)) ?_
  rintro e w9 ⟨rfl,hB9,F,hx9,hF⟩
  refine ⟨((D.1.data.length:Int),.nilIface),rfl,?_⟩
  refine xk ((i+1:Nat):Int) (by simp) (by omega) (by omega) ?_
  have s9:=hx9.1
  refine ⟨⟨i+1,acc++D.1.data,rfl,by omega,hc,(hx.trans hxW8).own hx9 (fun c hc hlt=>by rcases hF c hc with h | h <;> omega),by omega,by simp;omega,hx9.get (hxW8.get hbW (by simp)) (fun hc=>by rcases hF _ hc with h | h <;> omega),hB9,.inr (by have:=hgd.2 h;simp [this])⟩,by omega⟩
 ·obtain rfl:i=n.parts.length:=by omega
  rw [List.drop_length] at hc
  unfold zyp at hc
  rw [← hc]
  rcases hne with ⟨rfl,h0⟩ | h0
  ·refine zn (qj8 rfl h0) ?_
   rintro e w6 ⟨rfl,h6⟩
   exact ⟨strOf [],rfl,rfl,by rw [h6];exact hx⟩
  ·refine zn (string_c rfl hB h0 (by omega)) ?_
   rintro e w6 ⟨rfl,F6,hx6,hF6⟩
   exact ⟨strOf acc,rfl,rfl,hx.own hx6 (by intro b hb hlt;have:=hF6 b hb;omega)⟩
theorem qgb {w:World} {H:Heap} {B:Nat} {x:Option Addr × Nat × Nat} {p:Path} (hw:w.heap=H) (hm:Mine H B qc 1 x (strRow p)) (hp:p.length≤1099511627776) :
  qg P zbu #[.slice x.1 x.2.1 x.2.2] w fun e w'=>∃ x',e=.returned (zck x')∧Mine w'.heap H.size qc 1 x' (strRow p)∧Ext [] H w'.heap:=by
 have hl:x.2.1=p.length:=by have:=hm.len;simp at this;omega
 have hC:=hm.cells
 refine zin ?_
 unfold zc5
 by_cases h:x.1.isNone=true
 ·have hx0:x.1=none:=by simpa using h
  refine vw h ?_
  rcases hm with ⟨_,h2⟩ | ⟨_,_,h2,_⟩
  ·exact ⟨(none,0,0),rfl,.inl ⟨rfl,h2⟩,by rw [hw];exact .refl _ _⟩
  ·rw [hx0] at h2;cases h2
 ·refine jk (by cases hh:x.1 with
   | none=>rw [hh] at h;exact absurd rfl h
   | some v=>rfl) ?_
  refine qrf hw fun w1 hx1 hm1=>?_
  refine qo2 (xs:=[]) (ys:=p) rfl hm1 hx1.1 (hC.ext hx1 (by simp)) hl (by simp;omega) fun x' w2 hm2 hx2=>?_
  exact ⟨x',rfl,hm2,hx1.own hx2 (fun c hc hlt=>by simp [jf] at hc;omega)⟩
def zef (g:List UInt8→Int→Nod × Int) (ct:Nod→List UInt8 × Int) (rec:List Itm→Path→List Fil→List Fil × Int) (names:Path):List Itm→List Fil→List Fil × Int
 | [],out=>(out,0)
 | it :: its,out =>
  if out.length=512 then ([],8) else if 8 < names.length+1 then ([],42)
  else if (g it.sum it.kind).2 ≠ 0 then ([],(g it.sum it.kind).2)
  else if it.kind=3 then
   if (rec (g it.sum it.kind).1.items (names++[it.name]) (out++[⟨vk (names++[it.name]),true,[]⟩])).2 ≠ 0 then ([],(rec (g it.sum it.kind).1.items (names++[it.name]) (out++[⟨vk (names++[it.name]),true,[]⟩])).2)
   else zef g ct rec names its (rec (g it.sum it.kind).1.items (names++[it.name]) (out++[⟨vk (names++[it.name]),true,[]⟩])).1
  else if (ct (g it.sum it.kind).1).2 ≠ 0 then ([],(ct (g it.sum it.kind).1).2)
  else zef g ct rec names its (out++[⟨vk (names++[it.name]),false,(ct (g it.sum it.kind).1).1⟩])
def zl7 (g:List UInt8→Int→Nod × Int) (ct:Nod→List UInt8 × Int):Nat→List Itm→Path→List Fil→List Fil × Int
 | 0,_,_,_=>([],42)
 | f+1,items,names,out=>zef g ct (zl7 g ct f) names items out
def zeh (H:Heap) (B:Nat) (out:Option Addr × Nat × Nat) (res:List Fil × Int) (e:Ending) (w':World):Prop :=
 ∃ x',e=.returned (.tuple #[zck x',.int .i64 res.2])∧Ext (jf out) H w'.heap∧(res.2=0→Mine w'.heap B zl 3 x' (res.1.flatMap zbf)∧res.1.length≤512)∧∀ c ∈ jf x',c ∈ jf out ∨ H.size≤c
def zoc (H:Heap) (B:Nat) (out:Option Addr × Nat × Nat) (res:List Fil × Int) (next:List Fil→List Fil × Int) (s:Option Addr × Nat × Nat) (w':World):Prop :=
 ∃ L,next L=res∧Ext (jf out) H w'.heap∧Mine w'.heap B zl 3 s (L.flatMap zbf)∧L.length≤512∧∀ c ∈ jf s,c ∈ jf out ∨ H.size≤c
theorem zn4 {v:Option (List UInt8)} {k:List UInt8} {kind:Int}:(zkr v k kind).1.items.length≤65∧(∀ i ∈ (zkr v k kind).1.items,i.name.length≤16)∧(zkr v k kind).1.size≤1025∧0≤(zkr v k kind).1.size∧(zkr v k kind).1.parts.length≤65536:=by
 have hd:∀ L,(zj8 L).1.items.length≤65∧(∀ i ∈ (zj8 L).1.items,i.name.length≤16)∧(zj8 L).1.size≤1025∧0≤(zj8 L).1.size∧(zj8 L).1.parts.length≤65536:=by
  intro L
  unfold zj8
  split
  ·have:=zrd (s:=some L)
   refine ⟨this.2.2,this.2.1,this.1,?_,?_⟩
   ·unfold zak;repeat' split
    all_goals simp
   ·unfold zak;repeat' split
    all_goals simp [zp0]
    all_goals omega
  ·simp [zdo]
 unfold zkr
 split
 ·simp [zdo]
 ·split
  ·simp [zdo]
  ·exact hd _
theorem z6d {w:World} {H:Heap} {B:Nat} {x:Option Addr × Nat × Nat} {T:List Fil} {i:Fil} (hw:w.heap=H) (hm:Mine H B zl 3 x (T.flatMap zbf)) (hBs:B≤H.size) (hlen:T.length≤1073741824) {K:(Option Addr × Nat × Nat)→World→Prop}
  (hK:∀ x' w',Mine w'.heap B zl 3 x' ((T++[i]).flatMap zbf)→Ext (jf x) H w'.heap→(∀ c ∈ jf x',c ∈ jf x ∨ H.size≤c)→K x' w') :
  zaf P (Instr.buildSlice zu 1 #[(0,.agg (zbf i).toArray)]) .slc w fun (t27:(Option Addr × Nat × Nat)) w_13 =>
  zaf P (Builtin.append_ #[zu,zu] zu #[(Value.slice x.1 x.2.1 x.2.2),(Value.slice t27.1 t27.2.1 t27.2.2)]) .slc w_13 K:=by
 have hlx:x.2.1=T.length:=by have:=hm.len;rw [z3l] at this;omega
 refine zae (s:=.slc) (some ⟨w.heap.size,0,none⟩,1,1) _ (zd7 EFi uFs (v:=.agg (zbf i).toArray) (by simp [Value.cells,zba]) (by omega) (by omega)) ?_
 subst hw
 have hxp:Ext [] w.heap (w.heap.push (.cells (Value.agg (zbf i).toArray).cells zl)):=.push _
 refine zcf (bts:=40) (n:=1) (us:=zbf i) (H:=w.heap.push (.cells (Value.agg (zbf i).toArray).cells zl)) EFi (by omega) uFs (za4 uFs) rfl (hm.ext hxp (by simp)) (by simp;omega)
  (Src.slc rfl (.inr ⟨w.heap.size,0,_,_,_,rfl,zo,by simp [ze5],by simp [ze5,List.take_of_length_le]⟩) (by rw [zba])) zva (by omega) ?_
 intro x' w4 hm4 hl4 hx4 hs4
 refine hK x' w4 (by rw [List.flatMap_append,List.flatMap_singleton];exact hm4) ((hxp.mono (by simp)).trans hx4) (fun c hc=>?_)
 rcases hs4 c hc with h | h
 ·exact .inl h
 ·right;have:=hxp.1;omega
theorem qqi {H:Heap} {B:Nat} {out:Option Addr × Nat × Nat} {res:List Fil × Int} {next:List Fil→List Fil × Int} {fp:List Nat} {p:Nat} {q:Int} {r:Bl.SM} {c:Nat} {rec:List Itm→Path→List Fil→List Fil × Int} {names':Path} {d:Bool} {D:Nod} {yp yi y28 o:Option Addr × Nat × Nat} {b13 b15:Nat} {L:List Fil} {w:World}
  (hS:Bl.Store w.heap fp p q r c) (hR:Bl.Rounds w.heap) (hfp:∀ b ∈ fp,b < B) (hB0:0 < B) (hBs:B≤H.size) (hlen:∀ k L,Bl.zaq r k=some L→L.length < 1099511627776)
  (hx:Ext (jf out) H w.heap) (h13:w.heap[b13]?=some (.cells (zbz D yp yi).toArray zh (0,0))) (h15:w.heap[b15]?=some (.cells (zbf ⟨vk names',d,[]⟩).toArray zl (0,0))) (hb15:H.size≤b15) (hb13:H.size≤b13)
  (hno:b15 ∉ jf o) (hno13:b13 ∉ jf o) (hD:NodM w.heap B D yp yi) (hDp:D.parts.length≤65536) (hDs:0≤D.size) (hDs2:D.size≤1025) (hY:Mine w.heap B qc 1 y28 (strRow names'))
  (hO:Mine w.heap B zl 3 o (L.flatMap zbf)) (hL:L.length < 512) (hoo:∀ c ∈ jf o,c ∈ jf out ∨ H.size≤c)
  (hdir:d=true→res=if (rec D.items names' (L++[(⟨vk names',true,[]⟩:Fil)])).2 ≠ 0 then ([],(rec D.items names' (L++[(⟨vk names',true,[]⟩:Fil)])).2) else next (rec D.items names' (L++[(⟨vk names',true,[]⟩:Fil)])).1)
  (hfile:d=false→res=if (zdr r D).2 ≠ 0 then ([],(zdr r D).2) else next (L++[(⟨vk names',false,(zdr r D).1⟩:Fil)]))
  (hrec:d=true→∀ {w2:World} {o2:Option Addr × Nat × Nat},Ext (jf o) w.heap w2.heap→Mine w2.heap B zl 3 o2 ((L++[(⟨vk names',true,[]⟩:Fil)]).flatMap zbf)→(∀ c ∈ jf o2,c ∈ jf o ∨ w.heap.size≤c)→NodM w2.heap B D yp yi→Mine w2.heap B qc 1 y28 (strRow names') →
   qg P zcd #[.pointer (some ⟨p,0,none⟩),.agg (zbz D yp yi).toArray,.slice y28.1 y28.2.1 y28.2.2,.slice o2.1 o2.2.1 o2.2.2] w2 (zeh w2.heap B o2 (rec D.items names' (L++[(⟨vk names',true,[]⟩:Fil)])))) :
  Go.Fw.joinP Unit (fun k_2 =>
  ld .bool (⟨b15,1,none⟩:Addr) w fun (t56:Bool) =>
  xg (!t56) (
  ldA P 5 (⟨b13,0,none⟩:Addr) w fun t60 =>
  qy P zcc #[(Value.pointer (some ⟨p,0,none⟩)),(Value.agg t60)] [.str,.int .i64] true w fun (t61:(ByteArray × Int)) w_16 =>
  stC (⟨b15,2,none⟩:Addr) (Value.string t61.1) w_16 fun w_17 =>
  xg (t61.2 != 0) (
  zeh H B out res (.returned (Value.tuple #[(Value.slice none 0 0),(Value.int .i64 t61.2)])) w_17) (
  k_2 () w_17)) (
  k_2 () w)) (fun _ w_18 =>
  ldA P 3 (⟨b15,0,none⟩:Addr) w_18 fun t69 =>
  zaf P (Instr.buildSlice zu 1 #[(0,(Value.agg t69))]) .slc w_18 fun (t70:(Option Addr × Nat × Nat)) w_19 =>
  zaf P (Builtin.append_ #[zu,zu] zu #[(Value.slice o.1 o.2.1 o.2.2),(Value.slice t70.1 t70.2.1 t70.2.2)]) .slc w_19 fun (t71:(Option Addr × Nat × Nat)) w_20 =>
  ld .bool (⟨b15,1,none⟩:Addr) w_20 fun (t73:Bool) =>
  xg t73 (
  ldA P 5 (⟨b13,0,none⟩:Addr) w_20 fun t76 =>
  qy P zcd #[(Value.pointer (some ⟨p,0,none⟩)),(Value.agg t76),(Value.slice y28.1 y28.2.1 y28.2.2),(Value.slice t71.1 t71.2.1 t71.2.2)] [.slc,.int .i64] true w_20 fun (t79:((Option Addr × Nat × Nat) × Int)) w_21 =>
  xg (t79.2 != 0) (
  zeh H B out res (.returned (Value.tuple #[(Value.slice none 0 0),(Value.int .i64 t79.2)])) w_21) (
  zoc H B out res next (t79.1.1,t79.1.2.1,t79.1.2.2) w_21)) (
  zoc H B out res next (t71.1,t71.2.1,t71.2.2) w_20)):=by
 have bs:=lt_of_get h15
 have sH:=hx.1
 refine Go.Fw.joinP_of (fun _ W=>Ext [b15] w.heap W.heap∧W.heap[b15]?=some (.cells (zbf ⟨vk names',d,if d then [] else (zdr r D).1⟩).toArray zl (0,0))∧(d=true→W.heap=w.heap)∧(d=false→(zdr r D).2=0)) ?_ ?_
 ·refine jg (s:=.bool) (t:=d) rfl h15 rfl ?_
  cases d with
  | true=>exact jk rfl ⟨.refl _ _,h15,fun _=>rfl,fun h=>by cases h⟩
  | false =>
   refine vw rfl ?_
   refine je rfl h13 rfl ?_
   refine zn (qkg rfl hS hR hlen hD.nodW hDp (by omega) (by omega)) ?_
   rintro e w16 ⟨rfl,hx16⟩
   refine ⟨(strOf (zdr r D).1,(zdr r D).2),rfl,?_⟩
   have k15:=hx16.get h15 (by simp)
   refine zbp rfl k15 (by simp [zbf]) fun w17 hw17=>?_
   have hx17:Ext [b15] w16.heap w17.heap:=by rw [hw17];exact Ext.set _ (by simp)
   refine zam (fun h=>?_) (fun h=>?_)
   ·have h:(zdr r D).2 ≠ 0:=h
    have hr:=hfile rfl
    rw [if_pos h] at hr
    refine ⟨(none,0,0),by rw [hr];rfl,(hx.trans (hx16.mono (by simp))).own hx17 (fun c hc hlt=>by simp at hc;omega),fun h0=>?_,by simp [jf]⟩
    rw [hr] at h0;exact absurd h0 h
   ·exact ⟨(hx16.mono (by simp)).trans hx17,by rw [hw17];exact qp k15,(fun h=>by cases h),fun _=>h⟩
 rintro _ W ⟨hxW,hbW,hWd,hok⟩
 have sW:=hxW.1
 refine je rfl hbW rfl ?_
 have hOW:=hO.ext hxW (fun c hc h=>by simp at h;subst h;exact hno hc)
 refine z6d rfl hOW (by omega) (by omega) fun x71 w20 hm20 hx20 hs20=>?_
 have s20:=hx20.1
 refine jg (s:=.bool) (t:=d) rfl (hx20.get hbW hno) rfl ?_
 have hx020:Ext (jf out) H w20.heap:=(hx.own hxW (fun c hc hlt=>by simp at hc;omega)).own hx20 (fun c hc hlt=>by
  rcases hoo c hc with h | h
  ·exact h
  ·omega)
 have ho20:∀ c ∈ jf x71,c ∈ jf out ∨ H.size≤c:=fun c hc=>by
  rcases hs20 c hc with h | h
  ·exact hoo c h
  ·right;omega
 cases d with
 | false =>
  have h0:=hok rfl
  have hr:=hfile rfl
  rw [if_neg (by simpa using h0)] at hr
  exact jk rfl ⟨_,hr.symm,hx020,hm20,by simp;omega,ho20⟩
 | true =>
  refine vw rfl ?_
  have hWw:=hWd rfl
  rw [hWw] at hx20 hs20
  have k13:=hx20.get h13 hno13
  refine je rfl k13 rfl ?_
  have hN:=hD.parts
  have ne1:=zeo hD.parts hO (by decide)
  have ne2:=zeo hD.items hO (by decide)
  have ne3:=zeo hY hO (by decide)
  refine zn (hrec rfl hx20 hm20 hs20 ⟨hD.parts.ext hx20 ne1,hD.items.ext hx20 ne2,hD.p32,hD.i32⟩ (hY.ext hx20 ne3)) ?_
  rintro e w21 ⟨x79,rfl,hx21,hres,hs21⟩
  have hr:=hdir rfl
  generalize rec D.items names' (L++[(⟨vk names',true,[]⟩:Fil)])=Z at *
  refine ⟨(x79,Z.2),rfl,?_⟩
  have hx021:Ext (jf out) H w21.heap:=hx020.own hx21 (fun c hc hlt=>by
   rcases ho20 c hc with h | h
   ·exact h
   ·omega)
  have ho21:∀ c ∈ jf x79,c ∈ jf out ∨ H.size≤c:=fun c hc=>by
   rcases hs21 c hc with h | h
   ·exact ho20 c h
   ·right;omega
  refine zam (fun h=>?_) (fun h=>?_)
  ·have h:Z.2 ≠ 0:=h
   rw [if_pos h] at hr
   refine ⟨(none,0,0),by rw [hr];rfl,hx021,fun h0=>?_,by simp [jf]⟩
   rw [hr] at h0;exact absurd h0 h
  ·have h:Z.2=0:=h
   rw [if_neg (by simpa using h)] at hr
   exact ⟨Z.1,hr.symm,hx021,(hres h).1,(hres h).2,ho21⟩
theorem bFd (s:ByteArray) (b:Bool) (w:World):(Instr.build zl #[(0,.string s),(1,.bool b)]).run P w=.ok (.agg #[.string s,.bool b,.string .empty]) w:=by kernel_rfl
theorem qqh {i:Itm}:(zeg i).toArray.extract 2 34=(Bl.zfb i.sum).toArray:=by
 apply Array.toList_inj.1
 have:=Bl.zdp i.sum
 simp [zeg,List.take_of_length_le,this]
theorem stF {w:World} {H:Heap} {b:Nat} {c:Array Value} {T:TypeId} (f:Fil) (hw:w.heap=H) (hb:H[b]?=some (.cells c T (0,0))) (hs:c.size=3) {K:World→Prop}
  (hK:∀ w',w'.heap=H.setIfInBounds b (.cells (zbf f).toArray T (0,0))→K w'):zbs P (storeVar zl (⟨b,0,none⟩:Addr) (.agg (zbf f).toArray)) w K:=by
 refine zbw (v:=.agg (zbf f).toArray) (by rw [szF];rfl) (by simp [Value.cells,zbf]) (by simpa [Value.cells] using zva) hw hb (by rw [hs];simp [Value.cells,zbf]) fun w5 hw5=>hK w5 ?_
 rw [zax (by rw [hs];simp [Value.cells,zbf])] at hw5
 simpa [Value.cells] using hw5
def gV (r:Bl.SM) (k:List UInt8) (kind:Int):Nod × Int:=zkr (Bl.zaq r k) k kind
set_option maxHeartbeats 4000000 in
theorem qqu {H:Heap} {B:Nat} {out:Option Addr × Nat × Nat} {res:List Fil × Int} {fp:List Nat} {p:Nat} {q:Int} {r:Bl.SM} {c:Nat} {rec:List Itm→Path→List Fil→List Fil × Int} {names:Path} {it:Itm} {its:List Itm} {y28 o:Option Addr × Nat × Nat} {b11:Nat} {L:List Fil} {w:World} {next:List Fil→List Fil × Int}
  (hS:Bl.Store w.heap fp p q r c) (hR:Bl.Rounds w.heap) (hfp:∀ b ∈ fp,b < B) (hB0:0 < B) (hBs:B≤H.size) (hlen:∀ k L,Bl.zaq r k=some L→L.length < 1099511627776)
  (hx:Ext (jf out) H w.heap) (h11:w.heap[b11]?=some (.cells (zeg it).toArray ql (0,0))) (h32:it.sum.length=32) (hno:b11 ∉ jf o) (hsm:tlen (names++[it.name])+(names++[it.name]).length≤1099511627776)
  (hY:Mine w.heap B qc 1 y28 (strRow (names++[it.name])))
  (hO:Mine w.heap B zl 3 o (L.flatMap zbf)) (hL:L.length≤512) (hoo:∀ c ∈ jf o,c ∈ jf out ∨ H.size≤c)
  (hnx:next=zef (gV r) (zdr r) rec names its) (hres:res=zef (gV r) (zdr r) rec names (it :: its) L)
  (hrec:names.length+1≤8→∀ {w2:World} {o2:Option Addr × Nat × Nat} {D:Nod} {yp yi:Option Addr × Nat × Nat} {L2:List Fil},Bl.Store w2.heap fp p q r c→Bl.Rounds w2.heap→B≤w2.heap.size→NodM w2.heap B D yp yi→D.items.length≤65→(∀ i ∈ D.items,i.name.length≤16)→Mine w2.heap B qc 1 y28 (strRow (names++[it.name]))→Mine w2.heap B zl 3 o2 (L2.flatMap zbf)→L2.length≤512 →
   qg P zcd #[.pointer (some ⟨p,0,none⟩),.agg (zbz D yp yi).toArray,.slice y28.1 y28.2.1 y28.2.2,.slice o2.1 o2.2.1 o2.2.2] w2 (zeh w2.heap B o2 (rec D.items (names++[it.name]) L2))) :
  xg ((o.2.1:Int) == 512) (
  zeh H B out res (.returned (Value.tuple #[(Value.slice none 0 0),(Value.int .i64 8)])) w) (
  xg (decide ((y28.2.1:Int) > 8)) (
  zeh H B out res (.returned (Value.tuple #[(Value.slice none 0 0),(Value.int .i64 42)])) w) (
  ldA P 32 (⟨b11,2,none⟩:Addr) w fun t40 =>
  ld (.int .i64) (⟨b11,1,none⟩:Addr) w fun (t42:Int) =>
  qy P zie #[(Value.pointer (some ⟨p,0,none⟩)),(Value.agg t40),(Value.int .i64 t42)] [.any,.int .i64] true w fun (t43:(Value × Int)) w_9 =>
  zbj (zc P zh) zh w_9 fun b13 w_10 =>
  zbs P (storeVar zh (⟨b13,0,none⟩:Addr) t43.1) w_10 fun w_11 =>
  xg (t43.2 != 0) (
  zeh H B out res (.returned (Value.tuple #[(Value.slice none 0 0),(Value.int .i64 t43.2)])) w_11) (
  zbd w_11 fun w_12 =>
  ld (.int .i64) (⟨b11,1,none⟩:Addr) w_12 fun (t52:Int) =>
  ((qy P zci #[(Value.slice y28.1 y28.2.1 y28.2.2)] [.str] false w_12 fun (t50:ByteArray) w_13 =>
  ((ld (.int .i64) (⟨b11,1,none⟩:Addr) w_13 fun (t52_1:Int) =>
  (Value.int .i64 t52_1)=(Value.int .i64 t52)) ∧
  zay P (Instr.build zl #[(0,(Value.string t50)),(1,(Value.bool (t52 == 3)))]) .any w_13 fun (t54:Value) =>
  zbj (zc P zl) zl w_13 fun b15 w_14 =>
  ((zay P (Instr.build zl #[(0,(Value.string t50)),(1,(Value.bool (t52 == 3)))]) .any w_14 fun (t54_1:Value) =>
  t54_1=t54) ∧
  ((ld (.int .i64) (⟨b11,1,none⟩:Addr) w_14 fun (t52_2:Int) =>
  (Value.int .i64 t52_2)=(Value.int .i64 t52)) ∧
  zbs P (storeVar zl (⟨b15,0,none⟩:Addr) t54) w_14 fun w_15 =>
  Go.Fw.joinP Unit (fun k_2 =>
  ld .bool (⟨b15,1,none⟩:Addr) w_15 fun (t56:Bool) =>
  xg (!t56) (
  ldA P 5 (⟨b13,0,none⟩:Addr) w_15 fun t60 =>
  qy P zcc #[(Value.pointer (some ⟨p,0,none⟩)),(Value.agg t60)] [.str,.int .i64] true w_15 fun (t61:(ByteArray × Int)) w_16 =>
  stC (⟨b15,2,none⟩:Addr) (Value.string t61.1) w_16 fun w_17 =>
  xg (t61.2 != 0) (
  zeh H B out res (.returned (Value.tuple #[(Value.slice none 0 0),(Value.int .i64 t61.2)])) w_17) (
  k_2 () w_17)) (
  k_2 () w_15)) (fun _ w_18 =>
  ldA P 3 (⟨b15,0,none⟩:Addr) w_18 fun t69 =>
  zaf P (Instr.buildSlice zu 1 #[(0,(Value.agg t69))]) .slc w_18 fun (t70:(Option Addr × Nat × Nat)) w_19 =>
  zaf P (Builtin.append_ #[zu,zu] zu #[(Value.slice o.1 o.2.1 o.2.2),(Value.slice t70.1 t70.2.1 t70.2.2)]) .slc w_19 fun (t71:(Option Addr × Nat × Nat)) w_20 =>
  ld .bool (⟨b15,1,none⟩:Addr) w_20 fun (t73:Bool) =>
  xg t73 (
  ldA P 5 (⟨b13,0,none⟩:Addr) w_20 fun t76 =>
  qy P zcd #[(Value.pointer (some ⟨p,0,none⟩)),(Value.agg t76),(Value.slice y28.1 y28.2.1 y28.2.2),(Value.slice t71.1 t71.2.1 t71.2.2)] [.slc,.int .i64] true w_20 fun (t79:((Option Addr × Nat × Nat) × Int)) w_21 =>
  xg (t79.2 != 0) (
  zeh H B out res (.returned (Value.tuple #[(Value.slice none 0 0),(Value.int .i64 t79.2)])) w_21) (
  zoc H B out res next (t79.1.1,t79.1.2.1,t79.1.2.2) w_21)) (
  zoc H B out res next (t71.1,t71.2.1,t71.2.2) w_20)))))) ∧
  (zbj (zc P zl) zl w_12 fun b15_1 w_22 =>
  ((ld (.int .i64) (⟨b11,1,none⟩:Addr) w_22 fun (t52_3:Int) =>
  (Value.int .i64 t52_3)=(Value.int .i64 t52)) ∧
  qy P zci #[(Value.slice y28.1 y28.2.1 y28.2.2)] [.str] false w_22 fun (t50_1:ByteArray) w_23 =>
  ((ld (.int .i64) (⟨b11,1,none⟩:Addr) w_23 fun (t52_4:Int) =>
  (Value.int .i64 t52_4)=(Value.int .i64 t52)) ∧
  zay P (Instr.build zl #[(0,(Value.string t50_1)),(1,(Value.bool (t52 == 3)))]) .any w_23 fun (t54_2:Value) =>
  zbs P (storeVar zl (⟨b15_1,0,none⟩:Addr) t54_2) w_23 fun w_24 =>
  Go.Fw.joinP Unit (fun k_3 =>
  ld .bool (⟨b15_1,1,none⟩:Addr) w_24 fun (t56_1:Bool) =>
  xg (!t56_1) (
  ldA P 5 (⟨b13,0,none⟩:Addr) w_24 fun t60_1 =>
  qy P zcc #[(Value.pointer (some ⟨p,0,none⟩)),(Value.agg t60_1)] [.str,.int .i64] true w_24 fun (t61_1:(ByteArray × Int)) w_25 =>
  stC (⟨b15_1,2,none⟩:Addr) (Value.string t61_1.1) w_25 fun w_26 =>
  xg (t61_1.2 != 0) (
  zeh H B out res (.returned (Value.tuple #[(Value.slice none 0 0),(Value.int .i64 t61_1.2)])) w_26) (
  k_3 () w_26)) (
  k_3 () w_24)) (fun _ w_27 =>
  ldA P 3 (⟨b15_1,0,none⟩:Addr) w_27 fun t69_1 =>
  zaf P (Instr.buildSlice zu 1 #[(0,(Value.agg t69_1))]) .slc w_27 fun (t70_1:(Option Addr × Nat × Nat)) w_28 =>
  zaf P (Builtin.append_ #[zu,zu] zu #[(Value.slice o.1 o.2.1 o.2.2),(Value.slice t70_1.1 t70_1.2.1 t70_1.2.2)]) .slc w_28 fun (t71_1:(Option Addr × Nat × Nat)) w_29 =>
  ld .bool (⟨b15_1,1,none⟩:Addr) w_29 fun (t73_1:Bool) =>
  xg t73_1 (
  ldA P 5 (⟨b13,0,none⟩:Addr) w_29 fun t76_1 =>
  qy P zcd #[(Value.pointer (some ⟨p,0,none⟩)),(Value.agg t76_1),(Value.slice y28.1 y28.2.1 y28.2.2),(Value.slice t71_1.1 t71_1.2.1 t71_1.2.2)] [.slc,.int .i64] true w_29 fun (t79_1:((Option Addr × Nat × Nat) × Int)) w_30 =>
  xg (t79_1.2 != 0) (
  zeh H B out res (.returned (Value.tuple #[(Value.slice none 0 0),(Value.int .i64 t79_1.2)])) w_30) (
  zoc H B out res next (t79_1.1.1,t79_1.1.2.1,t79_1.1.2.2) w_30)) (
  zoc H B out res next (t71_1.1,t71_1.2.1,t71_1.2.2) w_29))))))))):=by
 have hol:o.2.1=L.length:=by have:=hO.len;rw [z3l] at this;omega
 have hyl:y28.2.1=names.length+1:=by have:=hY.len;simp at this;omega
 have bad:∀ {W:World} {code:Int},res=([],code)→code ≠ 0→Ext (jf out) H W.heap→zeh H B out res (.returned (.tuple #[.slice none 0 0,.int .i64 code])) W:=by
  intro W code hr hc hxW
  refine ⟨(none,0,0),by rw [hr];rfl,hxW,fun h0=>?_,by simp [jf]⟩
  rw [hr] at h0;exact absurd h0 hc
 rw [zef] at hres
 refine za5 (fun h=>?_) (fun h=>?_)
 ·exact bad (by rw [hres,if_pos (by omega)]) (by decide) hx
 rw [if_neg (by omega)] at hres
 refine zq (fun h8=>?_) (fun h8=>?_)
 ·exact bad (by rw [hres,if_pos (by omega)]) (by decide) hx
 rw [if_neg (by omega)] at hres
 refine zmy rfl h11 (by simp [zat]) ?_
 rw [qqh,Bl.zev h32]
 refine jg (s:=.int .i64) (t:=it.kind) rfl h11 rfl ?_
 refine zn (qks (k:=it.sum) (kind:=it.kind) rfl hS h32 hR (hlen it.sum)) ?_
 rintro e w9 ⟨yp,yi,rfl,hN9,hx9⟩
 refine ⟨(.agg (zbz (gV r it.sum it.kind).1 yp yi).toArray,(gV r it.sum it.kind).2),rfl,?_⟩
 have hit:=zn4 (v:=Bl.zaq r it.sum) (k:=it.sum) (kind:=it.kind)
 change NodM w9.heap w.heap.size (gV r it.sum it.kind).1 yp yi at hN9
 change (gV r it.sum it.kind).1.items.length≤65∧(∀ i ∈ (gV r it.sum it.kind).1.items,i.name.length≤16)∧(gV r it.sum it.kind).1.size≤1025∧0≤(gV r it.sum it.kind).1.size∧(gV r it.sum it.kind).1.parts.length≤65536 at hit
 generalize gV r it.sum it.kind=D at *
 refine qd3 D.1 yp yi rfl fun w11 hw11=>?_
 have hx11:Ext [] w9.heap w11.heap:=by rw [hw11];exact .push _
 have h13:w11.heap[w9.heap.size]?=some (.cells (zbz D.1 yp yi).toArray zh (0,0)):=by rw [hw11];exact zo
 have hxw11:=hx9.trans hx11
 have sH:=hx.1
 have s9:=hx9.1
 refine zam (fun h=>?_) (fun h=>?_)
 ·have h:D.2 ≠ 0:=h
  exact bad (by rw [hres,if_pos h]) h (hx.trans (hxw11.mono (by simp)))
 have h:D.2=0:=h
 rw [if_neg (by simpa using h)] at hres
 refine jq rfl fun w12 hw12=>?_
 rw [← hw12] at hx11 hxw11 h13
 have k11:=hxw11.get h11 (by simp)
 refine jg (s:=.int .i64) (t:=it.kind) rfl k11 rfl ?_
 have tail:∀ {w15:World} {b15:Nat},Ext [] w12.heap w15.heap→w12.heap.size≤b15→w15.heap[b15]?=some (.cells (zbf ⟨vk (names++[it.name]),it.kind == 3,[]⟩).toArray zl (0,0))→Go.Fw.joinP Unit (fun k_2 =>
  ld .bool (⟨b15,1,none⟩:Addr) w15 fun (t56:Bool) =>
  xg (!t56) (
  ldA P 5 (⟨w9.heap.size,0,none⟩:Addr) w15 fun t60 =>
  qy P zcc #[(Value.pointer (some ⟨p,0,none⟩)),(Value.agg t60)] [.str,.int .i64] true w15 fun (t61:(ByteArray × Int)) w_16 =>
  stC (⟨b15,2,none⟩:Addr) (Value.string t61.1) w_16 fun w_17 =>
  xg (t61.2 != 0) (
  zeh H B out res (.returned (Value.tuple #[(Value.slice none 0 0),(Value.int .i64 t61.2)])) w_17) (
  k_2 () w_17)) (
  k_2 () w15)) (fun _ w_18 =>
  ldA P 3 (⟨b15,0,none⟩:Addr) w_18 fun t69 =>
  zaf P (Instr.buildSlice zu 1 #[(0,(Value.agg t69))]) .slc w_18 fun (t70:(Option Addr × Nat × Nat)) w_19 =>
  zaf P (Builtin.append_ #[zu,zu] zu #[(Value.slice o.1 o.2.1 o.2.2),(Value.slice t70.1 t70.2.1 t70.2.2)]) .slc w_19 fun (t71:(Option Addr × Nat × Nat)) w_20 =>
  ld .bool (⟨b15,1,none⟩:Addr) w_20 fun (t73:Bool) =>
  xg t73 (
  ldA P 5 (⟨w9.heap.size,0,none⟩:Addr) w_20 fun t76 =>
  qy P zcd #[(Value.pointer (some ⟨p,0,none⟩)),(Value.agg t76),(Value.slice y28.1 y28.2.1 y28.2.2),(Value.slice t71.1 t71.2.1 t71.2.2)] [.slc,.int .i64] true w_20 fun (t79:((Option Addr × Nat × Nat) × Int)) w_21 =>
  xg (t79.2 != 0) (
  zeh H B out res (.returned (Value.tuple #[(Value.slice none 0 0),(Value.int .i64 t79.2)])) w_21) (
  zoc H B out res next (t79.1.1,t79.1.2.1,t79.1.2.2) w_21)) (
  zoc H B out res next (t71.1,t71.2.1,t71.2.2) w_20)):=by
  intro w15 b15 hx15 hb15 h15
  have hx015:=hxw11.trans hx15
  have s12:=hxw11.1
  refine qqi (rec:=rec) (names':=names++[it.name]) (d:=it.kind == 3) (D:=D.1) (L:=L) (hS.ext hx015 (by simp)) (hR.ext hx015 (by simp)) hfp hB0 hBs hlen (hx.trans (hx015.mono (by simp))) (hx15.get h13 (by simp)) h15 (by omega) (by omega)
   (fun hc=>by have:=(zbg hO _ hc).1;omega) (fun hc=>by have:=(zbg hO _ hc).1;omega) (((hN9.ext hx11 (by simp)).ext hx15 (by simp)).mono (by omega)) hit.2.2.2.2 hit.2.2.2.1 hit.2.2.1 (hY.ext hx015 (by simp)) (hO.ext hx015 (by simp)) (by omega) hoo ?_ ?_ ?_
  ·intro hd
   have hd:it.kind=3:=by simpa using hd
   rw [hres,if_pos hd,hnx]
  ·intro hd
   have hd:it.kind ≠ 3:=by simpa using hd
   rw [hres,if_neg hd,hnx]
  ·intro _ w2 o2 hx2 hm2 ho2 hD2 hY2
   have hx12:=hx015.1
   refine hrec (by omega) ((hS.ext hx015 (by simp)).ext hx2 fun b hb h=>?_) ((hR.ext hx015 (by simp)).ext hx2 fun h=>?_) (by have:=hx2.1;omega) hD2 hit.1 hit.2.1 hY2 hm2 (by simp;omega)
   ·have:=jc hO b h;have:=hfp b hb;omega
   ·have:=jc hO 0 h;omega
 have re:∀ {W':World},Ext [] w12.heap W'.heap→ld (.int .i64) (⟨b11,1,none⟩:Addr) W' fun z=>Value.int .i64 z=Value.int .i64 it.kind:=fun h=>jg (s:=.int .i64) (o:=1) (t:=it.kind) (K:=fun z=>Value.int .i64 z=Value.int .i64 it.kind) rfl (h.get k11 (by simp)) rfl rfl
 have hb:∀ W,(Instr.build zl #[(0,.string (strOf (vk (names++[it.name])))),(1,.bool (it.kind == 3))]).run P W=.ok (.agg (zbf ⟨vk (names++[it.name]),it.kind == 3,[]⟩).toArray) W:=fun W=>bFd _ _ W
 have hY12:=hY.ext hxw11 (by simp)
 have hyl2:y28.2.1=(names++[it.name]).length:=by simp;omega
 refine ⟨?_,?_⟩
 ·refine zn (z5f (p:=names++[it.name]) rfl hY12.cells hyl2 (zfl hY12) hsm) ?_
  rintro e w13 ⟨rfl,hx13⟩
  refine ⟨strOf (vk (names++[it.name])),rfl,re hx13,?_⟩
  refine qx (s:=.any) _ (hb _) ?_
  refine jw rfl fun w14 hw14=>?_
  have hx14:Ext [] w13.heap w14.heap:=by rw [hw14];exact .push _
  have h14:w14.heap[w13.heap.size]?=some (.cells (zc P zl) zl (0,0)):=by rw [hw14];exact zo
  refine ⟨qx (s:=.any) _ (hb _) rfl,re (hx13.trans hx14),?_⟩
  refine stF ⟨vk (names++[it.name]),it.kind == 3,[]⟩ rfl h14 zcF fun w15 hw15=>?_
  have s13:=hx13.1
  have hx15:Ext [w13.heap.size] w14.heap w15.heap:=by rw [hw15];exact Ext.set _ (by simp)
  exact tail ((hx13.trans hx14).own hx15 (fun c hc hlt=>by simp at hc;omega)) s13 (by rw [hw15];exact qp h14)
 ·refine jw rfl fun w22 hw22=>?_
  have hx22:Ext [] w12.heap w22.heap:=by rw [hw22];exact .push _
  have h22:w22.heap[w12.heap.size]?=some (.cells (zc P zl) zl (0,0)):=by rw [hw22];exact zo
  refine ⟨re hx22,?_⟩
  have hY22:=hY12.ext hx22 (by simp)
  refine zn (z5f (p:=names++[it.name]) rfl hY22.cells hyl2 (zfl hY22) hsm) ?_
  rintro e w23 ⟨rfl,hx23⟩
  refine ⟨strOf (vk (names++[it.name])),rfl,re (hx22.trans hx23),?_⟩
  refine qx (s:=.any) _ (hb _) ?_
  have h23:=hx23.get h22 (by simp)
  refine stF ⟨vk (names++[it.name]),it.kind == 3,[]⟩ rfl h23 zcF fun w24 hw24=>?_
  have hx24:Ext [w12.heap.size] w23.heap w24.heap:=by rw [hw24];exact Ext.set _ (by simp)
  exact tail ((hx22.trans hx23).own hx24 (fun c hc hlt=>by simp at hc;omega)) (Nat.le_refl _) (by rw [hw24];exact qp h23)
end Go.Proofs.YtbmegmbnlajbbaaGreatDoor
