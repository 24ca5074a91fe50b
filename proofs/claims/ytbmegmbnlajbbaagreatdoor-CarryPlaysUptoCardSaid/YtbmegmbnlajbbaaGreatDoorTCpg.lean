/- Part 7 of the texts below the card, joined. -/
import Derived.Test.YtbmegmbnlajbbaaGreatDoorTCpf
import Derived.Laws.StructEq
import Derived.Test.YtbmegmbnlajbbaaGreatDoorTCpd
import Derived.Test.YtbmegmbnlajbbaaGreatDoorTCpa
import Derived.WalkKit
import Derived.ProofKit
import Derived.OpenShut
import Derived.Deep.DeepHandedRow
import Derived.Lib.LaidTab
import Derived.Carry
import Derived.Test.YtbmegmbnlajbbaaGreatDoorCards
import Derived.Test.YtbmegmbnlajbbaaGreatDoorTie
namespace Go.Proofs.YtbmegmbnlajbbaaGreatDoor
open Go Go.Fw Go.Proofs Go.Sort
theorem uMT:P.underlying zb2=some (.map vg ql):=by kernel_rfl
def z09:ME:=⟨(none,0,0),⟨[],true,[]⟩⟩
def zeroE:ME:=⟨(none,0,0),⟨[],false,[]⟩⟩
def evE (m:ME):Value:=.agg (zic m).toArray
theorem zET (w:World):(zeroValue ql).run P w=.ok (evE zeroE) w:=by kernel_rfl
theorem bF1 (w:World):(Instr.build zbd #[(1,.bool true)]).run P w=.ok (.agg (zsx ⟨[],true,[]⟩).toArray) w:=by kernel_rfl
abbrev PM:=ML (List UInt8) ME
def Places (M:PM) (ms:List ME):Prop:=∀ p,okP p->zbx M (za2 p)=if p=[] then some z09 else ms.find? fun m=>decide (nm m.f=p)
theorem MOk.map_val {κ ν ν':Type} [DecidableEq κ] {ok:κ->Prop}{l:ML κ ν}{c:Nat}(h:MOk ok l c) (g:κ×ν×Nat->ν'):MOk ok (l.map fun x=>(x.1,g x,x.2.2)) c:=by
 refine⟨?_,?_,?_,?_⟩
 ·have:=h.keys;simp only [List.map_map];exact this
 ·have:=h.born;simp only [List.map_map];exact this
 ·intro x hx;obtain⟨y,hy,rfl⟩:=List.mem_map.1 hx;exact h.old y hy
 ·intro x hx;obtain⟨y,hy,rfl⟩:=List.mem_map.1 hx;exact h.fine y hy
def zq2 (p:Path) (m:ME):Bool:=decide ((nm m.f).dropLast=p)
structure RowsW (W:Heap) (B:Nat) (K:KM) (ms:List ME):Prop where
 key:∀ z∈K,∃ p,okP p/\z.1=za2 p
 get:∀ p,okP p->(match zbx K (za2 p) with | none=>ms.filter (zq2 p)=[] | some v=>v.2=ms.filter (zq2 p)/\v.2≠[])
 row:∀ z∈K,Mine W B ql 4 z.2.1.1 (z.2.1.2.flatMap zic)
 apart:∀ z∈K,∀ z'∈K,z.1≠z'.1->∀ b∈jf z.2.1.1,b∉jf z'.2.1.1
theorem RowsW.step {H H':Heap}{B clk:Nat}{K:KM}{ms:List ME}{m:ME}{v:(Option Addr×Nat×Nat)×List ME}{x':Option Addr×Nat×Nat}(h:RowsW H B K ms) (hM:MOk (fun _=>True) K clk) (hv:(zbx K (za2 (nm m.f).dropLast)).getD ((none,0,0),[])=v)
  (hm:Mine H' B ql 4 x' ((v.2++[m]).flatMap zic)) (hx:Ext (jf v.1) H H') (hs:∀ c∈jf x',c∈jf v.1\/H.size<=c):RowsW H' B (zje K (za2 (nm m.f).dropLast) (x',v.2++[m]) clk) (ms++[m]):=by
 have hokd:okP (nm m.f).dropLast:=by rw [List.dropLast_eq_take];exact (znr m.f).take _
 have hold:∀ z∈K,z.1≠za2 (nm m.f).dropLast->Mine H' B ql 4 z.2.1.1 (z.2.1.2.flatMap zic)/\∀ b∈jf z.2.1.1,b∉jf x':=by
  intro z hz hne
  have hap:∀ b∈jf z.2.1.1,b∉jf v.1:=by
   cases hg:zbx K (za2 (nm m.f).dropLast) with
   | none=>rw [hg] at hv;subst hv;simp [jf]
   | some u=>
    rw [hg] at hv
    obtain⟨c,hc⟩:=zct hg
    have hu:u=v:=hv
    subst hu
    exact h.apart z hz _ hc hne
  refine⟨(h.row z hz).ext hx hap,fun b hb hb'=>?_⟩
  rcases hs b hb' with h' | h'
  ·exact hap b hb h'
  ·have:=(zbh (h.row z hz) b hb).1;omega
 have hmem:∀ z∈zje K (za2 (nm m.f).dropLast) (x',v.2++[m]) clk,(z.1=za2 (nm m.f).dropLast/\z.2.1=(x',v.2++[m]))\/(z.1≠za2 (nm m.f).dropLast/\z∈K):=fun z hz=>zmu hz
 refine⟨fun z hz=>?_,fun p hp=>?_,fun z hz=>?_,fun z hz z' hz' hne b hb=>?_⟩
 ·rcases hmem z hz with⟨h1,_⟩ | ⟨_,h1⟩
  ·exact⟨_,hokd,h1⟩
  ·exact h.key z h1
 ·rw [znl]
  by_cases e:za2 p=za2 (nm m.f).dropLast
  ·rw [if_pos e]
   have hpe:=zte hp hokd e
   subst hpe
   have hgp:=h.get _ hokd
   have h2:v.2=ms.filter (zq2 (nm m.f).dropLast):=by
    cases hg:zbx K (za2 (nm m.f).dropLast) with
    | none=>rw [hg] at hgp hv;subst hv;exact hgp.symm
    | some u=>rw [hg] at hgp hv;have hu:u=v:=hv;subst hu;exact hgp.1
   simp only
   rw [List.filter_append,<-h2]
   exact⟨by simp [zq2],by simp⟩
  ·rw [if_neg e]
   have hne:(nm m.f).dropLast≠p:=by rintro rfl;exact e rfl
   have:=h.get p hp
   cases hg:zbx K (za2 p) with
   | none=>
    rw [hg] at this
    simp only at this |-
    rw [List.filter_append,this]
    simp [zq2,hne]
   | some u=>
    rw [hg] at this
    simp only at this |-
    refine⟨?_,this.2⟩
    rw [List.filter_append,this.1]
    simp [zq2,hne]
 ·rcases hmem z hz with⟨_,h1⟩ | ⟨h0,h1⟩
  ·rw [h1];exact hm
  ·exact (hold z h1 h0).1
 ·rcases hmem z hz with⟨e1,h1⟩ | ⟨e1,h1⟩
  ·rcases hmem z' hz' with⟨e2,_⟩ | ⟨e2,h2⟩
   ·exact absurd (e1.trans e2.symm) hne
   ·rw [h1] at hb
    exact fun h3=>(hold z' h2 e2).2 b h3 hb
  ·rcases hmem z' hz' with⟨e2,h2⟩ | ⟨e2,h2⟩
   ·rw [h2];exact (hold z h1 e1).2 b hb
   ·intro h3;exact h.apart z h1 z' h2 hne b hb h3
theorem find_none_of {ms:List ME}{p:Path}:(ms.find? fun m=>decide (nm m.f=p))=none ↔ ∀ m∈ms,nm m.f≠p:=by
 rw [List.find?_eq_none]
 simp
theorem find_some_of {ms:List ME}{p:Path}{m:ME}(h:(ms.find? fun m=>decide (nm m.f=p))=some m):m∈ms/\nm m.f=p:=by
 have h1:=List.mem_of_find?_eq_some h
 have h2:=List.find?_some h
 exact⟨h1,by simpa using h2⟩
theorem z1w {α β:Type}{g:α->β}:∀ {L:List α},(L.map g).Nodup->∀ {a b:α},a∈L->b∈L->g a=g b->a=b
 | [],_,_,_,ha,_,_=>by simp at ha
 | x :: L,h,a,b,ha,hb,e=>by
  rw [List.map_cons,List.nodup_cons] at h
  rcases List.mem_cons.1 ha with h1 | h1 <;> rcases List.mem_cons.1 hb with h2 | h2
  ·rw [h1,h2]
  ·subst h1;exact absurd (List.mem_map.2 ⟨b,h2,e.symm⟩) h.1
  ·subst h2;exact absurd (List.mem_map.2 ⟨a,h1,e⟩) h.1
  ·exact z1w h.2 h1 h2 e
theorem zk8 {ms:List ME}{p:Path}(hne:∀ m∈ms,nm m.f≠[]):(ms.filter (zq2 p)).map (·.f)=kids (ms.map (·.f)) p:=by
 unfold kids
 rw [List.filter_map]
 congr 1
 apply List.filter_congr
 intro m hm
 simp [zq2,qh7,hne m hm]
theorem z5f {ms:List ME}{i:Nat}:(ms.take i).map (·.f)=(ms.map (·.f)).take i:=List.map_take
structure Rows3 (W:Heap) (B:Nat) (K K3:KM) (seen:Array Nat):Prop where
 vls:vl evK K3=vl evK K
 from_:∀ z∈K3,∃ z0∈K,z0.1=z.1/\z0.2.1.1=z.2.1.1/\z.2.1.2.Perm z0.2.1.2
 row:∀ z∈K3,Mine W B ql 4 z.2.1.1 (z.2.1.2.flatMap zic)
 done:∀ z∈K3,z.2.2∈seen->z.2.1.2.length<=64/\z.2.1.2.Pairwise fun a b=>¬zhk (nm b.f) (nm a.f) < 0
theorem z3i {es fs:List ME}{L:List Fil}{p:Path}(hp:es.Perm fs) (hfs:fs.map (·.f)=kids L p) (hnd:(L.map nm).Nodup) (hs:es.Pairwise fun a b=>¬zhk (nm b.f) (nm a.f) < 0):es.map (·.f)=kids (zs7 L) p:=by
 have hsp:=zkr hnd
 have hperm:(es.map (·.f)).Perm (kids L p):=by rw [<-hfs];exact hp.map _
 have hnk:((kids L p).map nm).Nodup:=(List.filter_sublist.map nm).nodup hnd
 have hne:((es.map (·.f)).map nm).Nodup:=(hperm.map nm).nodup_iff.2 hnk
 refine zzx ?_ (hsp.2.sublist List.filter_sublist) (hperm.trans (zuw hsp.1 p).symm)
 unfold zp5
 rw [List.pairwise_map]
 rw [List.nodup_iff_pairwise_ne,List.pairwise_map,List.pairwise_map] at hne
 refine (hs.and hne).imp fun {a b} h=>?_
 have h1:=zk4 (p:=nm a.f) (q:=nm b.f)
 have h2:zhk (nm a.f) (nm b.f)≠0:=fun e=>h.2 (zox.1 e)
 have h3:=h.1
 omega
set_option maxHeartbeats 32000000 in
theorem qda {w:World}{H:Heap}{a:Option Addr}{n nc:Nat}{ms:List ME}(hw:w.heap=H) (hL:Cells H a (ms.flatMap zic)) (hn:n=ms.length) (hm:ms.length<=65536) (hN:∀ m∈ms,zn4 H m) :
  qc P zmf #[.slice a n nc] w fun e w'=>∃ v,e=.returned (.tuple #[.map v,.int .i64 (zcn (ms.map (·.f)))])/\Ext [] H w'.heap/\(zcn (ms.map (·.f))=0->∃ mk,v=some mk/\qav w'.heap mk (zs7 (ms.map (·.f)))):=by
 subst hn
 refine zyg ?_
 unfold zsa
 refine zam (s:=.map) (some H.size) _ (zmr hw) ?_
 refine qp (s:=.any) _ (bF1 _) ?_
 refine qp (s:=.any) (evE z09) (bE (none,0,0) _ _ _ _) ?_
 have hm1:(H.push (.map #[] 0))[H.size]?=some (.map (ents keyS (vl evE ([]:PM))) 0):=zn
 refine zru _ (zm6 qf6 uMT (w:={ w with heap:=H.push (.map #[] 0) }) rfl hm1 MOk.nil (k:=za2 []) trivial z09 rfl) ?_
 generalize hW0:({ w with heap:=(H.push (.map #[] 0)).setIfInBounds H.size (.map (ents keyS (vl evE (zje ([]:PM) (za2 []) z09 0))) (zn1 ([]:PM) (za2 []) 0)) }:World)=W0
 have hh0:W0.heap=(H.push (.map #[] 0)).setIfInBounds H.size (.map (ents keyS (vl evE (zje ([]:PM) (za2 []) z09 0))) (zn1 ([]:PM) (za2 []) 0)):=by rw [<-hW0]
 have hx0:Ext [] H W0.heap:=by rw [hh0];exact (Ext.push _).set_own (.inl (Nat.le_refl _))
 have hp0:W0.heap[H.size]?=some (.map (ents keyS (vl evE (zje ([]:PM) (za2 []) z09 0))) (zn1 ([]:PM) (za2 []) 0)):=by rw [hh0];exact qg hm1
 have hok0:MOk (fun _=>True) (zje ([]:PM) (za2 []) z09 0) (zn1 ([]:PM) (za2 []) 0):=MOk.nil.upd trivial _
 have hnil:okP []:=⟨by simp,by simp⟩
 have hpl0:Places (zje ([]:PM) (za2 []) z09 0) []:=by
  intro p hp
  rw [znl]
  by_cases e:p=[]
  ·subst e;rw [if_pos rfl,if_pos rfl]
  ·rw [if_neg (fun h=>e (zte hp hnil h)),if_neg e];rfl
 have hlm:(ms.map (·.f)).length=ms.length:=by simp
 have hHs0:H.size < W0.heap.size:=lt_of_get hp0
 refine jg (fun (s:Int) W=>∃ (i:Nat) (M:PM) (c:Nat),s=(i:Int)/\i<=ms.length/\Ext [] H W.heap/\W.heap[H.size]?=some (.map (ents keyS (vl evE M)) c)/\MOk (fun _=>True) M c/\Places M (ms.take i)/\(∀ j (h:j < (ms.map (·.f)).length),j < i->nm (ms.map (·.f))[j]≠[]/\∀ g∈(ms.map (·.f)).take j,nm g≠nm (ms.map (·.f))[j]))
  (fun s _=>(ms.length-s).toNat) ⟨0,_,_,rfl,Nat.zero_le _,hx0,hp0,hok0,by simpa using hpl0,fun j _ h=>by omega⟩ ?_
 rintro _ W ⟨i,M,c,rfl,hi,hxW,hpW,hoM,hPl,hgood⟩
 refine zq (fun hlt=>?_) (fun hge=>?_)
 ·have hil:i < ms.length:=by omega
  have hget:=List.getElem?_eq_getElem hil
  have hmem:ms[i]∈ms:=List.getElem_mem hil
  have hfi:(ms.map (·.f))[i]'(by simpa using hil)=(ms[i]).f:=by simp
  generalize ms[i]=m at hget hmem hfi
  have hsm:=(znr m.f).small
  refine zce (i:=i) zhr (by omega) rfl (hL.ext hxW (by simp)) rfl hget rfl ?_
  refine qhu m rfl fun w5 hw5=>?_
  have hx5:Ext [] W.heap w5.heap:=by rw [hw5];exact .push _
  have hb5:w5.heap[W.heap.size]?=some (.cells (zic m).toArray ql (0,0)):=by rw [hw5];exact zn
  have hnm:=(hN m hmem)
  have hnl:m.hdr.2.1=(nm m.f).length:=by have:=Mine.len hnm;simp at this;omega
  have hcap:=zfm hnm
  refine je (s:=.slc) (t:=m.hdr) rfl hb5 rfl ?_
  refine zk (z5e rfl (Mine.ext hnm (hxW.trans hx5) (by simp)).cells hnl hcap (by omega)) ?_
  rintro e w6 ⟨rfl,hx6⟩
  refine⟨strOf (za2 (nm m.f)),rfl,?_⟩
  have hx06:=hx5.trans hx6
  have hp6:=hx06.get hpW (by simp)
  have hlk:=zfl qf6 uMT zET (w:=w6) rfl hp6 hoM (k:=za2 (nm m.f)) trivial
  have hval:((zbx M (za2 (nm m.f))).map evE).getD (evE zeroE)=evE ((zbx M (za2 (nm m.f))).getD zeroE):=by cases zbx M (za2 (nm m.f)) <;> rfl
  rw [hval] at hlk
  refine zhh (l:=[.any,.bool]) (evE ((zbx M (za2 (nm m.f))).getD zeroE),(zbx M (za2 (nm m.f))).isSome) hlk ?_
  refine qhu ((zbx M (za2 (nm m.f))).getD zeroE) rfl fun w8 hw8=>?_
  have hx8:Ext [] w6.heap w8.heap:=by rw [hw8];exact .push _
  have hx08:=hx06.trans hx8
  have hpm:=hPl (nm m.f) (znr m.f)
  cases hs:(zbx M (za2 (nm m.f))).isSome with
  | true=>
   refine zah rfl ?_
   have h5:z3z (ms.map (·.f)):=by
    refine⟨i,by simpa using hil,?_⟩
    rw [hfi]
    by_cases e:nm m.f=[]
    ·exact .inl e
    ·right
     rw [hpm,if_neg e] at hs
     obtain⟨m',hm'⟩:=Option.isSome_iff_exists.1 hs
     obtain⟨h1,h2⟩:=find_some_of hm'
     exact⟨m'.f,by rw [<-z5f];exact List.mem_map.2 ⟨m',h1,rfl⟩,h2⟩
   exact⟨none,by rw [z9g h5],hxW.trans hx08,fun h=>by rw [z9g h5] at h;cases h⟩
  | false=>
   refine jm rfl ?_
   have hno:nm m.f≠[]/\∀ m'∈ms.take i,nm m'.f≠nm m.f:=by
    rw [hpm] at hs
    by_cases e:nm m.f=[]
    ·rw [if_pos e] at hs;simp at hs
    ·rw [if_neg e] at hs
     exact⟨e,find_none_of.1 (by simpa using hs)⟩
   refine jl rfl fun w9 hw9=>?_
   have hx9:Ext [] w8.heap w9.heap:=by rw [hw9];exact .refl _ _
   have hb9:=hx9.get (hx8.get (hx6.get hb5 (by simp)) (by simp)) (by simp)
   refine je (s:=.slc) (t:=m.hdr) rfl hb9 rfl ?_
   refine qx rfl hb9 rfl ?_
   have hx09:=hx08.trans hx9
   refine zk (z5e rfl (Mine.ext hnm (hxW.trans hx09) (by simp)).cells hnl hcap (by omega)) ?_
   rintro e w10 ⟨rfl,hx10⟩
   refine⟨strOf (za2 (nm m.f)),rfl,?_⟩
   refine⟨qx rfl (hx10.get hb9 (by simp)) rfl rfl,?_⟩
   have hx010:=hx09.trans hx10
   have hp10:=hx010.get hpW (by simp)
   refine zru _ (zm6 qf6 uMT (w:=w10) rfl hp10 hoM (k:=za2 (nm m.f)) trivial m rfl) ?_
   refine jd ((i+1:Nat):Int) (by omega) (by omega) (by omega) ?_
   refine⟨⟨i+1,_,_,rfl,by omega,(hxW.trans hx010).set_own (.inl (Nat.le_refl _)),qg hp10,hoM.upd trivial _,fun p hp=>?_,fun j hj hji=>?_⟩,by omega⟩
   ·rw [znl,List.take_add_one,hget,Option.toList_some,List.find?_append]
    by_cases e:za2 p=za2 (nm m.f)
    ·have hpe:=zte hp (znr m.f) e
     subst hpe
     rw [if_pos e,if_neg hno.1,find_none_of.2 hno.2]
     simp
    ·rw [if_neg e,hPl p hp]
     have hne:nm m.f≠p:=by rintro rfl;exact e rfl
     by_cases e0:p=[]
     ·rw [if_pos e0,if_pos e0]
     ·rw [if_neg e0,if_neg e0]
      simp [hne]
   ·by_cases e:j=i
    ·subst e
     rw [hfi]
     refine⟨hno.1,fun g hg=>?_⟩
     rw [<-z5f] at hg
     obtain⟨m',hm',rfl⟩:=List.mem_map.1 hg
     exact hno.2 m' hm'
    ·exact hgood j hj (by omega)
 ·obtain rfl:i=ms.length:=by omega
  have h5:¬z3z (ms.map (·.f)):=by
   rintro ⟨j,hj,h⟩
   obtain⟨g1,g2⟩:=hgood j hj (by omega)
   rcases h with h | ⟨g,hg,e⟩
   ·exact g1 h
   ·exact g2 g hg e
  rw [List.take_length] at hPl
  obtain⟨hnd,hne⟩:=ztn h5
  have hnem:∀ m∈ms,nm m.f≠[]:=fun m hm=>hne _ (List.mem_map.2 ⟨m,hm,rfl⟩)
  have hsW:=hxW.1
  have hpml:=lt_of_get hpW
  refine zam (s:=.map) (some W.heap.size) { W with heap:=W.heap.push (.map #[] 0) } (zmr rfl) ?_
  have hxm:Ext [] W.heap (W.heap.push (.map #[] 0)):=.push _
  refine jg (fun (s:Bool×Int) W2=>∃ (i:Nat) (K:KM) (c2:Nat),s.2=(i:Int)/\i<=ms.length/\Ext [] W.heap W2.heap/\W2.heap[W.heap.size]?=some (.map (ents keyS (vl evK K)) c2)/\MOk (fun _=>True) K c2/\RowsW W2.heap (W.heap.size+1) K (ms.take i) /\
    (s.1=true ↔ ∃ f∈(ms.map (·.f)).take i,∃ g∈ms.map (·.f),nm g=(nm f).dropLast/\g.dir=false)/\(∀ f∈(ms.map (·.f)).take i,(nm f).dropLast=[]\/∃ g∈ms.map (·.f),nm g=(nm f).dropLast))
   (fun s _=>(ms.length-s.2).toNat) ⟨0,[],0,rfl,Nat.zero_le _,hxm,zn,.nil,⟨by simp,fun p hp=>by simp [zbx],by simp,by simp⟩,by simp,by simp⟩ ?_
  rintro ⟨flat,_⟩ W2 ⟨i,K,c2,rfl,hi,hx2,hk2,hoK,hR,hfl,hab⟩
  have hxH2:=hxW.trans hx2
  have hp2:=hx2.get hpW (by simp)
  have hkl:=lt_of_get hk2
  have hx2s:=hx2.1
  refine zq (fun hlt=>?_) (fun hge=>?_)
  ·have hil:i < ms.length:=by simp only at hlt;omega
   have hget:=List.getElem?_eq_getElem hil
   have hmem:ms[i]∈ms:=List.getElem_mem hil
   generalize ms[i]=m at hget hmem
   have hgf:(ms.map (·.f))[i]?=some m.f:=by rw [List.getElem?_map,hget];rfl
   have hsm:=(znr m.f).small
   have hok8:=(znr m.f).2
   have hmne:=hnem m hmem
   have hpos:=List.length_pos_iff.2 hmne
   refine zce (i:=i) zhr (by omega) rfl (hL.ext hxH2 (by simp)) rfl hget rfl ?_
   refine qhu m rfl fun w15 hw15=>?_
   have hx15:Ext [] W2.heap w15.heap:=by rw [hw15];exact .push _
   have hb15:w15.heap[W2.heap.size]?=some (.cells (zic m).toArray ql (0,0)):=by rw [hw15];exact zn
   have hnm:=(hN m hmem)
   have hnl:m.hdr.2.1=(nm m.f).length:=by have:=Mine.len hnm;simp at this;omega
   have hcap:=zfm hnm
   refine je (s:=.slc) (t:=m.hdr) rfl hb15 rfl ?_
   refine je (s:=.slc) (t:=m.hdr) rfl hb15 rfl ?_
   refine zb0 ((m.hdr.2.1-1:Nat):Int) (by omega) (by omega) (by omega) ?_
   refine qp (s:=.slc) (if m.hdr.2.2=0 then m.hdr.1 else m.hdr.1.map (·.add (0 * 1)),(m.hdr.2.1-1)-0,m.hdr.2.2-0) (za1 z3l qfh .no (.yes rfl) (Nat.zero_le _) (show m.hdr.2.1-1<=m.hdr.2.2 by omega)) ?_
   have hcut:=(Mine.cut (Mine.ext hnm (hxH2.trans hx15) (by simp)) (k:=m.hdr.2.1-1) (by omega)).cells
   rw [zv0] at hcut
   have hdl:(nm m.f).take (m.hdr.2.1-1)=(nm m.f).dropLast:=by rw [List.dropLast_eq_take,hnl]
   have hcut:Cells w15.heap (if m.hdr.2.2=0 then m.hdr.1 else m.hdr.1.map (·.add (0 * 1))) (strRow ((nm m.f).take (m.hdr.2.1-1))):=hcut
   rw [hdl] at hcut
   have hql:(nm m.f).dropLast.length=m.hdr.2.1-1:=by rw [List.length_dropLast];omega
   have hokd:okP (nm m.f).dropLast:=by rw [List.dropLast_eq_take];exact (znr m.f).take _
   have hsmd:=hokd.small
   refine zk (z5e rfl hcut (by rw [hql];simp) (by simp only;omega) (by omega)) ?_
   rintro e w16 ⟨rfl,hx16⟩
   refine⟨strOf (za2 (nm m.f).dropLast),rfl,?_⟩
   have hx216:=hx15.trans hx16
   have hp16:=hx216.get hp2 (by simp)
   have hlk:=zfl qf6 uMT zET (w:=w16) rfl hp16 hoM (k:=za2 (nm m.f).dropLast) trivial
   have hval:((zbx M (za2 (nm m.f).dropLast)).map evE).getD (evE zeroE)=evE ((zbx M (za2 (nm m.f).dropLast)).getD zeroE):=by cases zbx M (za2 (nm m.f).dropLast) <;> rfl
   rw [hval] at hlk
   refine zhh (l:=[.any,.bool]) (evE ((zbx M (za2 (nm m.f).dropLast)).getD zeroE),(zbx M (za2 (nm m.f).dropLast)).isSome) hlk ?_
   refine qhu ((zbx M (za2 (nm m.f).dropLast)).getD zeroE) rfl fun w18 hw18=>?_
   have hx18:Ext [] w16.heap w18.heap:=by rw [hw18];exact .push _
   have hb18:w18.heap[w16.heap.size]?=some (.cells (zic ((zbx M (za2 (nm m.f).dropLast)).getD zeroE)).toArray ql (0,0)):=by rw [hw18];exact zn
   have hx218:=hx216.trans hx18
   have hpm:=hPl _ hokd
   have htk:(ms.map (·.f)).take (i+1)=(ms.map (·.f)).take i++[m.f]:=by rw [List.take_add_one,hgf];rfl
   cases hs:(zbx M (za2 (nm m.f).dropLast)).isSome with
   | false=>
    refine zah rfl ?_
    have h4:qce (ms.map (·.f)):=by
     rw [hpm] at hs
     by_cases e:(nm m.f).dropLast=[]
     ·rw [if_pos e] at hs;simp at hs
     ·rw [if_neg e] at hs
      have hnf:=find_none_of.1 (by simpa using hs)
      refine⟨m.f,List.mem_map.2 ⟨m,hmem,rfl⟩,e,fun g hg=>?_⟩
      obtain⟨m',hm',rfl⟩:=List.mem_map.1 hg
      exact hnf m' hm'
    exact⟨none,by rw [qai h5 h4],hxH2.trans hx218,fun h=>by rw [qai h5 h4] at h;cases h⟩
   | true=>
    refine jm rfl ?_
    obtain⟨m0,hm0⟩:=Option.isSome_iff_exists.1 hs
    have hm0':=hm0
    rw [hpm] at hm0'
    have hab':(nm m.f).dropLast=[]\/∃ g∈ms.map (·.f),nm g=(nm m.f).dropLast:=by
     by_cases e:(nm m.f).dropLast=[]
     ·exact .inl e
     ·rw [if_neg e] at hm0'
      obtain⟨h1,h2⟩:=find_some_of hm0'
      exact .inr ⟨m0.f,List.mem_map.2 ⟨m0,h1,rfl⟩,h2⟩
    have hflat:m0.f.dir=false ↔ ∃ g∈ms.map (·.f),nm g=(nm m.f).dropLast/\g.dir=false:=by
     by_cases e:(nm m.f).dropLast=[]
     ·rw [if_pos e] at hm0'
      cases hm0'
      constructor
      ·intro h;cases h
      ·rintro ⟨g,hg,h1,_⟩
       rw [e] at h1
       exact absurd h1 (hne g hg)
     ·rw [if_neg e] at hm0'
      obtain⟨h1,h2⟩:=find_some_of hm0'
      constructor
      ·intro h;exact⟨m0.f,List.mem_map.2 ⟨m0,h1,rfl⟩,h2,h⟩
      ·rintro ⟨g,hg,h3,h4⟩
       have:m0.f=g:=z1w hnd (List.mem_map.2 ⟨m0,h1,rfl⟩) hg (h2.trans h3.symm)
       rw [this];exact h4
    refine joinP_of (fun s' W'=>W'=w18/\(s'=true ↔ ∃ f∈(ms.map (·.f)).take (i+1),∃ g∈ms.map (·.f),nm g=(nm f).dropLast/\g.dir=false)) ?_ ?_
    ·cases hfb:flat with
     | true=>
      refine zah rfl ⟨rfl,⟨fun _=>?_,fun _=>rfl⟩⟩
      obtain⟨f,hf,h⟩:=hfl.1 (by simpa using hfb)
      exact⟨f,by rw [htk];exact List.mem_append_left _ hf,h⟩
     | false=>
      refine jm rfl ?_
      refine je (s:=.bool) (t:=m0.f.dir) rfl hb18 (by rw [hm0];rfl) ?_
      refine⟨rfl,?_⟩
      rw [Bool.not_eq_true',hflat]
      constructor
      ·intro h;exact⟨m.f,by rw [htk];simp,h⟩
      ·rintro ⟨f,hf,h⟩
       rw [htk] at hf
       rcases List.mem_append.1 hf with hf | hf
       ·have:=hfl.2 ⟨f,hf,h⟩
        simp only at this
        rw [hfb] at this;cases this
       ·simp at hf;subst hf;exact h
    rintro s' W' ⟨hW',hs'⟩
    subst hW'
    have hk18:=hx218.get hk2 (by simp)
    obtain⟨v,hv⟩:∃ v,(zbx K (za2 (nm m.f).dropLast)).getD ((none,0,0),[])=v:=⟨_,rfl⟩
    have hlk2:=zts (w:=W') qf6 uME zME rfl hk18 hoK (k:=za2 (nm m.f).dropLast) trivial
    have hv2:((zbx K (za2 (nm m.f).dropLast)).map evK).getD (.slice none 0 0)=zbv v.1:=by
     rw [<-hv]
     cases zbx K (za2 (nm m.f).dropLast) <;> rfl
    rw [hv2] at hlk2
    refine qp (s:=.slc) v.1 hlk2 ?_
    have hb1518:=hx18.get (hx16.get hb15 (by simp)) (by simp)
    refine qx rfl hb1518 rfl ?_
    have hRow:Mine W'.heap (W.heap.size+1) ql 4 v.1 (v.2.flatMap zic):=by
     cases hg:zbx K (za2 (nm m.f).dropLast) with
     | none=>rw [hg] at hv;subst hv;exact .inl ⟨rfl,rfl⟩
     | some u=>
      rw [hg] at hv
      have hu:u=v:=hv
      subst hu
      obtain⟨c,hc⟩:=zct hg
      exact (hR.row _ hc).ext hx218 (by simp)
    have hvl:v.2.length<=ms.length:=by
     have:=hR.get _ hokd
     cases hg:zbx K (za2 (nm m.f).dropLast) with
     | none=>rw [hg] at hv;subst hv;simp
     | some u=>
      rw [hg] at hv this
      have hu:u=v:=hv
      subst hu
      rw [this.1]
      have h1:=List.length_filter_le (zq2 (nm m.f).dropLast) (ms.take i)
      have h2:(ms.take i).length<=ms.length:=by simp;omega
      omega
    have hs18:=hx218.1
    refine z8u (i:=m) rfl hRow (by omega) (by omega) fun x' w21 hm21 hx21 hs21 hl21=>?_
    have hkne:W.heap.size∉jf v.1:=fun h=>by have:=xu hRow _ h;omega
    have hk21:=hx21.get hk18 hkne
    refine zru _ (zm6 qf6 uME (w:=w21) rfl hk21 hoK (k:=za2 (nm m.f).dropLast) trivial (x',v.2++[m]) rfl) ?_
    have hx221:Ext (jf v.1) W2.heap w21.heap:=(hx218.mono (by simp)).trans hx21
    have hs221:∀ c∈jf x',c∈jf v.1\/W2.heap.size<=c:=fun c hc=>by
     rcases hs21 c hc with h | h
     ·exact .inl h
     ·right;omega
    have hstep:=hR.step hoK hv hm21 hx221 hs221
    have hxk:Ext [W.heap.size] w21.heap (w21.heap.setIfInBounds W.heap.size (.map (ents keyS (vl evK (zje K (za2 (nm m.f).dropLast) (x',v.2++[m]) c2))) (zn1 K (za2 (nm m.f).dropLast) c2))):=Ext.set _ (by simp)
    refine jd ((i+1:Nat):Int) (by simp) (by omega) (by omega) ?_
    refine⟨⟨i+1,_,_,rfl,by omega,?_,qg hk21,hoK.upd trivial _,⟨?_,?_,?_,?_⟩,hs',?_⟩,by simp only;omega⟩
    ·exact (hx2.own hx221 (fun c hc hlt=>by have:=xu hRow c hc;omega)).set_own (.inl (Nat.le_refl _))
    ·exact hstep.key
    ·rw [List.take_add_one,hget];exact hstep.get
    ·intro z hz
     exact (hstep.row z hz).ext hxk (fun b hb h=>by simp at h;subst h;have:=xu (hstep.row z hz) _ hb;omega)
    ·exact hstep.apart
    ·rw [htk]
     intro f hf
     rcases List.mem_append.1 hf with hf | hf
     ·exact hab f hf
     ·simp at hf;subst hf;exact hab'
  ·obtain rfl:i=ms.length:=by simp only at hge;omega
   rw [List.take_length] at hR
   have htl:(ms.map (·.f)).take ms.length=ms.map (·.f):=by rw [<-hlm,List.take_length]
   rw [htl] at hfl hab
   have h4:¬qce (ms.map (·.f)):=by
    rintro ⟨f,hf,h1,h2⟩
    rcases hab f hf with h | ⟨g,hg,h⟩
    ·exact h1 h
    ·exact h2 g hg h
   cases hfb:flat with
   | true=>
    have h70:z0j (ms.map (·.f)):=hfl.1 (by simpa using hfb)
    exact zah rfl ⟨none,by rw [z4q h5 h4 h70],hxH2,fun h=>by rw [z4q h5 h4 h70] at h;cases h⟩
   | false=>
    have h70:¬z0j (ms.map (·.f)):=fun h=>by
     have:=hfl.2 h
     simp only at this
     rw [hfb] at this;cases this
    refine jm rfl ?_
    refine zam (s:=.ptr) (some ⟨W2.heap.size,0,none⟩) { W2 with heap:=W2.heap.push (.mapIter (some W.heap.size) c2 #[] c2) } (z8o uME rfl hk2) ?_
    have hxr:Ext [] W2.heap (W2.heap.push (.mapIter (some W.heap.size) c2 #[] c2)):=.push _
    have nrow:∀ {z:List UInt8×((Option Addr×Nat×Nat)×List ME)×Nat},z∈K->∃ p,okP p/\z.1=za2 p/\z.2.1.2=ms.filter (zq2 p)/\z.2.1.2≠[]:=by
     intro z hz
     obtain⟨p,hp,e⟩:=hR.key z hz
     have hg:=zev hoK.keys (k:=z.1) (v:=z.2.1) (c:=z.2.2) hz
     have h:=hR.get p hp
     rw [<-e,hg] at h
     exact⟨p,hp,e,h.1,h.2⟩
    refine zni (fun k (_:Unit) W3=>∃ (seen:Array Nat) (last:Nat) (K3:KM),Ext [] H W3.heap/\W2.heap.size < W3.heap.size/\W3.heap[W.heap.size]?=some (.map (ents keyS (vl evK K3)) c2)/\W3.heap[W2.heap.size]?=some (.mapIter (some W.heap.size) c2 seen last)/\c2<=last/\MOk (fun _=>True) K3 c2/\Rows3 W3.heap (W.heap.size+1) K K3 seen/\k=(K3.filter fun y=>!seen.contains y.2.2).length)
     (K.filter fun y=>!(#[]:Array Nat).contains y.2.2).length ?_ ?_
    ·exact⟨#[],c2,K,hxH2.trans hxr,by simp,zeq hk2,zn,Nat.le_refl _,hoK,⟨rfl,fun z hz=>⟨z,hz,rfl,rfl,.refl _⟩,fun z hz=>(hR.row z hz).ext hxr (by simp),fun z _ h=>by simp at h⟩,rfl⟩
    rintro k _ W3 ⟨seen,last,K3,hx3,hs3,hk3,hi3,hcl,hoK3,hR3,rfl⟩ Kk hKk
    rcases qek (P:=P) (ty:=zd0) rfl hk3 hi3 (fun x hx=>hoK3.old x hx) hcl with⟨hall,W4,hnx,hc4,hh4⟩ | ⟨x,hx,hns,W4,hnx,hc4,hh4⟩
    ·refine zam (s:=.any) _ W4 hnx ?_ hc4
     refine ztw (s:=.bool) false rfl rfl ?_
     refine jm rfl ?_
     have hget3:∀ {p v},okP p->zbx K3 (za2 p)=some v->v.2.length<=64/\v.2.Pairwise (fun a b=>¬zhk (nm b.f) (nm a.f) < 0)/\v.2.Perm (ms.filter (zq2 p))/\Mine W3.heap (W.heap.size+1) ql 4 v.1 (v.2.flatMap zic):=by
      intro p v hp hg
      obtain⟨c,hc⟩:=zct hg
      obtain⟨z0,hz0,e1,_,hpm⟩:=hR3.from_ _ hc
      obtain⟨p0,hp0',e0,h0,_⟩:=nrow hz0
      have:p0=p:=zte hp0' hp (by rw [<-e0,e1])
      subst this
      obtain⟨d1,d2⟩:=hR3.done _ hc (hall _ hc)
      exact⟨d1,d2,by rw [<-h0];exact hpm,hR3.row _ hc⟩
     have hnone:∀ {p},okP p->zbx K3 (za2 p)=none->ms.filter (zq2 p)=[]:=by
      intro p hp hg
      have h1:(zbx K3 (za2 p)).map evK=(zbx K (za2 p)).map evK:=by rw [<-zq7,<-zq7,hR3.vls]
      rw [hg] at h1
      have h2:zbx K (za2 p)=none:=by
       cases h:zbx K (za2 p) with
       | none=>rfl
       | some u=>rw [h] at h1;simp at h1
      have:=hR.get p hp
      rw [h2] at this
      exact this
     have h8:¬qdf (ms.map (·.f)):=by
      rintro ⟨f,hf,h⟩
      have hokp:okP (nm f).dropLast:=by rw [List.dropLast_eq_take];exact (znr f).take _
      rw [<-zk8 hnem,List.length_map] at h
      cases hg:zbx K3 (za2 (nm f).dropLast) with
      | none=>rw [hnone hokp hg] at h;simp at h
      | some v=>
       obtain⟨d1,_,d3,_⟩:=hget3 hokp hg
       rw [<-d3.length_eq] at h
       omega
     refine⟨some W.heap.size,by rw [z8n h5 h4 h70 h8],by rw [hh4];exact hx3,fun _=>⟨W.heap.size,rfl,K3,c2,by rw [hh4];exact hk3,hoK3,fun p hp=>?_⟩⟩
     cases hg:zbx K3 (za2 p) with
     | none=>
      have h1:=hnone hp hg
      have h2:kids (ms.map (·.f)) p=[]:=by rw [<-zk8 hnem,h1];rfl
      have h3:=zuw (zkr hnd).1 p
      rw [h2] at h3
      exact h3.eq_nil
     | some v=>
      obtain⟨d1,d2,d3,d4⟩:=hget3 hp hg
      refine⟨z3i d3 (zk8 hnem) hnd d2,?_,fun m hm=>?_⟩
      ·rw [hh4];exact d4.mono (Nat.zero_le _)
      ·have hmm:m∈ms:=(List.mem_filter.1 (d3.mem_iff.1 hm)).1
       rw [hh4];exact Mine.ext (hN m hmm) hx3 (by simp)
    ·refine zam (s:=.any) _ W4 hnx ?_ hc4
     refine ztw (s:=.bool) true rfl rfl ?_
     refine zah rfl ?_
     have hilt:=lt_of_get hi3
     have hx34:Ext [W2.heap.size] W3.heap W4.heap:=by rw [hh4];exact Ext.set _ (by simp)
     have hi4:W4.heap[W2.heap.size]?=some (.mapIter (some W.heap.size) c2 (seen.push x.2.2) c2):=by rw [hh4];exact Array.getElem?_setIfInBounds_self_of_lt hilt
     have hk4:=hx34.get hk3 (by simp;omega)
     refine qp (s:=.any) _ (z8w (last:=c2) rfl hk4 hi4 hx hoK3) ?_
     refine ztw (s:=.slc) x.2.1.1 rfl rfl ?_
     have hrow3:=hR3.row x hx
     have hrow4:Mine W4.heap (W.heap.size+1) ql 4 x.2.1.1 (x.2.1.2.flatMap zic):=hrow3.ext hx34 (fun b hb h=>by
      simp at h;subst h
      obtain⟨_,c',T',fr',hcell⟩:=zbh hrow3 _ hb
      rw [hi3] at hcell;cases hcell)
     have hxl:x.2.1.1.2.1=x.2.1.2.length:=by have:=hrow3.len;rw [zu zic zhr] at this;omega
     obtain⟨z0,hz0,e1,e2,hpm⟩:=hR3.from_ x hx
     obtain⟨p0,hp0',e0,h0,h0n⟩:=nrow hz0
     have hH34:Ext [] H W4.heap:=hx3.own hx34 (by intro c hc hlt;simp at hc;omega)
     refine zq (fun hbig=>?_) (fun hsmall=>?_)
     ·have h8:qdf (ms.map (·.f)):=by
       obtain⟨m,hm⟩:=List.exists_mem_of_ne_nil _ h0n
       rw [h0] at hm
       obtain⟨h1,h2⟩:=List.mem_filter.1 hm
       refine⟨m.f,List.mem_map.2 ⟨m,h1,rfl⟩,?_⟩
       have:(nm m.f).dropLast=p0:=by simpa [zq2] using h2
       rw [this,<-zk8 hnem,List.length_map,<-h0,<-hpm.length_eq]
       omega
      exact⟨none,by rw [qa7 h5 h4 h70 h8],hH34,fun h=>by rw [qa7 h5 h4 h70 h8] at h;cases h⟩
     ·have hes:∀ m∈x.2.1.2,zn4 W4.heap m:=fun m hm=>by
       have hm2:=hpm.mem_iff.1 hm
       rw [h0] at hm2
       exact Mine.ext (hN m (List.mem_filter.1 hm2).1) hH34 (by simp)
      have hne2:x.2.1.2≠[]:=fun h=>h0n (by rw [h] at hpm;exact hpm.nil_eq.symm)
      refine zk (l:=[]) (qfz rfl hrow4 hes hne2 (by omega)) ?_
      rintro e W5 ⟨rfl,ys,hys,hso,hm5,hx45⟩
      refine⟨(),rfl,?_⟩
      have hii:W2.heap.size∉jf x.2.1.1:=fun h=>by
       obtain⟨_,c',T',fr',hcell⟩:=zbh hrow4 _ h
       rw [hi4] at hcell;cases hcell
      have hkk:W.heap.size∉jf x.2.1.1:=fun h=>by have:=xu hrow4 _ h;omega
      have hi5:=hx45.get hi4 hii
      have hk5:=hx45.get hk4 hkk
      have s5:=hx45.1
      have s4:=hx34.1
      obtain⟨K4,hK4⟩:∃ K4:KM,K4=K3.map fun z=>(z.1,(if z.2.2=x.2.2 then (z.2.1.1,ys) else z.2.1),z.2.2):=⟨_,rfl⟩
      have hvl:vl evK K4=vl evK K3:=by
       rw [hK4]
       unfold vl
       rw [List.map_map]
       apply List.map_congr_left
       intro z _
       simp only [Function.comp]
       split <;> rfl
      have hoK4:MOk (fun _=>True) K4 c2:=by rw [hK4];exact MOk.map_val hoK3 _
      have hcount:(K4.filter fun y=>!(seen.push x.2.2).contains y.2.2).length=(K3.filter fun y=>!(seen.push x.2.2).contains y.2.2).length:=by
       rw [hK4,List.filter_map,List.length_map];rfl
      refine hKk _ _ _ (by rw [hcount];exact z8t hx hns) ⟨seen.push x.2.2,c2,K4,hH34.own hx45 (fun c hc hlt=>by have:=xu hrow4 c hc;omega),by omega,by rw [hvl];exact hk5,hi5,Nat.le_refl _,hoK4,⟨hvl.trans hR3.vls,fun z hz=>?_,fun z hz=>?_,fun z hz hin=>?_⟩,rfl⟩
      ·rw [hK4] at hz
       obtain⟨y,hy,rfl⟩:=List.mem_map.1 hz
       obtain⟨y0,hy0,f1,f2,f3⟩:=hR3.from_ y hy
       by_cases e:y.2.2=x.2.2
       ·have hyx:y=x:=Go.Fw.born_inj hoK3 hy hx e
        subst hyx
        exact⟨y0,hy0,f1,by simp only [if_pos];exact f2,by simp only [if_pos];exact hys.trans f3⟩
       ·exact⟨y0,hy0,f1,by simp only [if_neg e];exact f2,by simp only [if_neg e];exact f3⟩
      ·rw [hK4] at hz
       obtain⟨y,hy,rfl⟩:=List.mem_map.1 hz
       by_cases e:y.2.2=x.2.2
       ·have hyx:y=x:=Go.Fw.born_inj hoK3 hy hx e
        subst hyx
        simp only [if_pos]
        exact hm5
       ·simp only [if_neg e]
        have hr4:Mine W4.heap (W.heap.size+1) ql 4 y.2.1.1 (y.2.1.2.flatMap zic):=(hR3.row y hy).ext hx34 (fun b hb h=>by
         simp at h;subst h
         obtain⟨_,c',T',fr',hcell⟩:=zbh (hR3.row y hy) _ hb
         rw [hi3] at hcell;cases hcell)
        refine hr4.ext hx45 ?_
        obtain⟨y0,hy0,f1,f2,_⟩:=hR3.from_ y hy
        have hne1:y0.1≠z0.1:=fun h=>by
         rw [f1,e1] at h
         exact e (by rw [Go.Fw.key_inj hoK3 hy hx h])
        have:=hR.apart y0 hy0 z0 hz0 hne1
        rw [f2,e2] at this
        exact this
      ·rw [hK4] at hz
       obtain⟨y,hy,rfl⟩:=List.mem_map.1 hz
       by_cases e:y.2.2=x.2.2
       ·have hyx:y=x:=Go.Fw.born_inj hoK3 hy hx e
        subst hyx
        simp only [if_pos]
        exact⟨by rw [hys.length_eq];omega,hso⟩
       ·simp only [if_neg e]
        refine hR3.done y hy ?_
        rcases Array.mem_push.1 hin with h | h
        ·exact h
        ·exact absurd h e
noncomputable def zj7 (L:List Fil):Int:=if zcw L≠0 then zcw L else zcn L
def zya (L:List Fil):List (List UInt8)×List UInt8:=zf5 (zs7 L) 9 []
theorem zma {L:List Fil}:zya L=zf5 (zs7 L) 9 []:=rfl
attribute [irreducible] zya
def qa1 (pre:Int) (q:Int) (r:Bl.SM) (bl:List (List UInt8)×List UInt8) (code:Int) (d:List UInt8) (r':Bl.SM):Prop:=
 (pre≠0->code=pre/\d=Bl.nought/\r'=r)/\(pre=0->Bl.zkn q r bl.1 code r'/\d=if code=0 then bl.2 else Bl.nought)
theorem qg9:zc P jq=#[.slice none 0 0]:=by kernel_rfl
theorem qg6:zc P zac=#[.map none]:=by kernel_rfl
theorem qho:(zc P zcr).size=1:=by kernel_rfl
theorem qiv:P.cellsOf zcr=1:=by kernel_rfl
theorem qfi {L:List Fil}(h:zcw L=0):∀ f∈L,f.data.length<=1024:=by
 unfold zcw at h
 split at h
 ·rename_i h1;exact absurd h h1
 ·split at h
  ·cases h
  ·split at h
   ·cases h
   ·rename_i h2
    intro f hf
    have:qd3 f=false:=by
     rw [<-Bool.not_eq_true]
     exact fun hb=>h2 (List.any_eq_true.2 ⟨f,hf,hb⟩)
    simpa [qd3] using this
theorem qdg {L:List Fil}(h:zcn L=0):¬z3z L/\¬qdf L:=by
 unfold zcn at h
 by_cases h5:z3z L
 ·rw [if_pos h5] at h;cases h
 ·rw [if_neg h5] at h
  by_cases h4:qce L
  ·rw [if_pos h4] at h;cases h
  ·rw [if_neg h4] at h
   by_cases h70:z0j L
   ·rw [if_pos h70] at h;cases h
   ·rw [if_neg h70] at h
    by_cases h8:qdf L
    ·rw [if_pos h8] at h;cases h
    ·exact⟨h5,h8⟩
theorem z8j {L:List Fil}(h5:¬z3z L) (hd:∀ f∈L,f.data.length<=1024):(zya L).1.length<=1+18 * L.length:=by
 obtain⟨hp,hr⟩:=zkr (ztn h5).1
 have h:=z4m hr (fun f hf=>hd f (hp.mem_iff.1 hf)) 9 []
 have h2:=List.length_filter_le (fun f=>zew (nm f) []&&decide ((([]:Path)).length < (nm f).length)) (zs7 L)
 have h3:=hp.length_eq
 rw [zma]
 omega
theorem zy0 {w:World}{H:Heap}{b:Nat}{R:Array Value->World->Prop}(hw:w.heap=H) (hb:H[b]?=some (.cells (zc P zf) zf (0,0))) (hR:∀ w',Ext [b] H w'.heap->R (byteCells Bl.nought).toArray w') :
  za7 P (Instr.build zf #[]) .any w fun (t:Value)=>zbz P (storeVar zf (⟨b,0,none⟩:Addr) t) w fun w2=>ldA P 32 (⟨b,0,none⟩:Addr) w2 fun t4=>R t4 w2:=by
 refine qp (s:=.any) (arr Bl.nought) (Bl.b27 _) ?_
 refine z2t Bl.za4 hw hb zcD fun w2 hw2=>?_
 have hb2:w2.heap[b]?=some (.cells (byteCells Bl.nought).toArray zf (0,0)):=by rw [hw2];exact qg hb
 refine qx rfl hb2 (by simp [Bl.za4]) ?_
 exact hR w2 (by rw [hw2];exact Ext.set _ (by simp))
set_option maxHeartbeats 1000000 in
theorem qdm {w:World}{H:Heap}{fp:List Nat}{p:Nat}{q:Int}{r:Bl.SM}{c:Nat}{a:Option Addr}{n nc:Nat}{L:List Fil}(hw:w.heap=H) (hS:Bl.Store H fp p q r c) (hfp:∀ b∈fp,b < H.size) (hRo:Bl.Rounds H) (h0:0∉fp)
  (hL:Cells H a (L.flatMap zsx)) (hn:n=L.length) (hm:L.length<=65536) (hb:Bl.total r < 1000000000000) (hq:0<=q) (hq2:q<=9223372036854775807) (hlen:∀ k L,Bl.zaa r k=some L->L.length < 1099511627776) :
  qc P zl9 #[.pointer (some ⟨p,0,none⟩),.slice a n nc] w fun e w'=>∃ code d r' c' fp',e=.returned (.tuple #[arr d,.int .i64 code])/\d.length=32/\Bl.Store w'.heap fp' p q r' c'/\Ext fp H w'.heap/\(∀ b∈fp',b < w'.heap.size)/\(∀ b∈fp',b∈fp\/H.size<=b) /\
   qa1 (zj7 L) q r (zya L) code d r'/\Bl.total r'<=Bl.total r+4096 * (1+18 * L.length):=by
 refine zx8 ?_
 unfold zsi
 have hpl:=hS.lt
 have hH0:0 < H.size:=by obtain⟨_,_,_,h,_⟩:=hRo;exact lt_of_get h
 refine jv hw fun w1 hw1=>?_
 have hx1:Ext [] H w1.heap:=by rw [hw1];exact .push _
 have hd1:w1.heap[H.size]?=some (.cells (zc P zf) zf (0,0)):=by rw [hw1];exact zn
 refine jm rfl ?_
 refine zk (qb8 rfl (hL.ext hx1 (by simp)) hn hm) ?_
 rintro e w3 ⟨x,rfl,hx3,h3⟩
 refine⟨(x,zcw L),rfl,?_⟩
 have hd3:=hx3.get hd1 (by simp)
 have hx03:=hx1.trans hx3
 have hn0:∀ {w':World}{H':Heap},H.size<=H'.size->Ext [] H H'->Ext [H.size] H' w'.heap->Ext fp H w'.heap:=fun _ hxa hxb=>(hxa.mono (by simp)).own hxb (fun c hc hlt=>by simp at hc;omega)
 have bad:∀ {H':Heap}{w':World}{code:Int},code≠0->zj7 L=code->Ext [] H H'->Ext [H.size] H' w'.heap->∃ code' d r' c' fp',Ending.returned (.tuple #[arr Bl.nought,.int .i64 code])=.returned (.tuple #[arr d,.int .i64 code'])/\d.length=32/\Bl.Store w'.heap fp' p q r' c'/\Ext fp H w'.heap/\(∀ b∈fp',b < w'.heap.size)/\(∀ b∈fp',b∈fp\/H.size<=b) /\
   qa1 (zj7 L) q r (zya L) code' d r'/\Bl.total r'<=Bl.total r+4096 * (1+18 * L.length):=by
  intro H' w' code h0' hc hxa hxb
  have hxx:Ext fp H w'.heap:=(hxa.mono (by simp)).own hxb (fun c hc hlt=>by simp at hc;omega)
  have hsz:=hxx.1
  refine⟨code,Bl.nought,r,c,fp,rfl,Bl.za4,(hS.ext hxa (by simp)).ext hxb (fun b hb h=>by simp at h;have:=hfp b hb;omega),hxx,fun b hb=>by have:=hfp b hb;omega,fun b hb=>.inl hb,⟨fun _=>⟨hc.symm,rfl,rfl⟩,fun h=>absurd (hc.symm.trans h) h0'⟩,by omega⟩
 refine zay (fun hc=>?_) (fun hc=>?_)
 ·exact zy0 rfl hd3 fun w4 hx4=>bad hc (by simp only at hc;rw [zj7,if_pos hc]) hx03 hx4
 simp only at hc
 have hchk:zj7 L=zcn L:=by rw [zj7,if_neg (by simpa using hc)]
 obtain⟨ms,rfl,hm3,hN3⟩:=h3 hc
 simp only [List.length_map] at *
 have hxl:x.2.1=ms.length:=by
  have:=hm3.len
  rw [zu zic zhr] at this
  omega
 refine zk (qda (ms:=ms) rfl hm3.cells hxl hm hN3) ?_
 rintro e w5 ⟨v,rfl,hx5,h5⟩
 refine⟨(v,zcn (ms.map (·.f))),rfl,?_⟩
 have hx05:=hx03.trans hx5
 have hd5:=hx5.get hd3 (by simp)
 refine jv rfl fun w6 hw6=>?_
 have hx6:Ext [] w5.heap w6.heap:=by rw [hw6];exact .push _
 have hb6:w6.heap[w5.heap.size]?=some (.cells #[.map none] zac (0,0)):=by rw [hw6,qg6];exact zn
 refine za9 rfl hb6 (by simp) fun w7 hw7=>?_
 have hx7:Ext [] w5.heap w7.heap:=by rw [hw7];exact hx6.set_own (.inl (Nat.le_refl _))
 have hb7:w7.heap[w5.heap.size]?=some (.cells #[.map v] zac (0,0)):=by rw [hw7];exact qg hb6
 have hx07:=hx05.trans hx7
 have hd7:=hx7.get hd5 (by simp)
 refine zay (fun hs=>?_) (fun hs=>?_)
 ·exact zy0 rfl hd7 fun w8 hx8=>bad hs hchk hx07 hx8
 simp only at hs
 obtain⟨mk,rfl,hK5⟩:=h5 hs
 obtain⟨n5,n8⟩:=qdg hs
 have hdl:=qfi hc
 obtain⟨hperm,hrise⟩:=zkr (ztn n5).1
 refine jv rfl fun w9 hw9=>?_
 have hx9:Ext [] w7.heap w9.heap:=by rw [hw9];exact .push _
 have hb9:w9.heap[w7.heap.size]?=some (.cells #[zbv (none,0,0)] jq (0,0)):=by rw [hw9,qg9];exact zn
 refine jv rfl fun w10 hw10=>?_
 have hx10:Ext [] w9.heap w10.heap:=by rw [hw10];exact .push _
 have hf10:w10.heap[w9.heap.size]?=some (.cells (zc P zcr) zcr (0,0)):=by rw [hw10];exact zn
 refine qp (s:=.any) (ztb w5.heap.size w9.heap.size w7.heap.size) rfl ?_
 have s1:=lt_of_get hd1
 have s5:=hx03.1
 have s6:=lt_of_get hb7
 have s9:=lt_of_get hb9
 have s10:=lt_of_get hf10
 have sx5:=hx5.1
 have sx3:=hx3.1
 have hx010:=(hx07.trans hx9).trans hx10
 refine zaz (v:=ztb w5.heap.size w9.heap.size w7.heap.size) (by rw [qiv];rfl) (by simp [Value.cells,ztb]) (by intro v hv;simp [Value.cells,ztb] at hv;subst hv;rfl) rfl hf10 (by rw [qho];simp [Value.cells,ztb]) fun w11 hw11=>?_
 have hset:setCells (zc P zcr) 0 (ztb w5.heap.size w9.heap.size w7.heap.size).cells.toList=#[ztb w5.heap.size w9.heap.size w7.heap.size]:=by
  rw [zan (by rw [qho];rfl)];rfl
 rw [hset] at hw11
 have hx1011:Ext [w9.heap.size] w10.heap w11.heap:=by rw [hw11];exact Ext.set _ (by simp)
 have hx911:Ext [] w9.heap w11.heap:=by rw [hw11];exact hx10.set_own (.inl (Nat.le_refl _))
 have hf11:w11.heap[w9.heap.size]?=some (.cells #[ztb w5.heap.size w9.heap.size w7.heap.size] zcr (0,0)):=by rw [hw11];exact qg hf10
 refine je (s:=.any) (t:=ztb w5.heap.size w9.heap.size w7.heap.size) rfl hf11 rfl ?_
 have hx711:=hx9.trans hx911
 have hx511:=hx7.trans hx711
 have hx011:=hx05.trans hx511
 have hD11:DirSt w11.heap w5.heap.size w9.heap.size w7.heap.size mk w11.heap.size (zs7 (ms.map (·.f))) (none,0,0) []:=
  ⟨hx711.get hb7 (by simp),hf11,hx911.get hb9 (by simp),hK5.keep hx511 (by simp),.nil,hRo.ext hx011 (by simp),by omega⟩
 have s11:=hx911.1
 have hlen1:=z8j n5 hdl
 simp only [List.length_map] at hlen1
 refine zho (args:=#[.string (strOf (za2 []))]) ?_
 refine (qig (zs7 (ms.map (·.f))) (fun f hf=>hdl f (hperm.mem_iff.1 hf)) hrise (fun p=>qb4 n5 n8 p) 9 (w:=w11) (p:=[]) rfl hD11 (by omega) (Nat.le_refl _) (by simp [okP]) (by simp) (by rw [zma] at hlen1;rw [List.length_nil];omega)).mono ?_
 rintro e w12 ⟨x2,rfl,hD12,hx12,hs12⟩
 rw [<-zma] at hD12 |-
 have h32:(zya (ms.map (·.f))).2.length=32:=by rw [zma];exact zmg
 generalize zya (ms.map (·.f))=T at *
 refine⟨arr T.2,rfl,?_⟩
 have hbl:zcj w12.heap w11.heap.size x2 T.1:=hD12.blobs
 refine jv rfl fun w13 hw13=>?_
 have hx13:Ext [] w12.heap w13.heap:=by rw [hw13];exact .push _
 have hd13:w13.heap[w12.heap.size]?=some (.cells (zc P zf) zf (0,0)):=by rw [hw13];exact zn
 refine z2t (k:=T.2) h32 rfl hd13 zcD fun w14 hw14=>?_
 have hx14:Ext [] w12.heap w14.heap:=by rw [hw14];exact hx13.set_own (.inl (Nat.le_refl _))
 have hd14:w14.heap[w12.heap.size]?=some (.cells (byteCells T.2).toArray zf (0,0)):=by rw [hw14];exact qg hd13
 refine je (s:=.slc) (t:=x2) rfl (hx14.get hD12.b (by simp)) rfl ?_
 have hx012:Ext [] H w12.heap:=hx011.own hx12 (fun b hb hlt=>by
  rcases List.mem_cons.1 hb with h | h
  ·omega
  ·simp [jf] at h)
 have hx014:=hx012.trans hx14
 have s12:=hx12.1
 have s14:=hx14.1
 have hS14:=hS.ext hx014 (by simp)
 have htot:Bl.total r+4096 * T.1.length < 1125899906842624:=by omega
 refine zk (Bl.z4o rfl hS14 (fun b hb=>by have:=hfp b hb;have:=hx014.1;omega) (hRo.ext hx014 (by simp)) h0 ((hbl.ext hx14 (by simp)).rows) htot hq hq2 hlen) ?_
 rintro e w15 ⟨code,r',c',fp',rfl,hS15,hx15,hf1,hf2,hP,ht⟩
 refine⟨code,rfl,?_⟩
 have s014:=hx014.1
 have nfp:∀ {b:Nat},H.size<=b->b∉fp:=fun h hb=>by have:=hfp _ hb;omega
 have hd14':w14.heap[H.size]?=some (.cells (zc P zf) zf (0,0)):=hx14.get (hx12.get (hx711.get hd7 (by simp)) (by simp [jf];omega)) (by simp)
 have hd15:=hx15.get hd14' (nfp (Nat.le_refl _))
 have he15:=hx15.get hd14 (nfp (by omega))
 have hx015:Ext fp H w15.heap:=(hx014.mono (by simp)).trans hx15
 have s15:=hx15.1
 have fin:∀ {w':World}{d:List UInt8},Ext [H.size] w15.heap w'.heap->d.length=32->d=(if code=0 then T.2 else Bl.nought)->∃ code' d' r'' c'' fp'',Ending.returned (.tuple #[arr d,.int .i64 code])=.returned (.tuple #[arr d',.int .i64 code'])/\d'.length=32/\Bl.Store w'.heap fp'' p q r'' c''/\Ext fp H w'.heap/\(∀ b∈fp'',b < w'.heap.size)/\(∀ b∈fp'',b∈fp\/H.size<=b) /\
   qa1 (zj7 (ms.map (·.f))) q r T code' d' r''/\Bl.total r''<=Bl.total r+4096 * (1+18 * ms.length):=by
  intro w' d hxb hdl' hd'
  have s':=hxb.1
  refine⟨code,d,r',c',fp',rfl,hdl',hS15.ext hxb (fun b hb h=>?_),hx015.own hxb (fun c hc hlt=>by simp at hc;omega),fun b hb=>by have:=hf1 b hb;omega,fun b hb=>?_,⟨fun h=>absurd (hchk.trans hs) h,fun _=>⟨hP,hd'⟩⟩,by omega⟩
  ·simp at h;subst h
   rcases hf2 _ hb with h | h
   ·exact nfp (Nat.le_refl _) h
   ·omega
  ·rcases hf2 _ hb with h | h
   ·exact .inl h
   ·right;omega
 refine zay (fun h1=>?_) (fun h1=>?_)
 ·exact zy0 rfl hd15 fun w16 hx16=>fin hx16 Bl.za4 (by rw [if_neg h1])
 ·refine qx rfl he15 (by simp [h32]) ?_
  refine z2t (k:=T.2) h32 rfl hd15 zcD fun w17 hw17=>?_
  have hx17:Ext [H.size] w15.heap w17.heap:=by rw [hw17];exact Ext.set _ (by simp)
  have hd17:w17.heap[H.size]?=some (.cells (byteCells T.2).toArray zf (0,0)):=by rw [hw17];exact qg hd15
  refine qx rfl hd17 (by simp [h32]) ?_
  subst h1
  exact fin hx17 h32 (by rw [if_pos rfl])
end Go.Proofs.YtbmegmbnlajbbaaGreatDoor
namespace Go.Proofs.YtbmegmbnlajbbaaGreatDoor
open Go Go.Fw Go.Proofs Go.Sort
theorem qct {T E:TypeId}{sz:Nat}{H:Heap}{a:Option Addr}{l c:Nat}{vs:List Value}{i:Nat}{n:Int}(hu:P.underlying T=some (.slice E)) (hs:(P.info? E).map (·.size)=some sz) (hL:Cells H a vs) (hv:vs.length=l * sz) (hc:l<=c) (hi:i<=l) (hn:n=(i:Int)) :
  ∃ a',(∀ w,(Instr.sliceAt T (.slice a l c) (some (.int .i64 n)) none none).run P w=.ok (.slice a' (l-i) (c-i)) w)/\Cells H a' (vs.drop (i * sz)):=by
 refine⟨_,fun w=>za1 (l:=i) (h:=l) hu hs (.yes hn) .no (by omega) (by omega),?_⟩
 by_cases h:c=i
 ·left
  rw [List.drop_eq_nil_of_le]
  rw [hv,show l=i by omega];exact Nat.le_refl _
 ·rw [if_neg h]
  have h1:i * sz<=l * sz:=Nat.mul_le_mul_right _ hi
  have:=hL.part (i * sz) (vs.length-i * sz) (by omega)
  rwa [List.take_of_length_le (by simp)] at this
abbrev NR:=(Option Addr×Nat×Nat)×Path
def encR (y:NR):List Value:=[zbv y.1]
theorem qbw (ys:List NR):ys.flatMap encR=ys.map fun y=>zbv y.1:=by
 induction ys with
 | nil=>rfl
 | cons y ys ih=>rw [List.flatMap_cons,ih];rfl
def qcj (H:Heap) (y:NR):Prop:=Mine H 0 vg 1 y.1 (strRow y.2)
def zp9 (H:Heap) (B:Nat) (x:Option Addr×Nat×Nat) (ps:List Path):Prop:=
 ∃ ys:List NR,Mine H B zak 1 x (ys.flatMap encR)/\ys.map (·.2)=ps/\∀ y∈ys,qcj H y
theorem zp9.nil {H:Heap}{B:Nat}:zp9 H B (none,0,0) []:=⟨[],.inl ⟨rfl,rfl⟩,rfl,by simp⟩
theorem qku (ys:List NR):(ys.flatMap encR).length=ys.length:=by rw [qbw];simp
theorem zp9.len {H:Heap}{B:Nat}{x:Option Addr×Nat×Nat}{ps:List Path}(h:zp9 H B x ps):x.2.1=ps.length:=by
 obtain⟨ys,h1,h2,_⟩:=h
 have:=h1.len
 rw [qku] at this
 rw [<-h2];simp;omega
theorem zp9.ext {H H':Heap}{B:Nat}{x:Option Addr×Nat×Nat}{ps:List Path}(h:zp9 H B x ps) (hx:Ext [] H H'):zp9 H' B x ps:=by
 obtain⟨ys,h1,h2,h3⟩:=h
 exact⟨ys,h1.ext hx (by simp),h2,fun y hy=>Mine.ext (h3 y hy) hx (by simp)⟩
theorem zp9.cap {H:Heap}{B:Nat}{x:Option Addr×Nat×Nat}{ps:List Path}(h:zp9 H B x ps):x.2.1<=x.2.2:=by
 obtain⟨ys,h1,_⟩:=h
 exact zfm h1
theorem qcj.len {H:Heap}{z:Option Addr×Nat×Nat}{p:Path}(h:qcj H (z,p)):z.2.1=p.length:=by
 have:=Mine.len h
 simp at this;omega
structure Seen (H:Heap) (a:Option Addr) (x:Option Addr×Nat×Nat) (ys:List NR) (L:List Fil):Prop where
 row:Cells H a (L.flatMap zsx)
 cells:Cells H x.1 (ys.flatMap encR)
 len:x.2.1=ys.length
 cap:x.2.1<=x.2.2
 path:∀ y∈ys,qcj H y
 eq:ys.map (·.2)=L.map nm
theorem Seen.ext {H H':Heap}{a:Option Addr}{x:Option Addr×Nat×Nat}{ys:List NR}{L:List Fil}(h:Seen H a x ys L) (hx:Ext [] H H'):Seen H' a x ys L:=
 ⟨h.row.ext hx (by simp),h.cells.ext hx (by simp),h.len,h.cap,fun y hy=>Mine.ext (h.path y hy) hx (by simp),h.eq⟩
theorem Seen.none {H:Heap}{a:Option Addr}{x:Option Addr×Nat×Nat}{ys:List NR}{L:List Fil}(h:Seen H a x ys L){i:Nat}{p:Path}(hno:∀ y∈ys.take i,y.2≠p):∀ g∈L.take i,nm g≠p:=by
 intro g hg e
 have h1:(ys.take i).map (·.2)=(L.take i).map nm:=by rw [List.map_take,h.eq,List.map_take]
 have:p∈(ys.take i).map (·.2):=by rw [h1];exact List.mem_map.2 ⟨g,hg,e⟩
 obtain⟨y,hy,e2⟩:=List.mem_map.1 this
 exact hno y hy e2
theorem Seen.small {H:Heap}{a:Option Addr}{x:Option Addr×Nat×Nat}{ys:List NR}{L:List Fil}(h:Seen H a x ys L):∀ y∈ys,y.2.length<=8:=by
 intro y hy
 have:y.2∈L.map nm:=by rw [<-h.eq];exact List.mem_map.2 ⟨y,hy,rfl⟩
 obtain⟨g,_,e⟩:=List.mem_map.1 this
 rw [<-e];exact (znr g).2
theorem Seen.count {H:Heap}{a:Option Addr}{x:Option Addr×Nat×Nat}{ys:List NR}{L:List Fil}(h:Seen H a x ys L):ys.length=L.length:=by
 have:=congrArg List.length h.eq
 simpa using this
theorem z9j {L:List Fil}(h:zcw L=0):zj7 L=zcn L:=by unfold zj7;rw [if_neg (by simpa using h)]
end Go.Proofs.YtbmegmbnlajbbaaGreatDoor
namespace Go.Proofs.YtbmegmbnlajbbaaGreatDoor
open Go Go.Fw Go.Proofs Go.Sort
theorem qij {cs:Array Value}{t:TypeId}{o:Nat}{v:Value}{w:World}(ha:(isAgg t).run P w=.ok false w) (hc:cs[o]?=some v):(part t cs o).run P w=.ok v w:=by
 simp [part,ha,hc]
theorem zx7 {r:Bl.SM}{c:Nat}(h:MOk (fun L:List UInt8=>L.length=32) r c){k L:List UInt8}(hv:Bl.zaa r k=some L):L.length<=Bl.total r:=by
 have h1:=Bl.z0v h (k:=k) (c':=0) (v:=((none,0,0),[]))
 have h2:Bl.qbl r k=L.length:=by unfold Bl.qbl;rw [hv]
 simp only [List.length_nil] at h1
 omega
def dgS (s:Rest):List UInt8×Rest:=match s with | none=>(Bl.nought,none) | some R=>if 32<=R.length then (R.take 32,some (R.drop 32)) else (Bl.nought,none)
theorem zm4 {s:Rest}:(dgS s).1.length=32:=by
 unfold dgS
 cases s with
 | none=>exact Bl.za4
 | some R=>
  simp only
  split
  ·simp;omega
  ·exact Bl.za4
theorem slA {b:Nat}{w:World}:(Instr.sliceAt zf (Value.pointer (some (⟨b,0,none⟩:Addr))) none none none).run P w=.ok (.slice (some ⟨b,0,none⟩) 32 32) w:=by
 rw [zdw (l:=0) (h:=32) Bl.u27 sz8 .no .no (by omega) (by omega)]
 simp [Addr.add]
theorem qjb {w:World}{H:Heap}{b:Nat}{c:Array Value}{T:TypeId}{y:Option Addr×Nat×Nat}{k:List UInt8}(hk:k.length<=32) (hw:w.heap=H) (hb:H[b]?=some (.cells c T (0,0))) (hs:c.size=32) (hy:Cells H y.1 (byteCells k)) (hl:y.2.1=k.length){K:Int->World->Prop}
  (hK:∀ n w',w'.heap=H.setIfInBounds b (.cells (setCells c 0 (byteCells k)) T (0,0))->K n w') :
  zas P (Builtin.copy_ #[zi,zi] zbw #[(Value.slice (some ⟨b,0,none⟩) 32 32),(Value.slice y.1 y.2.1 y.2.2)]) (.int .i64) w K:=by
 obtain⟨w4,hrun,hcm4,hw4⟩:=qaf (P:=P) (w:=w) (st:=zi) (xt:=zi) (ty:=zbw) (od:=0) (dl:=32) (dc:=32) (sa:=y.1) (sl:=y.2.1) (sc:=y.2.2) (vs:=byteCells k) uS8 sz8 hw hy (by rw [hl];simp;omega) jr hb (by rw [hs];simpa using hk)
 exact zam _ w4 hrun (hK _ w4 hw4) hcm4
theorem qh8:zc P zf=(byteCells Bl.nought).toArray:=by kernel_rfl
theorem qd2 {w:World}{H:Heap}{b:Nat}{F:List Nat}{s:Rest}(hw:w.heap=H) (hI:InW H b F s) (hF:∀ c∈F,c < H.size) :
  qc P zf6 #[.pointer (some ⟨b,0,none⟩)] w fun e w'=>e=.returned (arr (dgS s).1)/\InW w'.heap b F (dgS s).2/\Ext [b] H w'.heap:=by
 have hbl:=hI.lt
 refine zq9 ?_
 unfold zl1
 refine jv hw fun w1 hw1=>?_
 have hx1:Ext [] H w1.heap:=by rw [hw1];exact .push _
 have hb1:w1.heap[H.size]?=some (.cells (zc P zf) zf (0,0)):=by rw [hw1];exact zn
 refine jv rfl fun w2 hw2=>?_
 have hx2:Ext [] w1.heap w2.heap:=by rw [hw2];exact .push _
 have hb2:w2.heap[w1.heap.size]?=some (.cells (zc P zf) zf (0,0)):=by rw [hw2];exact zn
 refine jl rfl fun w3 hw3=>?_
 have hx3:Ext [] H w3.heap:=by rw [hw3];exact hx1.trans hx2
 have hb3:w3.heap[w1.heap.size]?=some (.cells (zc P zf) zf (0,0)):=by rw [hw3];exact hb2
 have hd3:w3.heap[H.size]?=some (.cells (zc P zf) zf (0,0)):=by rw [hw3];exact hx2.get hb1 (by simp)
 have s1:=lt_of_get hb1
 have s3:=lt_of_get hb3
 have hI3:=hI.ext hx3 (by simp) (by simp)
 refine qp (s:=.slc) (some ⟨w1.heap.size,0,none⟩,32,32) slA ?_
 have htake:qc P zf2 #[.pointer (some ⟨b,0,none⟩),.int .i64 32] w3 fun e w'=>Ext [b] w3.heap w'.heap/\InW w'.heap b F (dgS s).2/\∃ y k,e=.returned (zbv y)/\Cells w'.heap y.1 (byteCells k)/\y.2.1=k.length/\k.length<=32/\(∀ c∈jf y,c∈F)/\setCells (zc P zf) 0 (byteCells k)=(byteCells (dgS s).1).toArray:=by
  have hnil:setCells (zc P zf) 0 (byteCells [])=(byteCells Bl.nought).toArray:=by rw [qh8];rfl
  cases s with
  | none=>
   obtain⟨x,e,h1,h2,h3,h4⟩:=id hI3
   refine zmb ?_
   unfold zj6
   refine zal ?_
   refine jm rfl ?_
   simp only [zy,jo]
   refine je (s:=.int .i64) (t:=e) rfl h1 rfl ?_
   refine zah (by simpa using h4) ?_
   exact⟨.refl _ _,hI3,(none,0,0),[],rfl,.inl rfl,rfl,by simp,by simp [jf],hnil⟩
  | some R=>
   refine (qad (n:=32) rfl hI3 (by omega)).mono ?_
   rintro e w' ⟨hx,⟨hl,rfl,h3⟩ | ⟨hl,y,rfl,hC,hy,ho,h3⟩⟩
   ·have e1:dgS (some R)=(Bl.nought,none):=by unfold dgS;simp only;rw [if_neg (by omega)]
    rw [e1]
    exact⟨hx,h3,(none,0,0),[],rfl,.inl rfl,rfl,by simp,by simp [jf],hnil⟩
   ·have e1:dgS (some R)=(R.take 32,some (R.drop 32)):=by unfold dgS;simp only;rw [if_pos hl]
    rw [e1]
    have hl32:(R.take 32).length=32:=by simp;omega
    exact⟨hx,h3,y,R.take 32,rfl,hC,by rw [hl32,hy],by omega,ho,zan (by rw [zcD];simp [hl32])⟩
 refine zk htake ?_
 rintro e w4 ⟨hx4,hI4,y,k,rfl,hC,hyl,hk,ho,hset⟩
 refine⟨y,rfl,⟨qp (s:=.slc) (some ⟨w1.heap.size,0,none⟩,32,32) slA rfl,?_⟩⟩
 have hb4:=hx4.get hb3 (by simp;omega)
 have hd4:=hx4.get hd3 (by simp;omega)
 refine qjb hk rfl hb4 zcD hC hyl fun n w5 hw5=>?_
 rw [hset] at hw5
 have hx5:Ext [w1.heap.size] w4.heap w5.heap:=by rw [hw5];exact Ext.set _ (by simp)
 have hb5:w5.heap[w1.heap.size]?=some (.cells (byteCells (dgS s).1).toArray zf (0,0)):=by rw [hw5];exact qg hb4
 refine qx rfl hb5 (by simp [zm4]) ?_
 have hd5:=hx5.get hd4 (by simp;omega)
 refine z2t (k:=(dgS s).1) zm4 rfl hd5 zcD fun w6 hw6=>?_
 have hx6:Ext [H.size] w5.heap w6.heap:=by rw [hw6];exact Ext.set _ (by simp)
 have hd6:w6.heap[H.size]?=some (.cells (byteCells (dgS s).1).toArray zf (0,0)):=by rw [hw6];exact qg hd5
 refine qx rfl hd6 (by simp [zm4]) ?_
 refine⟨rfl,?_,?_⟩
 ·refine (hI4.ext hx5 (by simp;omega) fun c hc h=>?_).ext hx6 (by simp;omega) fun c hc h=>?_
  ·simp at h;subst h;have:=hF _ hc;omega
  ·simp at h;subst h;have:=hF _ hc;omega
 ·have h03:Ext [b] H w3.heap:=hx3.mono (by simp)
  exact ((h03.trans hx4).own hx5 (fun c hc hlt=>by simp at hc;omega)).own hx6 (fun c hc hlt=>by simp at hc;omega)
theorem bNk (n:Int) (w:World):(Instr.build zh #[(0,.int .i64 n)]).run P w=.ok (.agg #[.int .i64 n,.string .empty,.int .i64 0,.slice none 0 0,.slice none 0 0]) w:=by kernel_rfl
theorem qk3 (s:ByteArray) (n:Int) (a0 a1 a2 a3 a4 a5 a6 a7 a8 a9 a10 a11 a12 a13 a14 a15 a16 a17 a18 a19 a20 a21 a22 a23 a24 a25 a26 a27 a28 a29 a30 a31:UInt8) (w:World):(Instr.build zx #[(0,.string s),(1,.int .i64 n),(2,arr [a0,a1,a2,a3,a4,a5,a6,a7,a8,a9,a10,a11,a12,a13,a14,a15,a16,a17,a18,a19,a20,a21,a22,a23,a24,a25,a26,a27,a28,a29,a30,a31])]).run P w=.ok (.agg ([Value.string s,Value.int .i64 n]++byteCells [a0,a1,a2,a3,a4,a5,a6,a7,a8,a9,a10,a11,a12,a13,a14,a15,a16,a17,a18,a19,a20,a21,a22,a23,a24,a25,a26,a27,a28,a29,a30,a31]).toArray) w:=by kernel_rfl
theorem bT3 (s:ByteArray) (n:Int){k:List UInt8}(hk:k.length=32) (w:World):(Instr.build zx #[(0,.string s),(1,.int .i64 n),(2,arr k)]).run P w=.ok (.agg ([Value.string s,Value.int .i64 n]++byteCells k).toArray) w:=by
 match k,hk with
 | [a0,a1,a2,a3,a4,a5,a6,a7,a8,a9,a10,a11,a12,a13,a14,a15,a16,a17,a18,a19,a20,a21,a22,a23,a24,a25,a26,a27,a28,a29,a30,a31],_=>exact qk3 s n a0 a1 a2 a3 a4 a5 a6 a7 a8 a9 a10 a11 a12 a13 a14 a15 a16 a17 a18 a19 a20 a21 a22 a23 a24 a25 a26 a27 a28 a29 a30 a31 w
theorem qhi (m:Nat) (n:Nat) (w:World):(Builtin.min_ #[zdm,zdm] zdm #[.int .u64 (n:Int),.int .u64 (m:Int)]).run P w=.ok (.int .u64 ((min n m:Nat):Int)) w:=by
 rw [run_min_int2]
 congr 2
 split <;> omega
def zdy:Nat->Rest->List (List UInt8)×Rest
 | 0,s=>([],s)
 | k+1,s=>((zdy k s).1++[(dgS (zdy k s).2).1],(dgS (zdy k s).2).2)
def zs4 (s:Rest):Itm×Rest:=(⟨(txS 16 s).1,((min (nmS (txS 16 s).2).1 9:Nat):Int),(dgS (nmS (txS 16 s).2).2).1⟩,(dgS (nmS (txS 16 s).2).2).2)
def zbo:Nat->Rest->List Itm×Rest
 | 0,s=>([],s)
 | k+1,s=>((zbo k s).1++[(zs4 (zbo k s).2).1],(zs4 (zbo k s).2).2)
def zao (s:Rest):Nod×Rest:=
 if min (nmS s).1 9=1 then (⟨1,(txS 64 (nmS s).2).1,0,[],[]⟩,(txS 64 (nmS s).2).2)
 else if min (nmS s).1 9=2 then (⟨2,[],((min (nmS (nmS s).2).1 1025:Nat):Int),(zdy ((min (nmS (nmS s).2).1 1025+63) / 64) (nmS (nmS s).2).2).1,[]⟩,(zdy ((min (nmS (nmS s).2).1 1025+63) / 64) (nmS (nmS s).2).2).2)
 else if min (nmS s).1 9=3 then (⟨3,[],0,[],(zbo (min (nmS (nmS s).2).1 65) (nmS (nmS s).2).2).1⟩,(zbo (min (nmS (nmS s).2).1 65) (nmS (nmS s).2).2).2)
 else (⟨((min (nmS s).1 9:Nat):Int),[],0,[],[]⟩,(nmS s).2)
theorem zhp {s:Rest}:∀ {k:Nat},(zdy k s).1.length=k
 | 0=>rfl
 | k+1=>by rw [zdy,List.length_append,zhp];rfl
theorem zxo {s:Rest}:∀ {k:Nat},∀ p∈(zdy k s).1,p.length=32
 | 0,p,h=>by cases h
 | k+1,p,h=>by
  simp only [zdy,List.mem_append,List.mem_singleton] at h
  rcases h with h | rfl
  ·exact zxo p h
  ·exact zm4
theorem zkj {s:Rest}:∀ {k:Nat},(zbo k s).1.length=k
 | 0=>rfl
 | k+1=>by rw [zbo,List.length_append,zkj];rfl
theorem zz4 {s:Rest}:∀ {k:Nat},∀ p∈(zbo k s).1,p.sum.length=32
 | 0,p,h=>by cases h
 | k+1,p,h=>by
  simp only [zbo,List.mem_append,List.mem_singleton] at h
  rcases h with h | rfl
  ·exact zz4 p h
  ·exact zm4
theorem zpf {s:Rest}:(∀ p∈(zao s).1.parts,p.length=32)/\∀ i∈(zao s).1.items,i.sum.length=32:=by
 unfold zao
 split
 ·simp
 ·split
  ·exact⟨zxo,by simp⟩
  ·split
   ·exact⟨by simp,zz4⟩
   ·simp
structure NodM (H:Heap) (B:Nat) (n:Nod) (xp xi:Option Addr×Nat×Nat):Prop where
 parts:Mine H B zf 32 xp (n.parts.flatMap Bl.zbp)
 items:Mine H B zx 34 xi (n.items.flatMap zcy)
 p32:∀ p∈n.parts,p.length=32
 i32:∀ i∈n.items,i.sum.length=32
theorem NodM.nodW {H:Heap}{B:Nat}{n:Nod}{xp xi:Option Addr×Nat×Nat}(h:NodM H B n xp xi):NodW H n xp xi:=by
 have l1:=h.parts.len
 have l2:=h.items.len
 rw [zu Bl.zbp Bl.zaf] at l1
 rw [zu zcy zai] at l2
 exact⟨h.parts.cells,by omega,h.items.cells,by omega,h.p32,h.i32⟩
theorem NodM.ext {H H':Heap}{B:Nat}{n:Nod}{xp xi:Option Addr×Nat×Nat}{M:List Nat}(h:NodM H B n xp xi) (hx:Ext M H H') (hM:∀ m∈M,m < B):NodM H' B n xp xi:=
 ⟨h.parts.ext hx (fun c hc hm=>by have:=xu h.parts c hc;have:=hM c hm;omega),h.items.ext hx (fun c hc hm=>by have:=xu h.items c hc;have:=hM c hm;omega),h.p32,h.i32⟩
theorem NodM.mono {H:Heap}{B B':Nat}{n:Nod}{xp xi:Option Addr×Nat×Nat}(h:NodM H B n xp xi) (hB:B'<=B):NodM H B' n xp xi:=
 ⟨h.parts.mono hB,h.items.mono hB,h.p32,h.i32⟩
theorem NodM.bare {H:Heap}{B:Nat}{n:Nod}(hp:n.parts=[]) (hi:n.items=[]):NodM H B n (none,0,0) (none,0,0):=
 ⟨by rw [hp];exact .inl ⟨rfl,rfl⟩,by rw [hi];exact .inl ⟨rfl,rfl⟩,by rw [hp];simp,by rw [hi];simp⟩
theorem zzw {w:World}{H:Heap}{B:Nat}{x:Option Addr×Nat×Nat}{T:List Itm}{i:Itm}{Q:World->Prop}(hw:w.heap=H) (hm:Mine H B zx 34 x (T.flatMap zcy)) (hBs:B<=H.size) (hlen:T.length<=1073741824) (hQ:∀ w',Ext [] H w'.heap->Q w'){K:(Option Addr×Nat×Nat)->World->Prop}
  (hK:∀ x' w',Mine w'.heap B zx 34 x' ((T++[i]).flatMap zcy)->Ext (jf x) H w'.heap->(∀ c∈jf x',c∈jf x\/H.size<=c)->K x' w') :
  zas P (Instr.buildSlice jh 1 #[(0,.agg (zcy i).toArray)]) .slc w fun (t27:(Option Addr×Nat×Nat)) w_13=>Q w_13 /\
  zas P (Builtin.append_ #[jh,jh] jh #[(Value.slice x.1 x.2.1 x.2.2),(Value.slice t27.1 t27.2.1 t27.2.2)]) .slc w_13 K:=by
 have hlx:x.2.1=T.length:=by
  have:=hm.len
  rw [zu zcy zai] at this
  omega
 refine zam (s:=.slc) (some ⟨w.heap.size,0,none⟩,1,1) _ (zd7 ET uST (v:=.agg (zcy i).toArray) (by simp [Value.cells,zai]) (by omega) (by omega)) ?_
 subst hw
 have hxp:Ext [] w.heap (w.heap.push (.cells (Value.agg (zcy i).toArray).cells zx)):=.push _
 refine⟨hQ _ hxp,?_⟩
 refine zch (bts:=56) (n:=1) (us:=zcy i) (H:=w.heap.push (.cells (Value.agg (zcy i).toArray).cells zx)) ET (by omega) uST (zbf uST) rfl (hm.ext hxp (by simp)) (by simp;omega)
  (Src.slc rfl (.inr ⟨w.heap.size,0,_,_,_,rfl,zn,by simp [zdx],by simp [zdx,List.take_of_length_le]⟩) (by rw [zai])) ztk (by omega) ?_
 intro x' w4 hm4 hl4 hx4 hs4
 refine hK x' w4 (by rw [List.flatMap_append,List.flatMap_singleton];exact hm4) ((hxp.mono (by simp)).trans hx4) (fun c hc=>?_)
 rcases hs4 c hc with h | h
 ·exact .inl h
 ·right;have:=hxp.1;omega
set_option maxHeartbeats 8000000 in
theorem qe4 {w:World}{H:Heap}{b:Nat}{F:List Nat}{s:Rest}(hw:w.heap=H) (hI:InW H b F s) (hF:∀ c∈F,c < H.size) :
  qc P zov #[.pointer (some ⟨b,0,none⟩)] w fun e w'=>∃ xp xi,e=.returned (.agg (zca (zao s).1 xp xi).toArray)/\NodM w'.heap H.size (zao s).1 xp xi/\InW w'.heap b F (zao s).2/\Ext [b] H w'.heap:=by
 have hbl:=hI.lt
 refine z1b ?_
 unfold zvo
 refine jv hw fun w1 hw1=>?_
 have hx1:Ext [] H w1.heap:=by rw [hw1];exact .push _
 have hd1:w1.heap[H.size]?=some (.cells (zc P zh) zh (0,0)):=by rw [hw1];exact zn
 have s1:=lt_of_get hd1
 refine zk (z1s rfl (hI.ext hx1 (by simp) (by simp))) ?_
 rintro e w2 ⟨rfl,hI2,hx2⟩
 refine⟨((nmS s).1:Int),rfl,?_⟩
 have s2:=hx2.1
 refine qp (s:=.int .u64) ((min (nmS s).1 9:Nat):Int) (qhi 9 _ _) ?_
 refine zg5 (by omega) (by omega) ?_
 refine qp (s:=.any) _ (bNk _ _) ?_
 refine z8c ⟨((min (nmS s).1 9:Nat):Int),[],0,[],[]⟩ (none,0,0) (none,0,0) rfl fun w4 hw4=>?_
 have hx4:Ext [] w2.heap w4.heap:=by rw [hw4];exact .push _
 have hn4:w4.heap[w2.heap.size]?=some (.cells (zca ⟨((min (nmS s).1 9:Nat):Int),[],0,[],[]⟩ (none,0,0) (none,0,0)).toArray zh (0,0)):=by rw [hw4];exact zn
 have s4:=lt_of_get hn4
 have hd4:=hx4.get (hx2.get hd1 (by simp;omega)) (by simp)
 have hI4:=hI2.ext hx4 (by simp) (by simp)
 have hx04:Ext [b] H w4.heap:=((hx1.mono (by simp)).trans hx2).trans (hx4.mono (by simp))
 refine Go.Fw.joinP_of (fun _ W=>∃ xp xi,W.heap[w2.heap.size]?=some (.cells (zca (zao s).1 xp xi).toArray zh (0,0))/\(Mine W.heap w4.heap.size zf 32 xp ((zao s).1.parts.flatMap Bl.zbp)/\Mine W.heap w4.heap.size zx 34 xi ((zao s).1.items.flatMap zcy))/\InW W.heap b F (zao s).2/\Ext [b] H W.heap/\W.heap[H.size]?=some (.cells (zc P zh) zh (0,0))) ?_ ?_
 rotate_left
 ·rintro _ W ⟨xp,xi,h1,h2,h3,h4,hd⟩
  refine qx rfl h1 rfl ?_
  refine zaz (v:=.agg (zca (zao s).1 xp xi).toArray) (by rw [szN];rfl) (by simp [Value.cells,zca]) (by
   intro v hv
   simp only [Value.cells,zca,List.mem_cons,List.not_mem_nil,or_false] at hv
   rcases hv with rfl | rfl | rfl | rfl | rfl <;> rfl) rfl hd (by rw [zcN];simp [Value.cells,zca]) fun w5 hw5=>?_
  rw [zan (by rw [zcN];simp [Value.cells,zca])] at hw5
  have hx5:Ext [H.size] W.heap w5.heap:=by rw [hw5];exact Ext.set _ (by simp)
  have hd5:w5.heap[H.size]?=some (.cells (zca (zao s).1 xp xi).toArray zh (0,0)):=by rw [hw5];exact qg hd
  refine qx rfl hd5 rfl ?_
  have hnod:NodM w5.heap H.size (zao s).1 xp xi:=by
   obtain⟨m1,m2⟩:=h2
   exact (NodM.ext ⟨m1,m2,zpf.1,zpf.2⟩ hx5 (fun c hc=>by simp at hc;omega)).mono (by omega)
  refine⟨xp,xi,rfl,hnod,h3.ext hx5 (by simp;omega) (fun c hc h=>by simp at h;subst h;have:=hF _ hc;omega),h4.own hx5 (fun c hc hlt=>by simp at hc;omega)⟩
 refine je (s:=.int .i64) (t:=((min (nmS s).1 9:Nat):Int)) rfl hn4 rfl ?_
 refine zal ?_
 have nil2:∀ {W:World},Mine W.heap w4.heap.size zf 32 (none,0,0) (([]:List (List UInt8)).flatMap Bl.zbp)/\Mine W.heap w4.heap.size zx 34 (none,0,0) (([]:List Itm).flatMap zcy):=⟨.inl ⟨rfl,rfl⟩,.inl ⟨rfl,rfl⟩⟩
 have bn:w2.heap.size≠b:=by have:=hx2.1;have:=hx1.1;omega
 have fn:∀ c∈F,w2.heap.size≠c:=fun c hc=>by have:=hF c hc;have:=hx2.1;have:=hx1.1;omega
 refine zax (fun h1=>?_) (fun h1=>?_)
 ·have h1:min (nmS s).1 9=1:=by omega
  have hr:zao s=(⟨1,(txS 64 (nmS s).2).1,0,[],[]⟩,(txS 64 (nmS s).2).2):=by unfold zao;rw [if_pos h1]
  rw [h1] at hn4
  refine zk (z9f (most:=64) rfl hI4 (by omega)) ?_
  rintro e w5 ⟨rfl,hI5,hx5⟩
  refine⟨strOf (txS 64 (nmS s).2).1,rfl,?_⟩
  have hn5:=hx5.get hn4 (by simp;exact bn)
  refine za9 rfl hn5 (by simp [zca]) fun w6 hw6=>?_
  have hx6:Ext [w2.heap.size] w5.heap w6.heap:=by rw [hw6];exact Ext.set _ (by simp)
  rw [hr]
  refine⟨(none,0,0),(none,0,0),by rw [hw6];exact qg hn5,nil2,hI5.ext hx6 (by simp;exact bn.symm) (fun c hc h=>by simp at h;exact fn c hc h.symm),(hx04.trans hx5).own hx6 (fun c hc hlt=>by simp at hc;omega),hx6.get (hx5.get hd4 (by simp;omega)) (by simp;omega)⟩
 refine zax (fun h2=>?_) (fun h2=>?_)
 ·have h1:min (nmS s).1 9≠1:=by omega
  have h2:min (nmS s).1 9=2:=by omega
  generalize hs2:nmS (nmS s).2=a2 at *
  have hr:zao s=(⟨2,[],((min a2.1 1025:Nat):Int),(zdy ((min a2.1 1025+63) / 64) a2.2).1,[]⟩,(zdy ((min a2.1 1025+63) / 64) a2.2).2):=by unfold zao;rw [if_neg h1,if_pos h2,hs2]
  rw [h2] at hn4
  refine zk (z1s rfl hI4) ?_
  rintro e w5 ⟨rfl,hI5,hx5⟩
  refine⟨((nmS (nmS s).2).1:Int),rfl,?_⟩
  rw [hs2] at hI5 |-
  refine qp (s:=.int .u64) ((min a2.1 1025:Nat):Int) (qhi 1025 _ _) ?_
  generalize hK:min a2.1 1025=K at *
  have hK2:K<=1025:=by omega
  refine zg5 (by omega) (by omega) ?_
  have hn5:=hx5.get hn4 (by simp;exact bn)
  refine za9 rfl hn5 (by simp [zca]) fun w6 hw6=>?_
  have hx6:Ext [w2.heap.size] w5.heap w6.heap:=by rw [hw6];exact Ext.set _ (by simp)
  have hn6:w6.heap[w2.heap.size]?=some (.cells (zca ⟨2,[],(K:Int),[],[]⟩ (none,0,0) (none,0,0)).toArray zh (0,0)):=by rw [hw6];exact qg hn5
  refine je (s:=.int .i64) (t:=(K:Int)) rfl hn6 rfl ?_
  have hparts:qc P zhx #[.int .i64 (K:Int)] w6 fun e w'=>e=.returned (.int .i64 (((K+63) / 64:Nat):Int))/\w'=w6:=by
   refine zpg ?_
   unfold zms
   refine jd ((K:Int)+64) rfl (by omega) (by omega) ?_
   refine zb0 ((K:Int)+63) (by omega) (by omega) (by omega) ?_
   refine z5t (K+63) 64 (by omega) rfl (by omega) (by omega) ?_
   exact⟨rfl,rfl⟩
  refine zk hparts ?_
  rintro e w7 ⟨rfl,rfl⟩
  refine⟨(((K+63) / 64:Nat):Int),rfl,?_⟩
  have hI6:=hI5.ext hx6 (by simp;exact bn.symm) (fun c hc h=>by simp at h;exact fn c hc h.symm)
  have hx06:=(hx04.trans hx5).own hx6 (fun c hc hlt=>by simp at hc;omega)
  have hd6:=hx6.get (hx5.get hd4 (by simp;omega)) (by simp;omega)
  have s46:w4.heap.size<=w7.heap.size:=Nat.le_trans hx5.1 hx6.1
  generalize hM:(K+63) / 64=M at *
  rw [hr]
  refine jg (fun (t:Int) W=>∃ (i:Nat) (xp:Option Addr×Nat×Nat),t=(i:Int)/\i<=M/\W.heap[w2.heap.size]?=some (.cells (zca ⟨2,[],(K:Int),(zdy i a2.2).1,[]⟩ xp (none,0,0)).toArray zh (0,0))/\Mine W.heap w4.heap.size zf 32 xp ((zdy i a2.2).1.flatMap Bl.zbp) /\
   InW W.heap b F (zdy i a2.2).2/\Ext [b] H W.heap/\W.heap[H.size]?=some (.cells (zc P zh) zh (0,0))/\w4.heap.size<=W.heap.size) (fun t _=>(M-t).toNat) ⟨0,(none,0,0),rfl,Nat.zero_le _,hn6,.inl ⟨rfl,rfl⟩,hI6,hx06,hd6,s46⟩ ?_
  rintro _ W ⟨i,xp,rfl,hi,g1,g2,g3,g4,g5,g6⟩
  refine zq (fun hlt=>?_) (fun hge=>?_)
  ·refine jl rfl fun w8 hw8=>?_
   rw [<-hw8] at g1 g2 g3 g4 g5 g6
   refine je (s:=.slc) (t:=xp) rfl g1 rfl ?_
   refine zk (qd2 rfl g3 (fun c hc=>by have:=hF c hc;have:=g4.1;omega)) ?_
   rintro e w9 ⟨rfl,hI9,hx9⟩
   refine⟨arr (dgS (zdy i a2.2).2).1,rfl,?_⟩
   have k1:=hx9.get g1 (by simp;exact bn)
   have k2:=g2.ext hx9 (fun c hc h=>by simp at h;subst h;have:=xu g2 _ hc;omega)
   have s9:=hx9.1
   refine⟨je (s:=.slc) (o:=3) (t:=xp) (K:=fun z=>Value.slice z.1 z.2.1 z.2.2=Value.slice xp.1 xp.2.1 xp.2.2) rfl k1 rfl rfl,?_⟩
   refine zu3 rfl k2 (by omega) zm4 (by rw [zhp];omega) (fun w10 hx10=>je (s:=.slc) (o:=3) (t:=xp) (K:=fun z=>Value.slice z.1 z.2.1 z.2.2=Value.slice xp.1 xp.2.1 xp.2.2) rfl (hx10.get k1 (by simp)) rfl rfl) fun xp2 w11 hm11 hx11 hs11=>?_
   have own3:∀ {c:Nat},c < w4.heap.size->c∉jf xp:=fun h hc=>by have:=xu g2 _ hc;omega
   have k11:=hx11.get k1 (own3 s4)
   refine za9 rfl k11 (by simp [zca]) fun w12 hw12=>?_
   have hx12:Ext [w2.heap.size] w11.heap w12.heap:=by rw [hw12];exact Ext.set _ (by simp)
   have s11:=hx11.1
   have s12:=hx12.1
   refine jd ((i+1:Nat):Int) (by simp) (by omega) (by omega) ?_
   refine⟨⟨i+1,xp2,rfl,by omega,by rw [hw12];exact qg k11,hm11.ext hx12 (fun c hc h=>by simp at h;subst h;have:=xu hm11 _ hc;omega),?_,?_,?_,by omega⟩,by omega⟩
   ·refine (hI9.ext hx11 (own3 (by omega)) fun c hc=>own3 (by have:=hF c hc;omega)).ext hx12 (by simp;exact bn.symm) (fun c hc h=>by simp at h;exact fn c hc h.symm)
   ·exact ((g4.trans hx9).own hx11 (fun c hc hlt=>by have:=xu g2 _ hc;omega)).own hx12 (fun c hc hlt=>by simp at hc;omega)
   ·exact hx12.get (hx11.get (hx9.get g5 (by simp;omega)) (own3 (by omega))) (by simp;omega)
  ·obtain rfl:i=M:=by omega
   exact⟨xp,(none,0,0),g1,⟨g2,.inl ⟨rfl,rfl⟩⟩,g3,g4,g5⟩
 refine zax (fun h3=>?_) (fun h3=>?_)
 ·have h1:min (nmS s).1 9≠1:=by omega
  have h2:min (nmS s).1 9≠2:=by omega
  have h3:min (nmS s).1 9=3:=by omega
  generalize hs2:nmS (nmS s).2=a2 at *
  have hr:zao s=(⟨3,[],0,[],(zbo (min a2.1 65) a2.2).1⟩,(zbo (min a2.1 65) a2.2).2):=by unfold zao;rw [if_neg h1,if_neg h2,if_pos h3,hs2]
  rw [h3] at hn4
  refine zk (z1s rfl hI4) ?_
  rintro e w7 ⟨rfl,hI6,hx5⟩
  refine⟨((nmS (nmS s).2).1:Int),rfl,?_⟩
  rw [hs2] at hI6 |-
  refine qp (s:=.int .u64) ((min a2.1 65:Nat):Int) (qhi 65 _ _) ?_
  generalize hM:min a2.1 65=M at *
  have hn6:=hx5.get hn4 (by simp;exact bn)
  have hx06:=hx04.trans hx5
  have hd6:=hx5.get hd4 (by simp;omega)
  have s46:w4.heap.size<=w7.heap.size:=hx5.1
  rw [hr]
  refine jg (fun (t:Int) W=>∃ (i:Nat) (xi:Option Addr×Nat×Nat),t=(i:Int)/\i<=M/\W.heap[w2.heap.size]?=some (.cells (zca ⟨3,[],0,[],(zbo i a2.2).1⟩ (none,0,0) xi).toArray zh (0,0))/\Mine W.heap w4.heap.size zx 34 xi ((zbo i a2.2).1.flatMap zcy) /\
   InW W.heap b F (zbo i a2.2).2/\Ext [b] H W.heap/\W.heap[H.size]?=some (.cells (zc P zh) zh (0,0))/\w4.heap.size<=W.heap.size) (fun t _=>(M-t).toNat) ⟨0,(none,0,0),rfl,Nat.zero_le _,hn6,.inl ⟨rfl,rfl⟩,hI6,hx06,hd6,s46⟩ ?_
  rintro _ W ⟨i,xi,rfl,hi,g1,g2,g3,g4,g5,g6⟩
  refine zq (fun hlt=>?_) (fun hge=>?_)
  ·refine jl rfl fun w8 hw8=>?_
   rw [<-hw8] at g1 g2 g3 g4 g5 g6
   have re:∀ {W':World},W'.heap[w2.heap.size]?=some (.cells (zca ⟨3,[],0,[],(zbo i a2.2).1⟩ (none,0,0) xi).toArray zh (0,0))->ld .slc (⟨w2.heap.size,4,none⟩:Addr) W' fun z=>Value.slice z.1 z.2.1 z.2.2=Value.slice xi.1 xi.2.1 xi.2.2:=fun h=>je (s:=.slc) (o:=4) (t:=xi) (K:=fun z=>Value.slice z.1 z.2.1 z.2.2=Value.slice xi.1 xi.2.1 xi.2.2) rfl h rfl rfl
   refine je (s:=.slc) (t:=xi) rfl g1 rfl ?_
   refine zk (z9f (most:=16) rfl g3 (by omega)) ?_
   rintro e w9 ⟨rfl,hI9,hx9⟩
   refine⟨strOf (txS 16 (zbo i a2.2).2).1,rfl,?_⟩
   have k9:=hx9.get g1 (by simp;exact bn)
   refine⟨re k9,?_⟩
   refine zk (z1s rfl hI9) ?_
   rintro e w10 ⟨rfl,hI10,hx10⟩
   refine⟨((nmS (txS 16 (zbo i a2.2).2).2).1:Int),rfl,?_⟩
   have k10:=hx10.get k9 (by simp;exact bn)
   refine⟨re k10,?_⟩
   refine qp (s:=.int .u64) ((min (nmS (txS 16 (zbo i a2.2).2).2).1 9:Nat):Int) (qhi 9 _ _) ?_
   refine zg5 (by omega) (by omega) ?_
   have s9:=hx9.1
   have s10:=hx10.1
   have s04:=g4.1
   refine zk (qd2 rfl hI10 (fun c hc=>by have:=hF c hc;omega)) ?_
   rintro e w11 ⟨rfl,hI11,hx11⟩
   refine⟨arr (dgS (nmS (txS 16 (zbo i a2.2).2).2).2).1,rfl,?_⟩
   have k11:=hx11.get k10 (by simp;exact bn)
   refine⟨qp (s:=.int .u64) ((min (nmS (txS 16 (zbo i a2.2).2).2).1 9:Nat):Int) (qhi 9 _ _) rfl,re k11,?_⟩
   refine qp (s:=.any) (.agg (zcy (zs4 (zbo i a2.2).2).1).toArray) (by rw [bT3 _ _ zm4];unfold zcy zs4;rw [Bl.zba zm4];rfl) ?_
   have hx811:=(hx9.trans hx10).trans hx11
   have k2:=g2.ext hx811 (fun c hc h=>by simp at h;subst h;have:=xu g2 _ hc;omega)
   have s11:=hx11.1
   refine zzw (i:=(zs4 (zbo i a2.2).2).1) rfl k2 (by omega) (by rw [zkj];omega) (fun w12 hx12=>re (hx12.get k11 (by simp))) fun xi2 w13 hm13 hx13 hs13=>?_
   have own3:∀ {c:Nat},c < w4.heap.size->c∉jf xi:=fun h hc=>by have:=xu g2 _ hc;omega
   have k13:=hx13.get k11 (own3 s4)
   refine za9 rfl k13 (by simp [zca]) fun w14 hw14=>?_
   have hx14:Ext [w2.heap.size] w13.heap w14.heap:=by rw [hw14];exact Ext.set _ (by simp)
   have s13:=hx13.1
   have s14:=hx14.1
   refine⟨((i+1:Nat):Int),(by rw [wrap_u64] <;> omega),?_⟩
   have hI:InW w11.heap b F (zbo (i+1) a2.2).2:=hI11
   refine⟨⟨i+1,xi2,rfl,by omega,by rw [hw14];exact qg k13,hm13.ext hx14 (fun c hc h=>by simp at h;subst h;have:=xu hm13 _ hc;omega),?_,?_,?_,by omega⟩,by omega⟩
   ·refine (hI.ext hx13 (own3 (by omega)) fun c hc=>own3 (by have:=hF c hc;omega)).ext hx14 (by simp;exact bn.symm) (fun c hc h=>by simp at h;exact fn c hc h.symm)
   ·exact ((g4.trans hx811).own hx13 (fun c hc hlt=>by have:=xu g2 _ hc;omega)).own hx14 (fun c hc hlt=>by simp at hc;omega)
   ·exact hx14.get (hx13.get (hx811.get g5 (by simp;omega)) (own3 (by omega))) (by simp;omega)
  ·obtain rfl:i=M:=by omega
   exact⟨(none,0,0),xi,g1,⟨.inl ⟨rfl,rfl⟩,g2⟩,g3,g4,g5⟩
 ·have h1:min (nmS s).1 9≠1:=by omega
  have h2:min (nmS s).1 9≠2:=by omega
  have h3:min (nmS s).1 9≠3:=by omega
  have hr:zao s=(⟨((min (nmS s).1 9:Nat):Int),[],0,[],[]⟩,(nmS s).2):=by unfold zao;rw [if_neg h1,if_neg h2,if_neg h3]
  rw [hr]
  exact⟨(none,0,0),(none,0,0),hn4,nil2,hI4,hx04,hd4⟩
def zd1:Nod:=⟨0,[],0,[],[]⟩
def zcg (L:List UInt8):Nod×Int:=if (zao (some L)).2=some []/\zar (zao (some L)).1=true then ((zao (some L)).1,0) else (zd1,21)
theorem qeq {m:Nat}{s:Rest}:(txS m s).1.length<=m:=by
 unfold txS
 cases s with
 | none=>simp
 | some R=>
  simp only
  cases h:zme m R with
  | none=>simp
  | some y=>
   unfold zme at h
   cases h2:rdNum R with
   | none=>rw [h2] at h;cases h
   | some z=>
    rw [h2] at h
    simp only at h
    split at h
    ·cases h
    ·rename_i h3
     simp only [Option.some.injEq] at h
     rw [<-h];simp;omega
theorem zsv {s:Rest}:∀ {k:Nat},∀ i∈(zbo k s).1,i.name.length<=16
 | 0,p,h=>by cases h
 | k+1,p,h=>by
  simp only [zbo,List.mem_append,List.mem_singleton] at h
  rcases h with h | rfl
  ·exact zsv p h
  ·exact qeq
theorem zhy {s:Rest}:(zao s).1.size<=1025/\(∀ i∈(zao s).1.items,i.name.length<=16)/\(zao s).1.items.length<=65:=by
 unfold zao
 split
 ·simp
 ·split
  ·exact⟨by simp only;omega,by simp,by simp⟩
  ·split
   ·exact⟨by simp,zsv,by simp only;rw [zkj];omega⟩
   ·simp
theorem bN0 (w:World):(Instr.build zh #[]).run P w=.ok (.agg (zca zd1 (none,0,0) (none,0,0)).toArray) w:=by kernel_rfl
theorem stN {w:World}{H:Heap}{b:Nat}{c:Array Value}{T:TypeId}(n:Nod) (xp xi:Option Addr×Nat×Nat) (hw:w.heap=H) (hb:H[b]?=some (.cells c T (0,0))) (hs:c.size=5){K:World->Prop}
  (hK:∀ w',w'.heap=H.setIfInBounds b (.cells (zca n xp xi).toArray T (0,0))->K w'):zbz P (storeVar zh (⟨b,0,none⟩:Addr) (.agg (zca n xp xi).toArray)) w K:=by
 refine zaz (v:=.agg (zca n xp xi).toArray) (by rw [szN];rfl) (by simp [Value.cells,zca]) (by
   intro v hv
   simp only [Value.cells,zca,List.mem_cons,List.not_mem_nil,or_false] at hv
   rcases hv with rfl | rfl | rfl | rfl | rfl <;> rfl) hw hb (by rw [hs];simp [Value.cells,zca]) fun w5 hw5=>hK w5 ?_
 rw [zan (by rw [hs];simp [Value.cells,zca])] at hw5
 simpa [Value.cells] using hw5
theorem znj {w:World}{H:Heap}{b:Nat}{R:Array Value->World->Prop}(hw:w.heap=H) (hb:H[b]?=some (.cells (zc P zh) zh (0,0))) (hR:∀ w',Ext [b] H w'.heap->R (zca zd1 (none,0,0) (none,0,0)).toArray w') :
  za7 P (Instr.build zh #[]) .any w fun (t:Value)=>zbz P (storeVar zh (⟨b,0,none⟩:Addr) t) w fun w2=>ldA P 5 (⟨b,0,none⟩:Addr) w2 fun t4=>R t4 w2:=by
 refine qp (s:=.any) _ (bN0 _) ?_
 refine stN zd1 (none,0,0) (none,0,0) hw hb zcN fun w2 hw2=>?_
 have hb2:w2.heap[b]?=some (.cells (zca zd1 (none,0,0) (none,0,0)).toArray zh (0,0)):=by rw [hw2];exact qg hb
 refine qx rfl hb2 rfl ?_
 exact hR w2 (by rw [hw2];exact Ext.set _ (by simp))
set_option maxHeartbeats 4000000 in
theorem ztv {w:World}{H:Heap}{a:Option Addr}{n nc:Nat}{L:List UInt8}(hw:w.heap=H) (hL:Cells H a (byteCells L)) (hn:n=L.length) (hl:L.length<=1099511627776) :
  qc P zg2 #[.slice a n nc] w fun e w'=>∃ xp xi,e=.returned (.tuple #[.agg (zca (zcg L).1 xp xi).toArray,.int .i64 (zcg L).2])/\NodM w'.heap H.size (zcg L).1 xp xi/\Ext [] H w'.heap:=by
 refine zwe ?_
 unfold zqk
 refine jv hw fun w1 hw1=>?_
 have hx1:Ext [] H w1.heap:=by rw [hw1];exact .push _
 have hd1:w1.heap[H.size]?=some (.cells (zc P zh) zh (0,0)):=by rw [hw1];exact zn
 have s1:=lt_of_get hd1
 refine zk (qh0 rfl (hL.ext hx1 (by simp)) hn hl) ?_
 rintro e w2 ⟨b,F,rfl,hI2,hx2,hb2,hF2,hb2l,hF2l⟩
 refine⟨some ⟨b,0,none⟩,rfl,?_⟩
 have hd2:=hx2.get hd1 (by simp)
 refine zk (qe4 rfl hI2 hF2l) ?_
 rintro e w3 ⟨xp,xi,rfl,hN3,hI3,hx3⟩
 refine⟨.agg (zca (zao (some L)).1 xp xi).toArray,rfl,?_⟩
 have hsm:=zhy (s:=some L)
 have hdec:zcg L=if (zao (some L)).2=some []/\zar (zao (some L)).1=true then ((zao (some L)).1,0) else (zd1,21):=rfl
 generalize zao (some L)=D at *
 have hx13:Ext [] w1.heap w3.heap:=hx2.own hx3 (fun c hc hlt=>by simp at hc;omega)
 have hd3:=hx13.get hd1 (by simp)
 refine z8c D.1 xp xi rfl fun w5 hw5=>?_
 have hx5:Ext [] w3.heap w5.heap:=by rw [hw5];exact .push _
 have hn5:w5.heap[w3.heap.size]?=some (.cells (zca D.1 xp xi).toArray zh (0,0)):=by rw [hw5];exact zn
 have s3:=hx13.1
 have hd5:=hx5.get hd3 (by simp)
 have hx05:=(hx1.trans hx13).trans hx5
 have bad:∀ {W W':World},¬(D.2=some []/\zar D.1=true)->Ext [] w5.heap W.heap->Ext [H.size] W.heap W'.heap->∃ xp xi,Ending.returned (.tuple #[.agg (zca zd1 (none,0,0) (none,0,0)).toArray,.int .i64 21])=.returned (.tuple #[.agg (zca (zcg L).1 xp xi).toArray,.int .i64 (zcg L).2])/\NodM W'.heap H.size (zcg L).1 xp xi/\Ext [] H W'.heap:=by
  intro W W' h hxa hxb
  rw [hdec,if_neg h]
  exact⟨_,_,rfl,.bare rfl rfl,(hx05.trans hxa).own hxb (fun c hc hlt=>by simp at hc;omega)⟩
 refine Go.Fw.joinP_of (fun _ W=>Ext [] w5.heap W.heap/\(D.2=some []/\zar D.1=true)) ?_ ?_
 ·refine zk (qhs rfl (hI3.ext hx5 (by simp) (by simp))) ?_
  rintro e w6 ⟨rfl,rfl⟩
  refine⟨decide (D.2=some []),rfl,?_⟩
  by_cases he:D.2=some []
  ·refine jm (by simp [he]) ?_
   refine qx rfl hn5 rfl ?_
   refine zk (z8h rfl (hN3.nodW.ext hx5) (by omega) (fun i hi=>by have:=hsm.2.1 i hi;omega) (by omega)) ?_
   rintro e w8 ⟨rfl,hx8⟩
   refine⟨zar D.1,rfl,?_⟩
   cases hr:zar D.1 with
   | true=>exact jm rfl ⟨hx8,he,rfl⟩
   | false=>exact zah rfl (znj rfl (hx8.get hd5 (by simp)) fun w9 hx9=>bad (fun h=>by rw [hr] at h;cases h.2) hx8 hx9)
  ·exact zah (by simp [he]) (znj rfl hd5 fun w7 hx7=>bad (fun h=>he h.1) (.refl _ _) hx7)
 ·rintro _ W ⟨hx,hok⟩
  refine qx rfl (hx.get hn5 (by simp)) rfl ?_
  refine stN D.1 xp xi rfl (hx.get hd5 (by simp)) zcN fun w11 hw11=>?_
  have hx11:Ext [H.size] W.heap w11.heap:=by rw [hw11];exact Ext.set _ (by simp)
  have hd11:w11.heap[H.size]?=some (.cells (zca D.1 xp xi).toArray zh (0,0)):=by rw [hw11];exact qg (hx.get hd5 (by simp))
  refine qx rfl hd11 rfl ?_
  rw [hdec,if_pos hok]
  refine⟨xp,xi,rfl,?_,(hx05.trans hx).own hx11 (fun c hc hlt=>by simp at hc;omega)⟩
  have s2:=hx2.1
  exact (((hN3.ext hx5 (by simp)).ext hx (by simp)).ext hx11 (fun c hc=>by simp at hc;omega)).mono (by omega)
def zr7 (v:Option (List UInt8)) (k:List UInt8) (kind:Int):Nod×Int:=
 if Bl.got v k≠0 then (zd1,Bl.got v k) else if (zcg (v.getD [])).2≠0\/(zcg (v.getD [])).1.kind≠kind then (zd1,21) else ((zcg (v.getD [])).1,0)
set_option maxHeartbeats 4000000 in
theorem qdd {w:World}{H:Heap}{fp:List Nat}{p:Nat}{q:Int}{r:Bl.SM}{c:Nat}{k:List UInt8}{kind:Int}(hw:w.heap=H) (hS:Bl.Store H fp p q r c) (hk:k.length=32) (hR:Bl.Rounds H) (hlen:∀ L,Bl.zaa r k=some L->L.length < 1099511627776) :
  qc P zxq #[.pointer (some ⟨p,0,none⟩),arr k,.int .i64 kind] w fun e w'=>∃ xp xi,e=.returned (.tuple #[.agg (zca (zr7 (Bl.zaa r k) k kind).1 xp xi).toArray,.int .i64 (zr7 (Bl.zaa r k) k kind).2])/\NodM w'.heap H.size (zr7 (Bl.zaa r k) k kind).1 xp xi/\Ext [] H w'.heap:=by
 refine z2v ?_
 unfold zw2
 rw [show (arr k).cells=(byteCells k).toArray from rfl]
 refine jv hw fun w1 hw1=>?_
 have hx1:Ext [] H w1.heap:=by rw [hw1];exact .push _
 have hb1:w1.heap[H.size]?=some (.cells (byteCells k).toArray zf (0,0)):=by rw [hw1];exact zn
 have s1:=lt_of_get hb1
 refine jv rfl fun w2 hw2=>?_
 have hx2:Ext [] w1.heap w2.heap:=by rw [hw2];exact .push _
 have hd2:w2.heap[w1.heap.size]?=some (.cells (zc P zh) zh (0,0)):=by rw [hw2];exact zn
 have s2:=lt_of_get hd2
 have hx02:=hx1.trans hx2
 refine qx rfl (hx2.get hb1 (by simp)) (by simp [hk]) ?_
 refine zk (Bl.qdd (k:=k) rfl (hS.ext hx02 (by simp)) hk (hR.ext hx02 (by simp)) hlen) ?_
 rintro e w3 ⟨x,rfl,hx3,hgot,hno⟩
 refine⟨(x,Bl.got (Bl.zaa r k) k),rfl,?_⟩
 have hd3:=hx3.get hd2 (by simp)
 have hx03:=hx02.trans hx3
 refine zay (fun h=>?_) (fun h=>?_)
 ·have hv:zr7 (Bl.zaa r k) k kind=(zd1,Bl.got (Bl.zaa r k) k):=by unfold zr7;rw [if_pos h]
  refine znj rfl hd3 fun w4 hx4=>?_
  rw [hv]
  exact⟨_,_,rfl,.bare rfl rfl,hx03.own hx4 (fun c hc hlt=>by simp at hc;omega)⟩
 have h:Bl.got (Bl.zaa r k) k=0:=h
 obtain⟨L,hL,hm⟩:=hgot h
 have hv:zr7 (Bl.zaa r k) k kind=if (zcg L).2≠0\/(zcg L).1.kind≠kind then (zd1,21) else ((zcg L).1,0):=by
  unfold zr7;rw [if_neg (by simpa using h),hL];rfl
 have hxl:x.2.1=L.length:=by have:=hm.len;simp at this;omega
 refine zk (ztv (L:=L) rfl hm.cells hxl (by have:=hlen L hL;omega)) ?_
 rintro e w5 ⟨xp,xi,rfl,hN5,hx5⟩
 refine⟨(.agg (zca (zcg L).1 xp xi).toArray,(zcg L).2),rfl,?_⟩
 generalize zcg L=D at *
 have hd5:=hx5.get hd3 (by simp)
 have s3:=hx3.1
 have s5:=hx5.1
 refine z8c D.1 xp xi rfl fun w7 hw7=>?_
 have hx7:Ext [] w5.heap w7.heap:=by rw [hw7];exact .push _
 have hn7:w7.heap[w5.heap.size]?=some (.cells (zca D.1 xp xi).toArray zh (0,0)):=by rw [hw7];exact zn
 have hd7:=hx7.get hd5 (by simp)
 have hx07:=(hx03.trans hx5).trans hx7
 have bad:∀ {W':World},(D.2≠0\/D.1.kind≠kind)->Ext [w1.heap.size] w7.heap W'.heap->∃ xp xi,Ending.returned (.tuple #[.agg (zca zd1 (none,0,0) (none,0,0)).toArray,.int .i64 21])=.returned (.tuple #[.agg (zca (zr7 (Bl.zaa r k) k kind).1 xp xi).toArray,.int .i64 (zr7 (Bl.zaa r k) k kind).2])/\NodM W'.heap H.size (zr7 (Bl.zaa r k) k kind).1 xp xi/\Ext [] H W'.heap:=by
  intro W' h hxb
  rw [hv,if_pos h]
  exact⟨_,_,rfl,.bare rfl rfl,hx07.own hxb (fun c hc hlt=>by simp at hc;omega)⟩
 refine Go.Fw.joinP_of (fun _ W=>W.heap=w7.heap/\¬(D.2≠0\/D.1.kind≠kind)) ?_ ?_
 ·refine zay (fun h1=>?_) (fun h1=>?_)
  ·exact znj rfl hd7 fun w8 hx8=>bad (.inl h1) hx8
  ·refine je (s:=.int .i64) (t:=D.1.kind) rfl hn7 rfl ?_
   refine zay (fun h2=>?_) (fun h2=>?_)
   ·exact znj rfl hd7 fun w8 hx8=>bad (.inr h2) hx8
   ·exact⟨rfl,fun h=>h.elim (fun h=>h h1) (fun h=>h h2)⟩
 ·rintro _ W ⟨hW,hok⟩
  rw [<-hW] at hn7 hd7
  have hxW:Ext [] H W.heap:=by rw [hW];exact hx07
  refine qx rfl hn7 rfl ?_
  refine stN D.1 xp xi rfl hd7 zcN fun w11 hw11=>?_
  have hx11:Ext [w1.heap.size] W.heap w11.heap:=by rw [hw11];exact Ext.set _ (by simp)
  have hd11:w11.heap[w1.heap.size]?=some (.cells (zca D.1 xp xi).toArray zh (0,0)):=by rw [hw11];exact qg hd7
  refine qx rfl hd11 rfl ?_
  rw [hv,if_neg hok]
  refine⟨xp,xi,rfl,?_,hxW.own hx11 (fun c hc hlt=>by simp at hc;omega)⟩
  have k1:=hN5.ext hx7 (by simp)
  rw [<-hW] at k1
  exact (k1.ext hx11 (fun c hc=>by simp at hc;omega)).mono (by omega)
end Go.Proofs.YtbmegmbnlajbbaaGreatDoor
namespace Go.Proofs.YtbmegmbnlajbbaaGreatDoor
open Go Go.Fw Go.Proofs Go.Sort
theorem zrz {v:Option (List UInt8)}{k:List UInt8}{kind:Int}:(zr7 v k kind).1.items.length<=65/\(∀ i∈(zr7 v k kind).1.items,i.name.length<=16)/\(zr7 v k kind).1.size<=1025/\0<=(zr7 v k kind).1.size/\(zr7 v k kind).1.parts.length<=65536:=by
 have hd:∀ L,(zcg L).1.items.length<=65/\(∀ i∈(zcg L).1.items,i.name.length<=16)/\(zcg L).1.size<=1025/\0<=(zcg L).1.size/\(zcg L).1.parts.length<=65536:=by
  intro L
  unfold zcg
  split
  ·have:=zhy (s:=some L)
   refine⟨this.2.2,this.2.1,this.1,?_,?_⟩
   ·unfold zao;repeat' split
    all_goals simp
   ·unfold zao;repeat' split
    all_goals simp [zhp]
    all_goals omega
  ·simp [zd1]
 unfold zr7
 split
 ·simp [zd1]
 ·split
  ·simp [zd1]
  ·exact hd _
theorem qg7 {i:Itm}:(zcy i).toArray.extract 2 34=(Bl.zbp i.sum).toArray:=by
 apply Array.toList_inj.1
 have:=Bl.zaf i.sum
 simp [zcy,List.take_of_length_le,this]
end Go.Proofs.YtbmegmbnlajbbaaGreatDoor
namespace Go.Proofs.YtbmegmbnlajbbaaGreatDoor
open Go Go.Fw Go.Proofs Go.Sort
end Go.Proofs.YtbmegmbnlajbbaaGreatDoor
namespace Go.Proofs.YtbmegmbnlajbbaaGreatDoor
open Go Go.Fw Go.Proofs Go.Sort
end Go.Proofs.YtbmegmbnlajbbaaGreatDoor
namespace Go.Fw
open Go Go.ChangeShapes Go.WideShapes Go.ChangeAt Go.RowKit
theorem ziw {w:World}{b o:Nat}{s:Option _}{v:Value}(h:w.cell? ⟨b,o,s⟩=some v):s=none/\∃ c T fr,w.heap[b]?=some (.cells c T fr)/\c[o]?=some v:=by
 unfold World.cell? at h
 simp only at h
 split at h
 ·rename_i c T fr hc
  split at h
  ·cases h
  ·rename_i hs
   refine⟨by simpa using hs,c,T,fr,hc,h⟩
 ·cases h
theorem qc7 {H:Type}{enc:TypeId×Value->H}{P:Program}{t e:TypeId}(ht:P.underlying t=some (.slice e)) (he:P.underlying e=some (.int .u8)) (hc:P.cellsOf e=1){W:World}{v:Value}{d:DataW H}{p:List MemPlace}
  (hv:∃ a l c,v=.slice a l c) (h0:DataW.Trod enc P W 0 (fun _=>true) true t v d p) :
  ∃ a l c L,v=.slice a l c/\Cells W.heap a (byteCells L)/\l=L.length/\l<=c/\((∀ n∈d.weights P t,n<=reachBytes)->P.bytesOf e=1->L.length<=reachBytes):=by
 obtain⟨a,l,c,rfl⟩:=hv
 obtain⟨fuel,hf⟩:=h0
 rcases open_ints ht he hc hf with⟨hcs,_⟩ | ⟨a',len',cap',zs,hcs,_,hl,hm,hz,hxd,hcell,hwz⟩
 ·simp [Value.cells] at hcs
  obtain⟨rfl,rfl,rfl⟩:=hcs
  exact⟨none,0,0,[],rfl,.inl rfl,rfl,Nat.le_refl _,fun _ _=>Nat.zero_le _⟩
 ·simp [Value.cells] at hcs
  obtain⟨rfl,rfl,rfl⟩:=hcs
  simp only [if_true] at hz
  have hby:∀ x∈zs,0<=x/\x < 256:=by
   intro x hx
   have h:=hwz x hx
   have h1:IntKind.u8.min=0:=rfl
   have h2:IntKind.u8.max=255:=rfl
   simp only [Lit.wf,Bool.and_eq_true,decide_eq_true_eq] at h
   omega
  refine⟨some a',l,c,(zs.take l).map fun x=>UInt8.ofNat x.toNat,rfl,?_,by simp;omega,hl,?_⟩
  rotate_left
  ·intro hw hb1
   simp only [Prod.mk.injEq] at hxd
   rw [hxd.1] at hw
   have:=hw _ (by simp only [DataW.weights,ht];exact List.mem_cons_self)
   simp [lits,hb1] at this
   simp
   omega
  have hbc:byteCells ((zs.take l).map fun x=>UInt8.ofNat x.toNat)=(zs.take l).map (Value.int .u8):=by
   simp only [byteCells,List.map_map]
   apply List.map_congr_left
   intro x hx
   have:=hby x (List.mem_of_mem_take hx)
   simp only [Function.comp,Value.int.injEq,true_and]
   simp only [UInt8.toNat_ofNat']
   omega
  rw [hbc]
  by_cases h0:l=0
  ·subst h0;exact .inl (by simp)
  ·obtain⟨b,o,s⟩:=a'
   have hs:s=none:=by
    obtain⟨hs,_⟩:=ziw (hcell 0 (by omega))
    cases s with
    | none=>rfl
    | some x=>simp at hs
   subst hs
   have hcl:∀ i,i < zs.length->W.cell? ⟨b,o+i,none⟩=some (.int .u8 (zs.getD i 0)):=fun i hi=>by rw [<-jo];exact hcell i hi
   obtain⟨_,cc,T,fr,hb,_⟩:=ziw (hcl 0 (by omega))
   have hcc:∀ i,i < zs.length->cc[o+i]?=some (.int .u8 (zs.getD i 0)):=by
    intro i hi
    obtain⟨_,c2,T2,f2,h1,h2⟩:=ziw (hcl i hi)
    rw [hb] at h1;cases h1;exact h2
   refine .inr ⟨b,o,cc,T,fr,rfl,hb,?_,?_⟩
   ·have:=(Array.getElem?_eq_some_iff.1 (hcc (l-1) (by omega))).1
    simp;omega
   ·apply List.ext_getElem?
    intro i
    rw [Array.getElem?_toList,Array.getElem?_extract]
    simp only [List.length_map,List.length_take,List.getElem?_map,List.getElem?_take]
    by_cases hi:i < l
    ·have hiz:i < zs.length:=by omega
     have:=(Array.getElem?_eq_some_iff.1 (hcc i hiz)).1
     rw [if_pos (by omega),hcc i hiz,if_pos hi,List.getElem?_eq_getElem hiz]
     simp [List.getD_eq_getElem?_getD,List.getElem?_eq_getElem hiz]
    ·rw [if_neg (by omega),if_neg hi];rfl
theorem z6w {H:Type}{enc:TypeId×Value->H}{P:Program}{t e:TypeId}(ht:P.underlying t=some (.slice e)) (he:P.underlying e=some (.int .u8)) (hc:P.cellsOf e=1){W:World}{v:Value}{fuel:Nat}{x:DataW H×List MemPlace}
  (h:DataW.trod enc P W 0 (fun _=>true) true fuel t [v]=some x):∃ a l c L,v=.slice a l c/\Cells W.heap a (byteCells L)/\l=L.length/\l<=c/\((∀ n∈x.1.weights P t,n<=reachBytes)->P.bytesOf e=1->L.length<=reachBytes):=by
 have hs:∃ a l c,v=.slice a l c:=by
  rcases open_ints ht he hc h with⟨hcs,_⟩ | ⟨a',len',cap',zs,hcs,_⟩
  ·simp at hcs;exact⟨_,_,_,hcs⟩
  ·simp at hcs;exact⟨_,_,_,hcs⟩
 obtain⟨a,l,c,rfl⟩:=hs
 exact qc7 ht he hc (v:=.slice a l c) ⟨a,l,c,rfl⟩ ⟨fuel,h⟩
theorem qev {W W':World}(h:∀ i,i < W.heap.size->W'.heap[i]?=W.heap[i]?){p:MemPlace}(hp:p.block < W.heap.size):W.sameAt W' p:=by
 cases p with
 | cell b off=>simp only [World.sameAt,World.cell?];rw [h b hp]
 | map b=>exact h b hp
theorem zpk {H:Type}{enc:TypeId×Value->H}{P:Program}(hl:laidOutB P=true){W W':World}{sp':Nat->Bool}(h:∀ i,i < W.heap.size->W'.heap[i]?=W.heap[i]?) :
  ∀ {ts:List TypeId}{vs:List Value}{ds:List (DataW H)}{ps:List MemPlace},(∀ t∈ts,P.readableRec t=true/\t < P.types.size)->(∀ p∈ps,p.block < W.heap.size/\sp' p.block=true) ->
  DataW.TrodAll enc P W 0 (fun _=>true) true ts vs ds ps->DataW.TrodAll enc P W' 0 sp' true ts vs ds ps
 | [],vs,ds,ps,_,_,ht=>by
  obtain⟨rfl,rfl,rfl⟩:=trodAll_nil ht
  rfl
 | t :: ts,vs,ds,ps,hr,hp,ht=>by
  obtain⟨v,vs',d,ds',p,q,rfl,rfl,rfl,h1,h2⟩:=trodAll_cons ht
  refine⟨p,q,?_,zpk hl h (fun t ht=>hr t (by simp [ht])) (fun x hx=>hp x (by simp [hx])) h2,rfl⟩
  exact WideElems.Trod_stays hl (hr t (by simp)).1 (hr t (by simp)).2 h1 (fun x hx=>qev h (hp x (by simp [hx])).1) fun x hx=>(hp x (by simp [hx])).2
theorem qa9 {H:Type}{enc:TypeId×Value->H}{P:Program}{f:Func}{s:ChangeSpec}{apart fresh handsOn again:Bool}{W W':World}{args:Array Value}{v:Value}{ds gs:List (DataW H)}{before:List MemPlace}
  (hl:laidOutB P=true) (hpar:∀ t∈f.params.toList,P.readableRec t=true/\t < P.types.size) (hvars:s.vars=[])
  (hW:DataW.Whole enc P f.params.toList s.vars apart W args.toList ds gs before) (hfa:(s.fn H (ds++gs)).args=ds) (hfv:(s.fn H (ds++gs)).vars=[])
  (hres:∀ (b:Nat) (sp:Nat->Bool) (hd:Bool),DataW.TrodAll enc P W' b sp hd f.resultTypes.toList (v.resultList f.resultTypes.size) (s.fn H (ds++gs)).results [])
  (hx:Ext [] W.heap W'.heap) (hc:Calm W W')
  (hok:∀ (j:Nat) (t:TypeId) (r:Value),f.resultTypes[j]?=some t->(v.resultList f.resultTypes.size)[j]?=some r->Value.okWide P W' .any 0 t r) :
  s.post enc P f apart fresh handsOn again W args v W':=by
 have hsame:∀ i,i < W.heap.size->W'.heap[i]?=W.heap[i]?:=fun i hi=>hx.2 i hi (by simp)
 have hlt:∀ p∈before,p.block < W.heap.size:=fun p hp=>hW.lt p hp
 have hW0:=hW
 obtain⟨pa,pv,hA,hV,rfl,hz,hn⟩:=hW
 rw [hvars] at hV
 obtain⟨rfl,rfl⟩:=trodVars_none hV
 rw [List.append_nil] at hlt hz hn
 have hargs:∀ sp:Nat->Bool,(∀ p∈pa,sp p.block=true)->DataW.TrodAll enc P W' 0 sp true f.params.toList args.toList (s.fn H (ds++[])).args pa:=by
  intro sp hsp
  rw [hfa]
  exact zpk hl hsame hpar (fun p hp=>⟨hlt p hp,hsp p hp⟩) hA
 have hvs:∀ sp:Nat->Bool,DataW.TrodVars enc P W' sp s.vars (s.fn H (ds++[])).vars []:=by
  intro sp
  rw [hvars,hfv]
  rfl
 refine⟨ds,[],pa++[],[],pa,[],hW0,hres _ _ _,hargs _ (fun p hp=>by simpa using hlt p hp),hvs _,⟨hc.1,hc.2.1,fun i hi=>?_⟩,fun _=>⟨hok,_,_,([]++pa)++[],⟨[]++pa,[],trodAll_append (hargs _ (fun _ _=>rfl)) (hres _ _ _),hvs _,rfl,?_,?_⟩,?_⟩⟩
 ·rw [hsame i hi]
  cases W.heap[i]? with
  | none=>rfl
  | some o=>cases o <;> first | exact⟨rfl,rfl,rfl,fun _ _=>rfl⟩ | exact .inr ⟨rfl,rfl⟩ | rfl
 ·intro b off hp
  have hp:MemPlace.cell b off∈pa:=by simpa using hp
  have h1:=hz b off (by simpa using hp)
  have h2:=hsame b (hlt _ hp)
  unfold World.frozen? at h1 |-
  rw [h2]
  exact h1
 ·intro ha
  simpa using hn ha
 ·intro p hp _
  simpa using hp
section
variable {H:Type}{enc:TypeId×Value->H}{P:Program}{W:World}
theorem qa6 {a:Addr}{n:Nat}{cs:List Value}(h0:0 < n) (h:W.cells? 0 a n=some cs):a.spot=none/\∃ c T fr,W.heap[a.block]?=some (.cells c T fr)/\a.off+n<=c.size/\cs=(c.toList.drop a.off).take n:=by
 obtain⟨b,o,s⟩:=a
 simp only [World.cells?,Nat.zero_le,if_true] at h
 have hl:cs.length=n:=by simpa using mapM_some_length h
 have hg:∀ i,i < n->W.cell? (Addr.add ⟨b,o,s⟩ i)=cs[i]?:=fun i hi=>mapM_some_get h i i (by simp [hi])
 have h1:=hg 0 h0
 rw [List.getElem?_eq_getElem (by omega)] at h1
 obtain⟨hs,c,T,fr,hb,_⟩:=ziw h1
 have hs':s=none:=by
  cases s with
  | none=>rfl
  | some z=>simp at hs
 subst hs'
 have hc:∀ i,i < n->c[o+i]?=cs[i]?:=by
  intro i hi
  have h2:=hg i hi
  rw [List.getElem?_eq_getElem (by omega),jo] at h2
  obtain⟨_,c2,T2,f2,hb2,hc2⟩:=ziw h2
  rw [hb] at hb2;cases hb2
  rw [hc2,List.getElem?_eq_getElem (by omega)]
 have hsz:o+n<=c.size:=by
  have h3:=hc (n-1) (by omega)
  rw [List.getElem?_eq_getElem (by omega)] at h3
  have:=(Array.getElem?_eq_some_iff.1 h3).1
  omega
 refine⟨rfl,c,T,fr,hb,hsz,?_⟩
 apply List.ext_getElem?
 intro i
 by_cases hi:i < n
 ·rw [<-hc i hi,List.getElem?_take,if_pos hi,List.getElem?_drop,Array.getElem?_toList]
 ·rw [List.getElem?_eq_none (by omega),List.getElem?_take,if_neg hi]
theorem qdk {a:Addr}(h:(a.add 0).spot=none):a.spot=none:=by
 obtain⟨b,o,s⟩:=a
 cases s with
 | none=>rfl
 | some z=>simp [Addr.add] at h
theorem row_of {t e:TypeId}{sz:Nat}(ht:P.underlying t=some (.slice e)) (hc:P.cellsOf e=sz) (h0:0 < sz){v:Value}{fuel:Nat}{x:DataW H×List MemPlace}(h:DataW.trod enc P W 0 (fun _=>true) true fuel t [v]=some x) :
  ∃ (a:Option Addr) (n nc:Nat) (ys:List (DataW H)),v=.slice a n nc/\n<=nc/\ys.length=n/\((n=0/\ys=[]/\x.1=.nil)\/∃ rest,x.1=.slice ys rest) /\
   ∀ i (hi:i < ys.length),∃ (b o:Nat) (c:Array Value) (T:TypeId) (fr:Nat×Nat) (m:Nat) (ps:List MemPlace),a=some ⟨b,o,none⟩/\W.heap[b]?=some (.cells c T fr)/\o+i * sz+sz<=c.size/\DataW.trod enc P W 0 (fun _=>true) true m e ((c.toList.drop (o+i * sz)).take sz)=some (ys[i],ps):=by
 rcases DataW.trod_slice ht h with⟨hcs,rfl⟩ | ⟨a',len,cap,elems,rest,m,_,hcs,rfl,_,hle,_,hlen,hel,_⟩
 ·simp only [List.cons.injEq,and_true] at hcs
  exact⟨none,0,0,[],hcs,Nat.le_refl _,rfl,.inl ⟨rfl,rfl,rfl⟩,fun i hi=>absurd hi (by simp)⟩
 ·simp only [List.cons.injEq,and_true] at hcs
  refine⟨some a',len,cap,elems.map (·.1),hcs,hle,by simpa using hlen,.inr ⟨_,rfl⟩,fun i hi=>?_⟩
  have hil:i < len:=by simpa [hlen] using hi
  have h1:=hel i hil
  rw [List.getElem?_eq_getElem (by omega),hc] at h1
  simp only [Option.bind_eq_some_iff] at h1
  obtain⟨cs,h2,h3⟩:=h1
  obtain⟨hsp,c,T,fr,hb,hsz,rfl⟩:=qa6 h0 h2
  have hsp':a'.spot=none:=by
   have h1:=hel 0 (by omega)
   rw [List.getElem?_eq_getElem (by omega),hc] at h1
   simp only [Option.bind_eq_some_iff,Nat.zero_mul] at h1
   obtain⟨cs,h2,_⟩:=h1
   exact qdk (qa6 h0 h2).1
  obtain⟨b,o,s⟩:=a'
  obtain rfl:s=none:=hsp'
  rw [jo] at hb hsz h3
  exact⟨b,o,c,T,fr,m,(elems[i]).2,rfl,hb,hsz,by simpa using h3⟩
def shapeOf (P:Program) (t:TypeId):Option (List (TypeId×Nat)):=match P.underlying t with | some (.struct fs)=>some (fs.toList.map fun f=>(f.type,f.offset)) | _=>none
theorem ztx {t:TypeId}{L:List (TypeId×Nat)}(hs:shapeOf P t=some L){cs:List Value}{fuel:Nat}{x:DataW H×List MemPlace}(h:DataW.trod enc P W 0 (fun _=>true) true fuel t cs=some x) :
  ∃ ys:List (DataW H),x.1=.agg ys/\cs.length=P.cellsOf t/\ys.length=L.length/\∀ (i:Nat) (ti:TypeId) (off:Nat),L[i]?=some (ti,off)->∃ m ps y,ys[i]?=some y/\DataW.trod enc P W 0 (fun _=>true) true m ti ((cs.drop off).take (P.cellsOf ti))=some (y,ps):=by
 unfold shapeOf at hs
 split at hs
 ·rename_i fs hu
  injection hs with hs
  subst hs
  obtain⟨xs,n,_,rfl,hl,hlen,hf⟩:=DataW.trod_struct hu h
  refine⟨xs.map (·.1),rfl,hl,by simpa using hlen,fun i ti off hi=>?_⟩
  rw [List.getElem?_map,Option.map_eq_some_iff] at hi
  obtain⟨f,hfi,he⟩:=hi
  simp only [Prod.mk.injEq] at he
  obtain⟨rfl,rfl⟩:=he
  have h1:=hf i f (by simpa using hfi)
  have hil:i < xs.length:=by
   have:=(List.getElem?_eq_some_iff.1 hfi).1
   simp at this;omega
  rw [List.getElem?_eq_getElem hil] at h1
  exact⟨n,(xs[i]).2,(xs[i]).1,by simp [List.getElem?_eq_getElem hil],h1⟩
 ·cases hs
theorem zsh {t:TypeId}{k:IntKind}(ht:P.underlying t=some (.int k)){v:Value}{fuel:Nat}{x:DataW H×List MemPlace}(h:DataW.trod enc P W 0 (fun _=>true) true fuel t [v]=some x):∃ n,v=.int k n/\(Lit.int k n).wf=true:=by
 cases fuel with
 | zero=>simp [DataW.trod] at h
 | succ m=>
  unfold DataW.trod at h
  rw [ht] at h
  split at h <;> simp_all
theorem take_one {c:Array Value}{o:Nat}(h:o < c.size):(c.toList.drop o).take 1=[c[o]]:=by
 rw [List.drop_eq_getElem_cons (by simpa using h)]
 simp
theorem zt1 {c:Array Value}{o sz j:Nat}(hj:j < sz) (h:o+sz<=c.size):(((c.toList.drop o).take sz).drop j).take 1=[c[o+j]]:=by
 rw [List.drop_take,List.drop_drop,List.take_take,Nat.min_eq_left (by omega)]
 exact take_one (by omega)
def big:DataW H->Nat
 | .slice es _=>es.length
 | _=>0
theorem qeg {t e:TypeId}(ht:P.underlying t=some (.slice e)) (he:P.underlying e=some (.int .u8)) (hc:P.cellsOf e=1){v:Value}{fuel:Nat}{x:DataW H×List MemPlace}(h:DataW.trod enc P W 0 (fun _=>true) true fuel t [v]=some x) :
  ∃ a l c L,v=.slice a l c/\Cells W.heap a (byteCells L)/\l=L.length/\l<=c/\L.length=big x.1:=by
 obtain⟨a,l,c,L,rfl,hC,hl,hlc,_⟩:=z6w ht he hc h
 obtain⟨a',n,nc,ys,he',_,hn,hx,_⟩:=row_of ht hc (by omega) h
 injection he' with h1 h2 h3
 subst h1 h2 h3
 refine⟨a,l,c,L,rfl,hC,hl,hlc,?_⟩
 rcases hx with⟨h1,h2,h3⟩ | ⟨rest,h3⟩
 ·rw [h3];simp only [big];omega
 ·rw [h3];simp only [big];omega
theorem qhj {t t1 e:TypeId}(ht:P.underlying t=some (.slice t1)) (ht1:P.underlying t1=some (.slice e)) (he:P.underlying e=some (.int .u8)) (hc:P.cellsOf e=1) (hc1:P.cellsOf t1=1){v:Value}{fuel:Nat}{x:DataW H×List MemPlace}(h:DataW.trod enc P W 0 (fun _=>true) true fuel t [v]=some x) :
  ∃ (a:Option Addr) (n nc:Nat) (Ls:List (List UInt8)) (ys:List (DataW H)),v=.slice a n nc/\n<=nc/\(n=Ls.length/\∀ i (h:i < Ls.length),∃ (b o:Nat) (c:Array Value) (T:TypeId) (fr:Nat×Nat) (x:Option Addr×Nat×Nat),a=some ⟨b,o,none⟩/\W.heap[b]?=some (.cells c T fr)/\c[o+i]?=some (.slice x.1 x.2.1 x.2.2)/\Cells W.heap x.1 (byteCells Ls[i])/\x.2.1=Ls[i].length/\x.2.1<=x.2.2) /\
   ys.length=n/\((n=0/\ys=[]/\x.1=.nil)\/∃ rest,x.1=.slice ys rest)/\∀ L∈Ls,∃ y∈ys,L.length=big y:=by
 obtain⟨a,n,nc,ys,rfl,hle,hn,hx,hel⟩:=row_of ht hc1 (by omega) h
 have key:∀ i (hi:i < ys.length),∃ L:List UInt8,(∃ (b o:Nat) (c:Array Value) (T:TypeId) (fr:Nat×Nat) (x:Option Addr×Nat×Nat),a=some ⟨b,o,none⟩/\W.heap[b]?=some (.cells c T fr)/\c[o+i]?=some (.slice x.1 x.2.1 x.2.2)/\Cells W.heap x.1 (byteCells L)/\x.2.1=L.length/\x.2.1<=x.2.2)/\L.length=big ys[i]:=by
  intro i hi
  obtain⟨b,o,c,T,fr,m,ps,rfl,hb,hsz,ht2⟩:=hel i hi
  rw [Nat.mul_one] at hsz ht2
  rw [take_one (by omega)] at ht2
  obtain⟨xa,xl,xc,L,hv,hC,hl,hlc,hbig⟩:=qeg ht1 he hc ht2
  exact⟨L,⟨b,o,c,T,fr,(xa,xl,xc),rfl,hb,by rw [<-hv];exact Array.getElem?_eq_getElem _,hC,hl,hlc⟩,hbig⟩
 classical
 refine⟨a,n,nc,(List.range n).map fun i=>if h:i < ys.length then Classical.choose (key i h) else [],ys,rfl,hle,⟨by simp,fun i hi=>?_⟩,hn,hx,fun L hL=>?_⟩
 ·have hi':i < ys.length:=by simpa [hn] using hi
  have:=(Classical.choose_spec (key i hi')).1
  simpa [hi'] using this
 ·simp only [List.mem_map,List.mem_range] at hL
  obtain⟨i,hi,rfl⟩:=hL
  rw [dif_pos (by omega)]
  exact⟨ys[i]'(by omega),List.getElem_mem _,(Classical.choose_spec (key i (by omega))).2⟩
end
end Go.Fw
namespace Go.Proofs.YtbmegmbnlajbbaaGreatDoor
open Go Go.Fw Go.Proofs Go.ChangeShapes Go.WideShapes Go.ChangeAt Go.RowKit
variable {Hh:Type}{enc:TypeId×Value->Hh}{W:World}
theorem cStr:P.cellsOf vg=1:=by kernel_rfl
end Go.Proofs.YtbmegmbnlajbbaaGreatDoor
namespace Go.Proofs.YtbmegmbnlajbbaaGreatDoor.RowC
open Go.Proofs.YtbmegmbnlajbbaaGreatDoor.Bl Go Go.Fw Go.Proofs Go.ChangeShapes Go.WideShapes Go.ChangeAt Go.RowKit
theorem own:ownKnob Tryz.prog.godebug=none:=by kernel_rfl
theorem gTab:Tryz.prog.globalNamed "veneer/sha.rounds"=some 0:=by kernel_rfl
theorem qcs:(Tryz.prog.globals[0]?).map (·.type)=some zaq:=by kernel_rfl
theorem u66:Tryz.prog.underlying zaq=some (.array 64 znk):=by kernel_rfl
theorem u64':Tryz.prog.underlying znk=some (.int .u32):=by kernel_rfl
theorem qe7:Tryz.prog.cellsOf zaq=64:=by kernel_rfl
theorem qfu:Tryz.prog.cellsOf znk=1:=by kernel_rfl
theorem laidOut:laidOutB Tryz.prog=true:=by kernel_rfl
def kz:List Int:=Sha.kc.map fun n:Nat=>(n:Int)
theorem qgr:(Rows.laid_veneer_sha_rounds:DataW Unit)=Lib.tabData .u32 kz:=by kernel_rfl
theorem table {W:World}(h:laidMetH Tryz.prog [("veneer/sha.rounds",Rows.laid_veneer_sha_rounds)] W):Lib.TabIs Tryz.prog W "veneer/sha.rounds" .u32 kz:=by
 have h':laidMet Tryz.prog [("veneer/sha.rounds",(Rows.laid_veneer_sha_rounds:DataW Unit))] W:=h
 rw [qgr] at h'
 exact Lib.tabIs_of_head (rest:=[]) gTab qcs u66 u64' qfu qe7 h'
theorem qjd:∀ i,i < 64->kz.getD i 0=((Sha.K i).toNat:Int):=by decide +kernel
theorem qaw {W:World}(h:Lib.TabIs Tryz.prog W "veneer/sha.rounds" .u32 kz):Rounds W.heap:=by
 have hc:∀ i,i < 64->W.cell? ⟨0,i,none⟩=some (.int .u32 ((Sha.K i).toNat:Int)):=by
  intro i hi
  rw [<-qjd i hi]
  exact h.cell gTab i (by simpa [kz,Sha.kc] using hi)
 obtain⟨_,c,T,fr,hb,_⟩:=ziw (hc 0 (by omega))
 refine⟨c,T,fr,hb,fun i hi=>?_⟩
 obtain⟨_,c2,T2,fr2,hb2,h2⟩:=ziw (hc i hi)
 rw [hb] at hb2
 cases hb2
 rw [Nat.zero_add]
 exact h2
noncomputable def laidWorld (os:Os):World:=
 { World.holding Tryz.prog os ⟨#[],#[],[]⟩ with heap:=(World.holding Tryz.prog os ⟨#[],#[],[]⟩).heap.modify 0 fun
   | .cells _ t frozen=>.cells (W32 Sha.K 64) t frozen
   | o=>o }
theorem qfb {n:Int}(h:(Lit.int .i64 n).wf=true):n<=9223372036854775807:=by
 have h2:IntKind.i64.max=9223372036854775807:=rfl
 simp only [Lit.wf,Bool.and_eq_true,decide_eq_true_eq] at h
 omega
end Go.Proofs.YtbmegmbnlajbbaaGreatDoor.RowC
namespace Go.Proofs.YtbmegmbnlajbbaaGreatDoor
open Go Go.Fw Go.Proofs Go.Sort
abbrev Pr:=List UInt8×Int
def zhf (n:Nod):List Pr:=n.parts.map (fun p=>(p,1))++n.items.map fun i=>(i.sum,i.kind)
section
variable {σ:Type}(stp:σ->Pr->σ×List Pr×Int)
inductive Run:Nat->List Pr->σ->σ->Int->Prop
 | nil {s:σ}:Run 0 [] s s 0
 | stop {p:Pr}{todo:List Pr}{s:σ}:(stp s p).2.2≠0->Run 1 (p :: todo) s (stp s p).1 (stp s p).2.2
 | step {n:Nat}{p:Pr}{todo:List Pr}{s t:σ}{c:Int}:(stp s p).2.2=0->Run n ((stp s p).2.1++todo) (stp s p).1 t c->Run (n+1) (p :: todo) s t c
variable {stp}
theorem Run.split:∀ {n:Nat}{A B:List Pr}{s t:σ}{c:Int},Run stp n (A++B) s t c->(c≠0/\Run stp n A s t c)\/∃ n1 n2 m,n1+n2=n/\Run stp n1 A s m 0/\Run stp n2 B m t c:=by
 intro n
 induction n with
 | zero=>
  intro A B s t c h
  generalize hC:A++B=C at h
  cases h with
  | nil=>
   obtain⟨rfl,rfl⟩:=List.append_eq_nil_iff.1 hC
   exact .inr ⟨0,0,_,rfl,.nil,.nil⟩
 | succ n ih=>
  intro A B s t c h
  cases A with
  | nil=>exact .inr ⟨0,n+1,s,by omega,.nil,h⟩
  | cons p A=>
   rw [List.cons_append] at h
   cases h with
   | stop h0=>exact .inl ⟨h0,.stop h0⟩
   | step h0 h1=>
    rw [<-List.append_assoc] at h1
    rcases ih h1 with⟨h2,h3⟩ | ⟨n1,n2,m,h2,h3,h4⟩
    ·exact .inl ⟨h2,.step h0 h3⟩
    ·exact .inr ⟨n1+1,n2,m,by omega,.step h0 h3,h4⟩
theorem Run.ends (μ:σ->Nat) (K:Nat) (h:∀ s p,(stp s p).2.1.length<=K/\μ (stp s p).1<=μ s/\((stp s p).2.1≠[]->μ (stp s p).1 < μ s)):∀ (m l:Nat) (todo:List Pr) (s:σ),μ s<=m->todo.length<=l->∃ n t c,Run stp n todo s t c/\n<=l+(K+1) * m:=by
 intro m
 induction m with
 | zero=>
  intro l
  induction l with
  | zero=>
   intro todo s _ hl
   have:todo=[]:=List.eq_nil_of_length_eq_zero (by omega)
   subst this
   exact⟨0,s,0,.nil,by omega⟩
  | succ l ih=>
   intro todo s hm hl
   cases todo with
   | nil=>exact⟨0,s,0,.nil,by omega⟩
   | cons p todo=>
    by_cases h0:(stp s p).2.2=0
    ·obtain⟨_,h2,h3⟩:=h s p
     have h4:(stp s p).2.1=[]:=Decidable.byContradiction fun h5=>by have:=h3 h5;omega
     obtain⟨n,t,c,h5,h6⟩:=ih todo (stp s p).1 (by omega) (by simp at hl;omega)
     exact⟨n+1,t,c,.step h0 (by rw [h4];exact h5),by omega⟩
    ·exact⟨1,_,_,.stop h0,by omega⟩
 | succ m ihm=>
  intro l
  induction l with
  | zero=>
   intro todo s _ hl
   have:todo=[]:=List.eq_nil_of_length_eq_zero (by omega)
   subst this
   exact⟨0,s,0,.nil,by omega⟩
  | succ l ih=>
   intro todo s hm hl
   cases todo with
   | nil=>exact⟨0,s,0,.nil,by omega⟩
   | cons p todo=>
    by_cases h0:(stp s p).2.2=0
    ·obtain⟨h1,h2,h3⟩:=h s p
     by_cases h4:(stp s p).2.1=[]
     ·obtain⟨n,t,c,h5,h6⟩:=ih todo (stp s p).1 (by omega) (by simp at hl;omega)
      exact⟨n+1,t,c,.step h0 (by rw [h4];exact h5),by omega⟩
     ·have h5:=h3 h4
      obtain⟨n,t,c,h6,h7⟩:=ihm (K+l) ((stp s p).2.1++todo) (stp s p).1 (by omega) (by simp at hl |-;omega)
      refine⟨n+1,t,c,.step h0 h6,?_⟩
      have:(K+1) * (m+1)=(K+1) * m+(K+1):=by rw [Nat.mul_add,Nat.mul_one]
      omega
    ·exact⟨1,_,_,.stop h0,by have:0<=(K+1) * (m+1):=Nat.zero_le _;omega⟩
theorem Run.same:∀ {n n':Nat}{A:List Pr}{s t t':σ}{c c':Int},Run stp n A s t c->Run stp n' A s t' c'->n=n'/\t=t'/\c=c':=by
 intro n n' A s t t' c c' h
 induction h generalizing n' t' c' with
 | nil=>intro h';cases h';exact⟨rfl,rfl,rfl⟩
 | stop h0=>
  intro h'
  cases h' with
  | stop _=>exact⟨rfl,rfl,rfl⟩
  | step h1 _=>exact absurd h1 h0
 | step h0 _ ih=>
  intro h'
  cases h' with
  | stop h1=>exact absurd h0 h1
  | step _ h2=>
   obtain⟨a,b,c⟩:=ih h2
   exact⟨by rw [a],b,c⟩
end
structure LSt where
 seen:List Pr
 want:List Pr
 foul:Bool
def zc0 (v:List UInt8->Option (List UInt8)) (s:LSt) (p:Pr):LSt×List Pr×Int:=
 if p∈s.seen then (s,[],0) else if Bl.got (v p.1) p.1≠0 then (⟨s.seen++[p],s.want++[p],s.foul⟩,[],0)
 else if (zr7 (v p.1) p.1 p.2).2≠0 then (⟨s.seen++[p],s.want,true⟩,[],0) else (⟨s.seen++[p],s.want,s.foul⟩,zhf (zr7 (v p.1) p.1 p.2).1,0)
def qhn (v:List UInt8->Option (List UInt8)) (s:List Pr×List (List UInt8)) (p:Pr):(List Pr×List (List UInt8))×List Pr×Int:=
 if p∈s.1 then (s,[],0) else if (zr7 (v p.1) p.1 p.2).2≠0 then ((s.1++[p],s.2),[],(zr7 (v p.1) p.1 p.2).2)
 else ((s.1++[p],if p.1∈s.2 then s.2 else s.2++[p.1]),zhf (zr7 (v p.1) p.1 p.2).1,0)
def unseen (r:Bl.SM) (seen:List Pr):Nat:=(r.filter fun x=>decide ((x.1,(zcg x.2.1.2).1.kind)∉seen)).length
theorem zqr {α:Type}{p q:α->Bool}{l:List α}(h:∀ x∈l,p x=true->q x=true):(l.filter p).length<=(l.filter q).length:=by
 induction l with
 | nil=>simp
 | cons a l ih=>
  have h1:=ih fun x hx=>h x (by simp [hx])
  have h2:=h a (by simp)
  rw [List.filter_cons,List.filter_cons]
  cases hp:p a <;> cases hq:q a <;> simp_all <;> omega
theorem zyb {α:Type}{p q:α->Bool}{l:List α}(h:∀ x∈l,p x=true->q x=true){a:α}(ha:a∈l) (hp:p a=false) (hq:q a=true):(l.filter p).length < (l.filter q).length:=by
 induction l with
 | nil=>cases ha
 | cons b l ih=>
  have h0:∀ x∈l,p x=true->q x=true:=fun x hx=>h x (by simp [hx])
  have h2:=h b (by simp)
  rw [List.filter_cons,List.filter_cons]
  rcases List.mem_cons.1 ha with rfl | ha
  ·have:=zqr h0
   simp [hp,hq];omega
  ·have:=ih h0 ha
   cases hp':p b <;> cases hq':q b <;> simp_all <;> omega
theorem zq0 {r:Bl.SM}{seen:List Pr}{p:Pr}:unseen r (seen++[p])<=unseen r seen:=
 zqr fun x _ h=>by simp at h |-;exact h.1
theorem z9o {r:Bl.SM}{seen:List Pr}{p:Pr}(hp:p∉seen) (hg:(zr7 (Bl.zaa r p.1) p.1 p.2).2=0):unseen r (seen++[p]) < unseen r seen:=by
 unfold zr7 at hg
 split at hg
 ·rename_i h;exact absurd hg h
 ·rename_i h1
  split at hg
  ·simp at hg
  ·rename_i h2
   cases hv:Bl.zaa r p.1 with
   | none=>rw [hv] at h1;simp [Bl.got] at h1
   | some L=>
    rw [hv] at h2
    have h3:(zcg L).1.kind=p.2:=Decidable.byContradiction fun h=>h2 (.inr h)
    have h4:∃ x∈r,x.1=p.1/\x.2.1.2=L:=by
     unfold Bl.zaa at hv
     cases hm:zbx r p.1 with
     | none=>rw [hm] at hv;cases hv
     | some y=>
      rw [hm] at hv
      obtain⟨c,hc⟩:=zct hm
      exact⟨_,hc,rfl,by simpa using hv⟩
    obtain⟨x,hx,hx1,hx2⟩:=h4
    refine zyb (fun y _ h=>by simp at h |-;exact h.1) hx ?_ ?_
    ·simp [hx1,hx2,h3]
    ·simp [hx1,hx2,h3,hp]
theorem z9y {v:Option (List UInt8)}{k:List UInt8}{kind:Int}:(zhf (zr7 v k kind).1).length<=70000:=by
 have:=zrz (v:=v) (k:=k) (kind:=kind)
 simp [zhf];omega
theorem z02 {r:Bl.SM}(s:LSt) (p:Pr):(zc0 (Bl.zaa r) s p).2.1.length<=70000/\unseen r (zc0 (Bl.zaa r) s p).1.seen<=unseen r s.seen/\((zc0 (Bl.zaa r) s p).2.1≠[]->unseen r (zc0 (Bl.zaa r) s p).1.seen < unseen r s.seen):=by
 unfold zc0
 split
 ·simp
 ·rename_i h1
  split
  ·exact⟨by simp,zq0,by simp⟩
  ·split
   ·exact⟨by simp,zq0,by simp⟩
   ·rename_i h3
    exact⟨z9y,zq0,fun _=>z9o h1 (by simpa using h3)⟩
theorem zvu (r:Bl.SM) (todo:List Pr) (s:LSt):∃ n t c,Run (zc0 (Bl.zaa r)) n todo s t c/\n<=todo.length+70001 * unseen r s.seen:=
 Run.ends (fun s=>unseen r s.seen) 70000 (fun s p=>z02 s p) _ _ todo s (Nat.le_refl _) (Nat.le_refl _)
theorem zul {v:List UInt8->Option (List UInt8)}:∀ {n:Nat}{todo:List Pr}{s t:LSt}{c:Int},Run (zc0 v) n todo s t c->c=0:=by
 intro n todo s t c h
 induction h with
 | nil=>rfl
 | stop h0=>
  exfalso
  apply h0
  unfold zc0
  repeat' split
  all_goals rfl
 | step _ _ ih=>exact ih
def zcu (p:Pr):List Value:=byteCells p.1++[.int .i64 p.2]
def prV (p:Pr):Value:=.agg (zcu p).toArray
theorem fPr:(P.fieldsOf zo).toList.map (fun f=>(f.name,f.type,f.offset))=[("sum",zf,0),("kind",zbw,32)]:=by kernel_rfl
theorem uPr:P.underlying zo=some (.struct (P.fieldsOf zo)):=by kernel_rfl
theorem qgo:P.stoodInHeld zo=false:=by kernel_rfl
theorem qe0:P.eqGuardType P.depth zo=false:=by kernel_rfl
theorem qks (w:World):(isAgg zf).run P w=.ok true w:=by kernel_rfl
theorem qkr (w:World):(sizeOf zf).run P w=.ok 32 w:=by kernel_rfl
theorem qau {p:Pr}(h:p.1.length=32) (w:World):(part zf (zcu p).toArray 0).run P w=.ok (arr p.1) w:=by
 have t32:(zcu p).take 32=byteCells p.1:=List.take_left' (by simp [h])
 simp [part,qks,qkr,arr,t32]
theorem z8z {p:Pr}(h:p.1.length=32) (w:World):(part zbw (zcu p).toArray 32).run P w=.ok (.int .i64 p.2) w:=by
 refine qij (by kernel_rfl) ?_
 simp [zcu,<-h]
theorem zup {d:Nat}{t e:TypeId}{n:Nat}{w:World}(hu:P.underlying t=some (.array n e)) (he:P.underlying e=some (.int .u8)) (hc:P.cellsOf e=1){A B:List UInt8}(hA:A.length=n) (hB:B.length=n) :
  (Op.equalIn (d+1+1) t (arr A) (arr B)).run P w=.ok (decide (A=B)) w:=by
 obtain⟨i,hi⟩:∃ i,P.info? e=some i:=info_of_underlying he
 unfold arr
 rw [run_equalIn_array w (d+1) _ _ hu hi,zli (d:=d) he hc A B (List.range n) (by intro j hj;simp at hj;omega)]
 refine congrArg (fun z=>Result.ok z w) ?_
 rw [decide_eq_decide]
 simp only [List.mem_range]
 constructor
 ·intro h
  apply List.ext_getElem?
  intro j
  by_cases hj:j < n
  ·exact h j hj
  ·rw [List.getElem?_eq_none (by omega),List.getElem?_eq_none (by omega)]
 ·rintro rfl _ _;rfl
theorem z0n:∃ f0 f1:Field,P.fieldsOf zo=#[f0,f1]/\f0.name= "sum"/\f0.type=zf/\f0.offset=0/\f1.name= "kind"/\f1.type=zbw/\f1.offset=32:=by
 have hf:=fPr
 generalize P.fieldsOf zo=fs at hf
 obtain⟨fs⟩:=fs
 have hl:fs.length=2:=by simpa using congrArg List.length hf
 match fs,hl with
 | [a,b],_=>
  simp only [List.map_cons,List.map_nil,List.cons.injEq,Prod.mk.injEq,and_true] at hf
  exact⟨a,b,rfl,hf.1.1,hf.1.2.1,hf.1.2.2,hf.2.1,hf.2.2.1,hf.2.2.2⟩
theorem eqPr {a b:Pr}(ha:a.1.length=32) (hb:b.1.length=32) (w:World):(Op.equalIn 10000 zo (prV a) (prV b)).run P w=.ok (decide (a=b)) w:=by
 unfold prV
 rw [run_equalIn_agg w 9999 zo _ _ uPr qgo]
 obtain⟨f0,f1,hf,n0,t0,o0,n1,t1,o1⟩:=z0n
 rw [hf]
 have q0:(Op.equalIn 9999 f0.type (arr a.1) (arr b.1)).run P w=.ok (decide (a.1=b.1)) w:=by rw [t0];exact zup (d:=9997) Bl.u27 Bl.u5 Bl.c5 ha hb
 have q1:(Op.equalIn 9999 f1.type (.int .i64 a.2) (.int .i64 b.2)).run P w=.ok (decide (a.2=b.2)) w:=by
  rw [t1,run_equalIn_int w 9998 zbw .i64 .i64 _ _ (by kernel_rfl)];congr 1
 have e0:∀ {p:Pr},p.1.length=32->(part f0.type (zcu p).toArray f0.offset).run P w=.ok (arr p.1) w:=fun h=>by rw [t0,o0];exact qau h w
 have e1:∀ {p:Pr},p.1.length=32->(part f1.type (zcu p).toArray f1.offset).run P w=.ok (.int .i64 p.2) w:=fun h=>by rw [t1,o1];exact z8z h w
 have hiff:(a=b) ↔ a.1=b.1/\a.2=b.2:=Prod.ext_iff
 have fin:∀ {c:Bool},(Op.eqFields 9999 (zcu a).toArray (zcu b).toArray [f0,f1]).run P w=.ok c w->c=decide (a=b)->(Op.eqFields 9999 (zcu a).toArray (zcu b).toArray [f0,f1]).run P w=.ok (decide (a=b)) w:=fun h e=>by rw [h,e]
 by_cases h0:a.1=b.1
 ·rw [decide_eq_true h0] at q0
  by_cases h1:a.2=b.2
  ·rw [decide_eq_true h1] at q1
   refine fin (c:=true) ?_ (by simp [hiff,h0,h1])
   simp only [Op.eqFields,n0,n1,ne_eq,String.reduceEq,not_false_eq_true,if_true,Sem.run_bind,e0 ha,e0 hb,e1 ha,e1 hb,Result.andThen_ok,q0,q1,Bool.not_true,Bool.false_eq_true,if_false,Sem.run_pure]
  ·rw [decide_eq_false h1] at q1
   refine fin (c:=false) ?_ (by simp [hiff,h1])
   simp only [Op.eqFields,n0,n1,ne_eq,String.reduceEq,not_false_eq_true,if_true,Sem.run_bind,e0 ha,e0 hb,e1 ha,e1 hb,Result.andThen_ok,q0,q1,Bool.not_true,Bool.not_false,Bool.false_eq_true,if_false,Sem.run_pure]
 ·rw [decide_eq_false h0] at q0
  refine fin (c:=false) ?_ (by simp [hiff,h0])
  simp only [Op.eqFields,n0,n1,ne_eq,String.reduceEq,not_false_eq_true,if_true,Sem.run_bind,e0 ha,e0 hb,Result.andThen_ok,q0,Bool.not_false,Bool.false_eq_true,if_false,Sem.run_pure]
theorem qjc {x y:Operand}{a b:Pr}(ha:a.1.length=32) (hb:b.1.length=32){w:World}:(eqM .eql zo x y (prV a) (prV b)).run P w=.ok (.bool (decide (a=b))) w:=by
 have:=eqPr ha hb w
 unfold prV at *
 simp only [eqM,Sem.run_bind,run_eqGuard_agg w .eql zo x y _ _ qe0,Result.andThen_ok,run_eql_struct w,this]
theorem zst:∀ (l:List Value),(∀ v∈l,Instr.sameBits 9999 v v=true)->(l.zip l).all (fun (x:Value×Value)=>Instr.sameBits 9999 x.1 x.2)=true
 | [],_=>rfl
 | v :: l,h=>by
  simp only [List.zip_cons_cons,List.all_cons,h v (by simp),Bool.true_and]
  exact zst l fun u hu=>h u (by simp [hu])
theorem zzo {d:Nat}{t e:TypeId}{n:Nat}{w:World}(hu:P.underlying t=some (.array n e)) (he:P.underlying e=some (.int .u8)) (hc:P.cellsOf e=1){A:List UInt8}(hA:A.length=n) (em:Bool) :
  (Instr.checkKey em (d+1+1) t (arr A)).run P w=.ok () w:=by
 obtain⟨i,hi⟩:∃ i,P.info? e=some i:=info_of_underlying he
 unfold arr
 rw [Instr.checkKey]
 simp only [Sem.run_bind,qj hu,Result.andThen_ok]
 simp only [Std.Legacy.Range.forIn_eq_forIn_range',Std.Legacy.Range.size,Nat.sub_zero,Nat.add_one_sub_one,Nat.div_one]
 have each:∀ j∈List.range' 0 n,j < A.length:=by intro j hj;simp [List.mem_range'] at hj;omega
 generalize List.range' 0 n=is at each
 induction is with
 | nil=>simp
 | cons j is ih=>
  have p1:(part e (byteCells A).toArray j).run P w=_:=zpt (info:=default) he A (each j (by simp))
  have p2:(Instr.checkKey em (d+1) e (.int .u8 ((A[j]'(each j (by simp))).toNat:Int))).run P w=.ok () w:=by
   rw [Instr.checkKey]
   simp only [Sem.run_bind,qj he,Result.andThen_ok,Sem.run_pure]
  simp only [List.forIn_cons,Sem.run_bind,run_sizeOf w hi,Result.andThen_ok,hc,Nat.mul_one,p1,p2,Sem.run_pure]
  exact ih fun y hy=>each y (by simp [hy])
theorem qfd {p:Pr}(h:p.1.length=32) (em:Bool) (w:World):(Instr.checkKey em 10000 zo (prV p)).run P w=.ok () w:=by
 obtain⟨f0,f1,hf,n0,t0,o0,n1,t1,o1⟩:=z0n
 have hu:=uPr
 rw [hf] at hu
 unfold prV
 rw [show (10000:Nat)=9997+1+1+1 from rfl,Instr.checkKey]
 simp only [Sem.run_bind,qj hu,Result.andThen_ok]
 have c0:(Instr.checkKey em (9997+1+1) zf (arr p.1)).run P w=.ok () w:=zzo Bl.u27 Bl.u5 Bl.c5 h em
 have c1:(Instr.checkKey em (9997+1+1) zbw (.int .i64 p.2)).run P w=.ok () w:=by
  rw [Instr.checkKey]
  simp only [Sem.run_bind,qj (show P.underlying zbw=some (.int .i64) by kernel_rfl),Result.andThen_ok,Sem.run_pure]
 simp [n0,n1,t0,t1,o0,o1,qau h,z8z h,c0,c1]
theorem KPr:KeyOk P zo Pr (fun p=>p.1.length=32) prV:=
 .wide (fun w a b ha hb=>by unfold Op.equal Op.maxDepth;exact eqPr ha hb w) (by rw [uPr]) (fun w p e hp=>qfd hp e w) fun p hp=>by
  unfold prV
  rw [show (10000:Nat)=9999+1 from rfl,Instr.sameBits]
  simp only [beq_self_eq_true,Bool.true_and]
  refine zst _ fun v hv=>?_
  simp only [zcu,byteCells,List.mem_append,List.mem_map,List.mem_singleton] at hv
  rcases hv with⟨b,_,rfl⟩ | rfl
  ·simp [Instr.sameBits]
  ·simp [Instr.sameBits]
theorem qkg:(P.fieldsOf qm).toList.map (fun f=>(f.name,f.type,f.offset))=[("D",zf,0),("Kind",zbw,32)]:=by kernel_rfl
theorem qkz:P.underlying qm=some (.struct (P.fieldsOf qm)):=by kernel_rfl
theorem qey:P.stoodInHeld qm=false:=by kernel_rfl
theorem qcb:P.eqGuardType P.depth qm=false:=by kernel_rfl
theorem z7o:∃ f0 f1:Field,P.fieldsOf qm=#[f0,f1]/\f0.name= "D"/\f0.type=zf/\f0.offset=0/\f1.name= "Kind"/\f1.type=zbw/\f1.offset=32:=by
 have hf:=qkg
 generalize P.fieldsOf qm=fs at hf
 obtain⟨fs⟩:=fs
 have hl:fs.length=2:=by simpa using congrArg List.length hf
 match fs,hl with
 | [a,b],_=>
  simp only [List.map_cons,List.map_nil,List.cons.injEq,Prod.mk.injEq,and_true] at hf
  exact⟨a,b,rfl,hf.1.1,hf.1.2.1,hf.1.2.2,hf.2.1,hf.2.2.1,hf.2.2.2⟩
theorem qiz {a b:Pr}(ha:a.1.length=32) (hb:b.1.length=32) (w:World):(Op.equalIn 10000 qm (prV a) (prV b)).run P w=.ok (decide (a=b)) w:=by
 unfold prV
 rw [run_equalIn_agg w 9999 qm _ _ qkz qey]
 obtain⟨f0,f1,hf,n0,t0,o0,n1,t1,o1⟩:=z7o
 rw [hf]
 have q0:(Op.equalIn 9999 f0.type (arr a.1) (arr b.1)).run P w=.ok (decide (a.1=b.1)) w:=by rw [t0];exact zup (d:=9997) Bl.u27 Bl.u5 Bl.c5 ha hb
 have q1:(Op.equalIn 9999 f1.type (.int .i64 a.2) (.int .i64 b.2)).run P w=.ok (decide (a.2=b.2)) w:=by
  rw [t1,run_equalIn_int w 9998 zbw .i64 .i64 _ _ (by kernel_rfl)];congr 1
 have e0:∀ {p:Pr},p.1.length=32->(part f0.type (zcu p).toArray f0.offset).run P w=.ok (arr p.1) w:=fun h=>by rw [t0,o0];exact qau h w
 have e1:∀ {p:Pr},p.1.length=32->(part f1.type (zcu p).toArray f1.offset).run P w=.ok (.int .i64 p.2) w:=fun h=>by rw [t1,o1];exact z8z h w
 have hiff:(a=b) ↔ a.1=b.1/\a.2=b.2:=Prod.ext_iff
 have fin:∀ {c:Bool},(Op.eqFields 9999 (zcu a).toArray (zcu b).toArray [f0,f1]).run P w=.ok c w->c=decide (a=b)->(Op.eqFields 9999 (zcu a).toArray (zcu b).toArray [f0,f1]).run P w=.ok (decide (a=b)) w:=fun h e=>by rw [h,e]
 by_cases h0:a.1=b.1
 ·rw [decide_eq_true h0] at q0
  by_cases h1:a.2=b.2
  ·rw [decide_eq_true h1] at q1
   refine fin (c:=true) ?_ (by simp [hiff,h0,h1])
   simp only [Op.eqFields,n0,n1,ne_eq,String.reduceEq,not_false_eq_true,if_true,Sem.run_bind,e0 ha,e0 hb,e1 ha,e1 hb,Result.andThen_ok,q0,q1,Bool.not_true,Bool.false_eq_true,if_false,Sem.run_pure]
  ·rw [decide_eq_false h1] at q1
   refine fin (c:=false) ?_ (by simp [hiff,h1])
   simp only [Op.eqFields,n0,n1,ne_eq,String.reduceEq,not_false_eq_true,if_true,Sem.run_bind,e0 ha,e0 hb,e1 ha,e1 hb,Result.andThen_ok,q0,q1,Bool.not_true,Bool.not_false,Bool.false_eq_true,if_false,Sem.run_pure]
 ·rw [decide_eq_false h0] at q0
  refine fin (c:=false) ?_ (by simp [hiff,h0])
  simp only [Op.eqFields,n0,n1,ne_eq,String.reduceEq,not_false_eq_true,if_true,Sem.run_bind,e0 ha,e0 hb,Result.andThen_ok,q0,Bool.not_false,Bool.false_eq_true,if_false,Sem.run_pure]
theorem qgw {x y:Operand}{a b:Pr}(ha:a.1.length=32) (hb:b.1.length=32){w:World}:(eqM .eql qm x y (prV a) (prV b)).run P w=.ok (.bool (decide (a=b))) w:=by
 have:=qiz ha hb w
 unfold prV at *
 simp only [eqM,Sem.run_bind,run_eqGuard_agg w .eql qm x y _ _ qcb,Result.andThen_ok,run_eql_struct w,this]
theorem zkg {p:Pr}(h:p.1.length=32):(zcu p).length=33:=by simp [zcu,h]
def zc2 (p:Pr):List Value:=Bl.zbp p.1++[.int .i64 p.2]
theorem zae (p:Pr):(zc2 p).length=33:=by simp [zc2,Bl.zaf]
theorem zka {p:Pr}(h:p.1.length=32):zc2 p=zcu p:=by rw [zc2,zcu,Bl.zba h]
theorem zgx {p:Pr}:zcs (zc2 p):=by
 intro v hv
 rcases List.mem_append.1 hv with h | h
 ·exact Bl.zp3 v h
 ·simp at h;subst h;rfl
theorem qj9 (n:Int) (a0 a1 a2 a3 a4 a5 a6 a7 a8 a9 a10 a11 a12 a13 a14 a15 a16 a17 a18 a19 a20 a21 a22 a23 a24 a25 a26 a27 a28 a29 a30 a31:UInt8) (w:World):(Instr.build zo #[(0,arr [a0,a1,a2,a3,a4,a5,a6,a7,a8,a9,a10,a11,a12,a13,a14,a15,a16,a17,a18,a19,a20,a21,a22,a23,a24,a25,a26,a27,a28,a29,a30,a31]),(1,.int .i64 n)]).run P w=.ok (prV ([a0,a1,a2,a3,a4,a5,a6,a7,a8,a9,a10,a11,a12,a13,a14,a15,a16,a17,a18,a19,a20,a21,a22,a23,a24,a25,a26,a27,a28,a29,a30,a31],n)) w:=by kernel_rfl
theorem bPr {k:List UInt8}(h:k.length=32) (n:Int) (w:World):(Instr.build zo #[(0,arr k),(1,.int .i64 n)]).run P w=.ok (prV (k,n)) w:=by
 match k,h with
 | [a0,a1,a2,a3,a4,a5,a6,a7,a8,a9,a10,a11,a12,a13,a14,a15,a16,a17,a18,a19,a20,a21,a22,a23,a24,a25,a26,a27,a28,a29,a30,a31],_=>exact qj9 n a0 a1 a2 a3 a4 a5 a6 a7 a8 a9 a10 a11 a12 a13 a14 a15 a16 a17 a18 a19 a20 a21 a22 a23 a24 a25 a26 a27 a28 a29 a30 a31 w
theorem qk2 (n:Int) (a0 a1 a2 a3 a4 a5 a6 a7 a8 a9 a10 a11 a12 a13 a14 a15 a16 a17 a18 a19 a20 a21 a22 a23 a24 a25 a26 a27 a28 a29 a30 a31:UInt8) (w:World):(Instr.build qm #[(0,arr [a0,a1,a2,a3,a4,a5,a6,a7,a8,a9,a10,a11,a12,a13,a14,a15,a16,a17,a18,a19,a20,a21,a22,a23,a24,a25,a26,a27,a28,a29,a30,a31]),(1,.int .i64 n)]).run P w=.ok (prV ([a0,a1,a2,a3,a4,a5,a6,a7,a8,a9,a10,a11,a12,a13,a14,a15,a16,a17,a18,a19,a20,a21,a22,a23,a24,a25,a26,a27,a28,a29,a30,a31],n)) w:=by kernel_rfl
theorem bPq {k:List UInt8}(h:k.length=32) (n:Int) (w:World):(Instr.build qm #[(0,arr k),(1,.int .i64 n)]).run P w=.ok (prV (k,n)) w:=by
 match k,h with
 | [a0,a1,a2,a3,a4,a5,a6,a7,a8,a9,a10,a11,a12,a13,a14,a15,a16,a17,a18,a19,a20,a21,a22,a23,a24,a25,a26,a27,a28,a29,a30,a31],_=>exact qk2 n a0 a1 a2 a3 a4 a5 a6 a7 a8 a9 a10 a11 a12 a13 a14 a15 a16 a17 a18 a19 a20 a21 a22 a23 a24 a25 a26 a27 a28 a29 a30 a31 w
theorem qjs (a0 a1 a2 a3 a4 a5 a6 a7 a8 a9 a10 a11 a12 a13 a14 a15 a16 a17 a18 a19 a20 a21 a22 a23 a24 a25 a26 a27 a28 a29 a30 a31:UInt8) (w:World):(Instr.build zx #[(1,.int .i64 1),(2,arr [a0,a1,a2,a3,a4,a5,a6,a7,a8,a9,a10,a11,a12,a13,a14,a15,a16,a17,a18,a19,a20,a21,a22,a23,a24,a25,a26,a27,a28,a29,a30,a31])]).run P w=.ok (.agg ([Value.string .empty,Value.int .i64 1]++byteCells [a0,a1,a2,a3,a4,a5,a6,a7,a8,a9,a10,a11,a12,a13,a14,a15,a16,a17,a18,a19,a20,a21,a22,a23,a24,a25,a26,a27,a28,a29,a30,a31]).toArray) w:=by kernel_rfl
theorem qj4 {k:List UInt8}(h:k.length=32) (w:World):(Instr.build zx #[(1,.int .i64 1),(2,arr k)]).run P w=.ok (.agg (zcy ⟨[],1,k⟩).toArray) w:=by
 have e:zcy ⟨[],1,k⟩=[Value.string .empty,Value.int .i64 1]++byteCells k:=by unfold zcy;rw [Bl.zba h];rfl
 rw [e]
 match k,h with
 | [a0,a1,a2,a3,a4,a5,a6,a7,a8,a9,a10,a11,a12,a13,a14,a15,a16,a17,a18,a19,a20,a21,a22,a23,a24,a25,a26,a27,a28,a29,a30,a31],_=>exact qjs a0 a1 a2 a3 a4 a5 a6 a7 a8 a9 a10 a11 a12 a13 a14 a15 a16 a17 a18 a19 a20 a21 a22 a23 a24 a25 a26 a27 a28 a29 a30 a31 w
def zs8 (n:Nod):List Itm:=n.parts.map (fun p=>⟨[],1,p⟩)++n.items
theorem z5m {n:Nod}:zhf n=(zs8 n).map fun i=>(i.sum,i.kind):=by simp [zhf,zs8]
theorem z4r {H:Heap}{n:Nod}{xp xi:Option Addr×Nat×Nat}(h:NodW H n xp xi):∀ i∈zs8 n,i.sum.length=32:=by
 intro i hi
 rcases List.mem_append.1 hi with h1 | h1
 ·obtain⟨p,hp,rfl⟩:=List.mem_map.1 h1
  exact h.p32 p hp
 ·exact h.i32 i h1
theorem qia (l:List Itm):(l.flatMap zcy).length=l.length * 34:=by rw [zu zcy zai]
set_option maxHeartbeats 4000000 in
theorem qfx {w:World}{H:Heap}{n:Nod}{xp xi:Option Addr×Nat×Nat}(hw:w.heap=H) (hN:NodW H n xp xi) (hpl:n.parts.length<=65536) (hil:n.items.length<=65) :
  qc P zo4 #[.agg (zca n xp xi).toArray] w fun e w'=>∃ x,e=.returned (zbv x)/\Mine w'.heap H.size zx 34 x ((zs8 n).flatMap zcy)/\Ext [] H w'.heap:=by
 refine z1r ?_
 unfold zt2
 refine jv hw fun w1 hw1=>?_
 have hx1:Ext [] H w1.heap:=by rw [hw1];exact .push _
 have hb1:w1.heap[H.size]?=some (.cells (zca n xp xi).toArray zh (0,0)):=by rw [hw1];exact zn
 have s1:=lt_of_get hb1
 refine je (s:=.slc) (t:=xp) rfl hb1 rfl ?_
 have hxl:=hN.plen
 have hxil:=hN.ilen
 refine jg (fun (s:(Option Addr×Nat×Nat)×Int) W=>∃ i:Nat,s.2=(i:Int)/\i<=n.parts.length/\Ext [] w1.heap W.heap/\Mine W.heap w1.heap.size zx 34 s.1 (((n.parts.take i).map fun p=>(⟨[],1,p⟩:Itm)).flatMap zcy)) (fun s _=>(n.parts.length-s.2).toNat)
  ⟨0,rfl,Nat.zero_le _,.refl _ _,.inl ⟨rfl,rfl⟩⟩ ?_
 rintro ⟨o,_⟩ W ⟨i,rfl,hi,hx,hmo⟩
 simp only at hmo
 have sW:=hx.1
 refine zq (fun hlt=>?_) (fun hge=>?_)
 ·have hil:i < n.parts.length:=by simp only at hlt;omega
  have hget:=List.getElem?_eq_getElem hil
  have hk32:=hN.p32 _ (List.getElem_mem hil)
  have htake:(n.parts.take (i+1)).map (fun p=>(⟨[],1,p⟩:Itm))=(n.parts.take i).map (fun p=>(⟨[],1,p⟩:Itm))++[⟨[],1,n.parts[i]⟩]:=by rw [List.take_add_one,hget,List.map_append];rfl
  generalize n.parts[i]=k at hget hk32 htake
  refine zce (i:=i) Bl.zaf (by omega) rfl (hN.parts.ext (hx1.trans hx) (by simp)) hxl hget rfl ?_
  rw [Bl.zba hk32]
  refine qei hk32 rfl fun w4 hw4=>?_
  have hx4:Ext [] W.heap w4.heap:=by rw [hw4];exact .push _
  have hb4:w4.heap[W.heap.size]?=some (.cells (byteCells k).toArray zf (0,0)):=by rw [hw4];exact zn
  refine qx rfl hb4 (by simp [hk32]) ?_
  refine qp (s:=.any) _ (qj4 hk32 _) ?_
  refine zvz rfl (hmo.ext hx4 (by simp)) (by have:=hx4.1;omega) (by simp;omega) fun x6 w6 hm6 hx6 hs6=>?_
  refine jd ((i+1:Nat):Int) (by simp) (by omega) (by omega) ?_
  have go:=xu hmo
  exact⟨⟨i+1,rfl,by omega,(hx.trans hx4).own hx6 (fun c hc hlt=>by have:=go c hc;omega),by rw [htake];exact hm6⟩,by simp only;omega⟩
 ·obtain rfl:i=n.parts.length:=by simp only at hge;omega
  rw [List.take_length] at hmo
  refine je (s:=.slc) (t:=xi) rfl (hx.get hb1 (by simp)) rfl ?_
  have hol:o.2.1=n.parts.length:=by have:=hmo.len;rw [qia] at this;simp at this;omega
  refine zch (bts:=56) (n:=n.items.length) (us:=n.items.flatMap zcy) ET (by omega) uST (zbf uST) rfl hmo sW (Src.slc rfl (hN.items.ext (hx1.trans hx) (by simp)) (by rw [qia]) |> fun h=>by rw [hxil];exact h) (by
   intro v hv
   obtain⟨y,_,hy⟩:=List.mem_flatMap.1 hv
   exact ztk v hy) (by omega) fun x' w' hm' hl' hx' hs'=>?_
  have go:=xu hmo
  refine⟨x',rfl,?_,(hx1.trans hx).own hx' (fun c hc hlt=>by have:=go c hc;omega)⟩
  unfold zs8
  rw [List.flatMap_append]
  exact hm'.mono (by omega)
set_option maxHeartbeats 4000000 in
theorem qf9 {w:World}{H:Heap}{n:Nod}{xp xi:Option Addr×Nat×Nat}(hw:w.heap=H) (hN:NodW H n xp xi) (hpl:n.parts.length<=65536) (hil:n.items.length<=65) :
  qc P zq3 #[.agg (zca n xp xi).toArray] w fun e w'=>∃ x,e=.returned (zbv x)/\Mine w'.heap H.size zx 34 x ((zs8 n).flatMap zcy)/\Ext [] H w'.heap:=by
 refine z3b ?_
 unfold zxg
 refine jv hw fun w1 hw1=>?_
 have hx1:Ext [] H w1.heap:=by rw [hw1];exact .push _
 have hb1:w1.heap[H.size]?=some (.cells (zca n xp xi).toArray zh (0,0)):=by rw [hw1];exact zn
 have s1:=lt_of_get hb1
 have hxl:=hN.plen
 have hxil:=hN.ilen
 refine jg (fun (s:(Option Addr×Nat×Nat)×Int) W=>∃ i:Nat,s.2=(i:Int)/\i<=n.parts.length/\Ext [] w1.heap W.heap/\Mine W.heap w1.heap.size zx 34 s.1 (((n.parts.take i).map fun p=>(⟨[],1,p⟩:Itm)).flatMap zcy)) (fun s _=>(n.parts.length-s.2).toNat)
  ⟨0,rfl,Nat.zero_le _,.refl _ _,.inl ⟨rfl,rfl⟩⟩ ?_
 rintro ⟨o,_⟩ W ⟨i,rfl,hi,hx,hmo⟩
 simp only at hmo
 have sW:=hx.1
 have hbW:=hx.get hb1 (by simp)
 refine je (s:=.slc) (t:=xp) rfl hbW rfl ?_
 refine zq (fun hlt=>?_) (fun hge=>?_)
 ·have hil:i < n.parts.length:=by simp only at hlt;omega
  have hget:=List.getElem?_eq_getElem hil
  have hk32:=hN.p32 _ (List.getElem_mem hil)
  have htake:(n.parts.take (i+1)).map (fun p=>(⟨[],1,p⟩:Itm))=(n.parts.take i).map (fun p=>(⟨[],1,p⟩:Itm))++[⟨[],1,n.parts[i]⟩]:=by rw [List.take_add_one,hget,List.map_append];rfl
  generalize n.parts[i]=k at hget hk32 htake
  refine je (s:=.slc) (t:=xp) rfl hbW rfl ?_
  refine zce (i:=i) Bl.zaf (by omega) rfl (hN.parts.ext (hx1.trans hx) (by simp)) hxl hget rfl ?_
  rw [Bl.zba hk32]
  refine qp (s:=.any) _ (qj4 hk32 _) ?_
  refine zvz rfl hmo sW (by simp;omega) fun x6 w6 hm6 hx6 hs6=>?_
  refine jd ((i+1:Nat):Int) (by simp) (by omega) (by omega) ?_
  have go:=xu hmo
  exact⟨⟨i+1,rfl,by omega,hx.own hx6 (fun c hc hlt=>by have:=go c hc;omega),by rw [htake];exact hm6⟩,by simp only;omega⟩
 ·obtain rfl:i=n.parts.length:=by simp only at hge;omega
  rw [List.take_length] at hmo
  refine jg (fun (s:(Option Addr×Nat×Nat)×Int) W=>∃ j:Nat,s.2=(j:Int)/\j<=n.items.length/\Ext [] w1.heap W.heap/\Mine W.heap w1.heap.size zx 34 s.1 ((n.parts.map (fun p=>(⟨[],1,p⟩:Itm))++n.items.take j).flatMap zcy)) (fun s _=>(n.items.length-s.2).toNat)
   ⟨0,rfl,Nat.zero_le _,hx,by simpa using hmo⟩ ?_
  rintro ⟨o2,_⟩ W2 ⟨j,rfl,hj,hx2,hmo2⟩
  simp only at hmo2
  have sW2:=hx2.1
  have hbW2:=hx2.get hb1 (by simp)
  refine je (s:=.slc) (t:=xi) rfl hbW2 rfl ?_
  refine zq (fun hlt=>?_) (fun hge=>?_)
  ·have hjl:j < n.items.length:=by simp only at hlt;omega
   have hget:=List.getElem?_eq_getElem hjl
   have htake:n.items.take (j+1)=n.items.take j++[n.items[j]]:=by rw [List.take_add_one,hget];rfl
   generalize n.items[j]=it at hget htake
   refine je (s:=.slc) (t:=xi) rfl hbW2 rfl ?_
   refine zce (i:=j) zai (by omega) rfl (hN.items.ext (hx1.trans hx2) (by simp)) hxil hget rfl ?_
   refine zvz rfl hmo2 sW2 (by simp;omega) fun x6 w6 hm6 hx6 hs6=>?_
   refine jd ((j+1:Nat):Int) (by simp) (by omega) (by omega) ?_
   have go:=xu hmo2
   exact⟨⟨j+1,rfl,by omega,hx2.own hx6 (fun c hc hlt=>by have:=go c hc;omega),by rw [htake,<-List.append_assoc];exact hm6⟩,by simp only;omega⟩
  ·obtain rfl:j=n.items.length:=by simp only at hge;omega
   rw [List.take_length] at hmo2
   exact⟨o2,rfl,hmo2.mono (by omega),hx1.trans hx2⟩
theorem uSq:P.underlying qy=some (.slice qm):=by kernel_rfl
theorem szq:(P.info? qm).map (·.size)=some 33:=by kernel_rfl
theorem Eq8:Elem P qm 33 40:=zlc (z:=.agg (byteCells (List.replicate 32 0)++[Value.int .i64 0]).toArray) (by kernel_rfl) rfl
theorem uSc:P.underlying vk=some (.slice zo):=by kernel_rfl
theorem Ec8:Elem P zo 33 40:=zlc (z:=.agg (byteCells (List.replicate 32 0)++[Value.int .i64 0]).toArray) (by kernel_rfl) rfl
theorem ztg (l:List Pr):(l.flatMap zc2).length=l.length * 33:=by rw [zu zc2 zae]
theorem zug {p:Pr}(h:p.1.length=32):prV p=.agg (zc2 p).toArray:=by unfold prV;rw [zka h]
theorem qdz {w:World}{H:Heap}{B:Nat}{x:Option Addr×Nat×Nat}{L:List Pr}{p:Pr}(hp:p.1.length=32) (hw:w.heap=H) (hm:Mine H B qm 33 x (L.flatMap zc2)) (hBs:B<=H.size) (hlen:L.length<=1073741824){K:(Option Addr×Nat×Nat)->World->Prop}
  (hK:∀ x' w',Mine w'.heap B qm 33 x' ((L++[p]).flatMap zc2)->Ext (jf x) H w'.heap->(∀ c∈jf x',c∈jf x\/H.size<=c)->K x' w') :
  zas P (Instr.buildSlice qy 1 #[(0,prV p)]) .slc w fun (t27:(Option Addr×Nat×Nat)) w_13=>
  zas P (Builtin.append_ #[qy,qy] qy #[(Value.slice x.1 x.2.1 x.2.2),(Value.slice t27.1 t27.2.1 t27.2.2)]) .slc w_13 K:=by
 have hlx:x.2.1=L.length:=by have:=hm.len;rw [ztg] at this;omega
 rw [zug hp]
 refine zam (s:=.slc) (some ⟨w.heap.size,0,none⟩,1,1) _ (zd7 Eq8 uSq (v:=.agg (zc2 p).toArray) (by simp [Value.cells,zae]) (by omega) (by omega)) ?_
 subst hw
 have hxp:Ext [] w.heap (w.heap.push (.cells (Value.agg (zc2 p).toArray).cells qm)):=.push _
 refine zch (bts:=40) (n:=1) (us:=zc2 p) (H:=w.heap.push (.cells (Value.agg (zc2 p).toArray).cells qm)) Eq8 (by omega) uSq (zbf uSq) rfl (hm.ext hxp (by simp)) (by simp;omega)
  (Src.slc rfl (.inr ⟨w.heap.size,0,_,_,_,rfl,zn,by simp [zdx],by simp [zdx,List.take_of_length_le]⟩) (by rw [zae])) zgx (by omega) ?_
 intro x' w4 hm4 hl4 hx4 hs4
 refine hK x' w4 (by rw [List.flatMap_append,List.flatMap_singleton];exact hm4) ((hxp.mono (by simp)).trans hx4) (fun c hc=>?_)
 rcases hs4 c hc with h | h
 ·exact .inl h
 ·right;have:=hxp.1;omega
theorem qdi {w:World}{H:Heap}{B:Nat}{x:Option Addr×Nat×Nat}{L:List Pr}{p:Pr}{Q:World->Prop}(hp:p.1.length=32) (hw:w.heap=H) (hm:Mine H B qm 33 x (L.flatMap zc2)) (hBs:B<=H.size) (hlen:L.length<=1073741824) (hQ:∀ w',Ext [] H w'.heap->Q w'){K:(Option Addr×Nat×Nat)->World->Prop}
  (hK:∀ x' w',Mine w'.heap B qm 33 x' ((L++[p]).flatMap zc2)->Ext (jf x) H w'.heap->(∀ c∈jf x',c∈jf x\/H.size<=c)->K x' w') :
  zas P (Instr.buildSlice qy 1 #[(0,prV p)]) .slc w fun (t27:(Option Addr×Nat×Nat)) w_13=>Q w_13 /\
  zas P (Builtin.append_ #[qy,qy] qy #[(Value.slice x.1 x.2.1 x.2.2),(Value.slice t27.1 t27.2.1 t27.2.2)]) .slc w_13 K:=by
 have hlx:x.2.1=L.length:=by have:=hm.len;rw [ztg] at this;omega
 rw [zug hp]
 refine zam (s:=.slc) (some ⟨w.heap.size,0,none⟩,1,1) _ (zd7 Eq8 uSq (v:=.agg (zc2 p).toArray) (by simp [Value.cells,zae]) (by omega) (by omega)) ?_
 subst hw
 have hxp:Ext [] w.heap (w.heap.push (.cells (Value.agg (zc2 p).toArray).cells qm)):=.push _
 refine⟨hQ _ hxp,?_⟩
 refine zch (bts:=40) (n:=1) (us:=zc2 p) (H:=w.heap.push (.cells (Value.agg (zc2 p).toArray).cells qm)) Eq8 (by omega) uSq (zbf uSq) rfl (hm.ext hxp (by simp)) (by simp;omega)
  (Src.slc rfl (.inr ⟨w.heap.size,0,_,_,_,rfl,zn,by simp [zdx],by simp [zdx,List.take_of_length_le]⟩) (by rw [zae])) zgx (by omega) ?_
 intro x' w4 hm4 hl4 hx4 hs4
 refine hK x' w4 (by rw [List.flatMap_append,List.flatMap_singleton];exact hm4) ((hxp.mono (by simp)).trans hx4) (fun c hc=>?_)
 rcases hs4 c hc with h | h
 ·exact .inl h
 ·right;have:=hxp.1;omega
theorem qcw {w:World}{H:Heap}{B:Nat}{x:Option Addr×Nat×Nat}{L:List Pr}{p:Pr}{Q:World->Prop}(hp:p.1.length=32) (hw:w.heap=H) (hm:Mine H B zo 33 x (L.flatMap zc2)) (hBs:B<=H.size) (hlen:L.length<=1073741824) (hQ:∀ w',Ext [] H w'.heap->Q w'){K:(Option Addr×Nat×Nat)->World->Prop}
  (hK:∀ x' w',Mine w'.heap B zo 33 x' ((L++[p]).flatMap zc2)->Ext (jf x) H w'.heap->(∀ c∈jf x',c∈jf x\/H.size<=c)->K x' w') :
  zas P (Instr.buildSlice vk 1 #[(0,prV p)]) .slc w fun (t27:(Option Addr×Nat×Nat)) w_13=>Q w_13 /\
  zas P (Builtin.append_ #[vk,vk] vk #[(Value.slice x.1 x.2.1 x.2.2),(Value.slice t27.1 t27.2.1 t27.2.2)]) .slc w_13 K:=by
 have hlx:x.2.1=L.length:=by have:=hm.len;rw [ztg] at this;omega
 rw [zug hp]
 refine zam (s:=.slc) (some ⟨w.heap.size,0,none⟩,1,1) _ (zd7 Ec8 uSc (v:=.agg (zc2 p).toArray) (by simp [Value.cells,zae]) (by omega) (by omega)) ?_
 subst hw
 have hxp:Ext [] w.heap (w.heap.push (.cells (Value.agg (zc2 p).toArray).cells zo)):=.push _
 refine⟨hQ _ hxp,?_⟩
 refine zch (bts:=40) (n:=1) (us:=zc2 p) (H:=w.heap.push (.cells (Value.agg (zc2 p).toArray).cells zo)) Ec8 (by omega) uSc (zbf uSc) rfl (hm.ext hxp (by simp)) (by simp;omega)
  (Src.slc rfl (.inr ⟨w.heap.size,0,_,_,_,rfl,zn,by simp [zdx],by simp [zdx,List.take_of_length_le]⟩) (by rw [zae])) zgx (by omega) ?_
 intro x' w4 hm4 hl4 hx4 hs4
 refine hK x' w4 (by rw [List.flatMap_append,List.flatMap_singleton];exact hm4) ((hxp.mono (by simp)).trans hx4) (fun c hc=>?_)
 rcases hs4 c hc with h | h
 ·exact .inl h
 ·right;have:=hxp.1;omega
theorem z9h {i:Itm}{c:Array Value}{o:Nat}(h32:i.sum.length=32) (hs:o+34<=c.size) (hc:∀ j,j < 34->c[o+j]?=(zcy i)[j]?):c.extract (o+2) (o+2+32)=(byteCells i.sum).toArray:=by
 apply Array.ext_getElem?
 intro j
 rw [Array.getElem?_extract]
 have hl:(byteCells i.sum).length=32:=by simp [h32]
 by_cases hj:j < 32
 ·rw [if_pos (by omega),show o+2+j=o+(j+2) by omega,hc (j+2) (by omega)]
  simp [zcy,Bl.zba h32]
 ·rw [if_neg (by omega),Array.getElem?_eq_none (by simp [hl];omega)]
set_option maxHeartbeats 4000000 in
theorem qae {w:World}{H:Heap}{n:Nod}{xp xi:Option Addr×Nat×Nat}(hw:w.heap=H) (hN:NodW H n xp xi) (hpl:n.parts.length<=65536) (hil:n.items.length<=65) :
  qc P zk0 #[.agg (zca n xp xi).toArray] w fun e w'=>∃ x,e=.returned (zbv x)/\Mine w'.heap H.size qm 33 x ((zhf n).flatMap zc2)/\Ext [] H w'.heap:=by
 refine z0i ?_
 unfold ztz
 refine jv hw fun w1 hw1=>?_
 have hx1:Ext [] H w1.heap:=by rw [hw1];exact .push _
 have hb1:w1.heap[H.size]?=some (.cells (zca n xp xi).toArray zh (0,0)):=by rw [hw1];exact zn
 have s1:=lt_of_get hb1
 refine qx rfl hb1 rfl ?_
 refine zk (qf9 rfl (hN.ext hx1) hpl hil) ?_
 rintro e w2 ⟨x7,rfl,hm2,hx2⟩
 refine⟨x7,rfl,?_⟩
 have h32:=z4r hN
 have hkl:(zs8 n).length<=65601:=by simp [zs8];omega
 rw [z5m]
 generalize zs8 n=I at *
 have hxl:x7.2.1=I.length:=by have:=hm2.len;rw [qia] at this;omega
 have hx02:=hx1.trans hx2
 have s2:=hx2.1
 refine jg (fun (s:(Option Addr×Nat×Nat)×Int) W=>∃ i:Nat,s.2=(i:Int)/\i<=I.length/\Ext [] w2.heap W.heap/\Mine W.heap w2.heap.size qm 33 s.1 (((I.take i).map fun i=>(i.sum,i.kind)).flatMap zc2)) (fun s _=>(I.length-s.2).toNat)
  ⟨0,rfl,Nat.zero_le _,.refl _ _,.inl ⟨rfl,rfl⟩⟩ ?_
 rintro ⟨o,_⟩ W ⟨i,rfl,hi,hx,hmo⟩
 simp only at hmo
 have sW:=hx.1
 refine zq (fun hlt=>?_) (fun hge=>?_)
 ·have hil:i < I.length:=by simp only at hlt;omega
  have hget:=List.getElem?_eq_getElem hil
  have hk32:=h32 _ (List.getElem_mem hil)
  have htake:(I.take (i+1)).map (fun i=>(i.sum,i.kind))=(I.take i).map (fun i=>(i.sum,i.kind))++[((I[i]).sum,(I[i]).kind)]:=by rw [List.take_add_one,hget,List.map_append];rfl
  generalize I[i]=it at hget hk32 htake
  refine jl rfl fun w4 hw4=>?_
  rw [<-hw4] at hx hmo sW
  have hmW:=hm2.ext hx (by simp)
  refine Bl.zcd (i:=i) zai (by omega) hmW.cells hxl hget rfl fun ba oa ca Ta fra _ hba hsa hca _=>?_
  refine Bl.zcd (i:=i) zai (by omega) hmW.cells hxl hget rfl fun b2 o2 c2 T2 fr2 _ hb2 hs2 hc2 _=>?_
  simp only [jo]
  refine zf9 rfl hba (by omega) ?_
  rw [z9h hk32 hsa hca]
  refine je (s:=.int .i64) (t:=it.kind) rfl hb2 (hc2 1 (by omega)) ?_
  refine qp (s:=.any) _ (bPq hk32 it.kind _) ?_
  refine qdz (p:=(it.sum,it.kind)) hk32 rfl hmo sW (by simp;omega) fun x6 w6 hm6 hx6 hs6=>?_
  refine jd ((i+1:Nat):Int) (by simp) (by omega) (by omega) ?_
  have go:=xu hmo
  exact⟨⟨i+1,rfl,by omega,hx.own hx6 (fun c hc hlt=>by have:=go c hc;omega),by rw [htake];exact hm6⟩,by omega⟩
 ·obtain rfl:i=I.length:=by simp only at hge;omega
  rw [List.take_length] at hmo
  exact⟨o,rfl,hmo.mono (by omega),hx02.trans hx⟩
theorem qib {p:Pr}{c:Array Value}{o:Nat}(h32:p.1.length=32) (hs:o+33<=c.size) (hc:∀ j,j < 33->c[o+j]?=(zc2 p)[j]?):c.extract o (o+33)=(zcu p).toArray:=by
 rw [<-zka h32]
 apply Array.ext_getElem?
 intro j
 rw [Array.getElem?_extract]
 by_cases hj:j < 33
 ·rw [if_pos (by omega),hc j hj];simp
 ·rw [if_neg (by omega),Array.getElem?_eq_none (by simp [zae];omega)]
theorem qg1 {w:World}{H:Heap}{a:Option Addr}{l c:Nat}{L:List Pr}{p:Pr}(hw:w.heap=H) (hL:Cells H a (L.flatMap zc2)) (hl:l=L.length) (h32:∀ q∈L,q.1.length=32) (hp:p.1.length=32) (hlen:L.length<=1099511627776) :
  qc P zto #[.slice a l c,prV p] w fun e w'=>e=.returned (.bool (decide (p∈L)))/\Ext [] H w'.heap:=by
 subst hl
 refine z99 ?_
 unfold z4f
 rw [show (prV p).cells=(zcu p).toArray from rfl]
 refine jv hw fun w1 hw1=>?_
 have hx1:Ext [] H w1.heap:=by rw [hw1];exact .push _
 have hb1:w1.heap[H.size]?=some (.cells (zcu p).toArray qm (0,0)):=by rw [hw1];exact zn
 refine jg (fun (s:Int) W=>∃ i:Nat,s=(i:Int)/\i<=L.length/\p∉L.take i/\W.heap=w1.heap) (fun s _=>(L.length-s).toNat) ⟨0,rfl,Nat.zero_le _,by simp,rfl⟩ ?_
 rintro _ W ⟨i,rfl,hi,hno,hW⟩
 have hxW:Ext [] H W.heap:=by rw [hW];exact hx1
 refine zq (fun hlt=>?_) (fun hge=>?_)
 ·have hil:i < L.length:=by omega
  have hget:=List.getElem?_eq_getElem hil
  have hmem:=List.getElem_mem hil
  generalize L[i]=q at hget hmem
  have hq:=h32 q hmem
  refine jl rfl fun w3 hw3=>?_
  have hx3:Ext [] H w3.heap:=by rw [hw3];exact hxW
  have hb3:w3.heap[H.size]?=some (.cells (zcu p).toArray qm (0,0)):=by rw [hw3,hW];exact hb1
  refine Bl.zcd (i:=i) zae (by omega) (hL.ext hx3 (by simp)) rfl hget rfl fun ba oa ca Ta fra _ hba hsa hca _=>?_
  refine zf9 rfl hba hsa ?_
  rw [qib hq hsa hca]
  refine qx rfl hb3 (by simp [zkg hp]) ?_
  refine qp (s:=.bool) _ (qgw hq hp) ?_
  refine zdk (p:=q=p) (by simp) (fun h=>?_) (fun h=>?_)
  ·subst h
   exact⟨by rw [decide_eq_true hmem],hx3⟩
  ·refine jd ((i+1:Nat):Int) (by simp) (by omega) (by omega) ?_
   refine⟨⟨i+1,rfl,by omega,?_,by rw [hw3,hW]⟩,by omega⟩
   rw [List.take_add_one,hget]
   simp only [Option.toList_some,List.mem_append,List.mem_singleton]
   rintro (h' | h')
   ·exact hno h'
   ·exact h h'.symm
 ·rw [List.take_of_length_le (by omega)] at hno
  exact⟨by rw [decide_eq_false hno],hxW⟩
theorem qif {k:List UInt8}{c:Array Value}{o:Nat}(h32:k.length=32) (hs:o+32<=c.size) (hc:∀ j,j < 32->c[o+j]?=(Bl.zbp k)[j]?):c.extract o (o+32)=(byteCells k).toArray:=by
 rw [<-Bl.zba h32]
 apply Array.ext_getElem?
 intro j
 rw [Array.getElem?_extract]
 by_cases hj:j < 32
 ·rw [if_pos (by omega),hc j hj];simp
 ·rw [if_neg (by omega),Array.getElem?_eq_none (by simp [Bl.zaf];omega)]
theorem qfp {w:World}{H:Heap}{a:Option Addr}{l c:Nat}{L:List (List UInt8)}{k:List UInt8}(hw:w.heap=H) (hL:Cells H a (L.flatMap Bl.zbp)) (hl:l=L.length) (h32:∀ q∈L,q.length=32) (hk:k.length=32) (hlen:L.length<=1099511627776) :
  qc P zun #[.slice a l c,arr k] w fun e w'=>e=.returned (.bool (decide (k∈L)))/\Ext [] H w'.heap:=by
 subst hl
 refine z7s ?_
 unfold zzu
 rw [show (arr k).cells=(byteCells k).toArray from rfl]
 refine jv hw fun w1 hw1=>?_
 have hx1:Ext [] H w1.heap:=by rw [hw1];exact .push _
 have hb1:w1.heap[H.size]?=some (.cells (byteCells k).toArray zf (0,0)):=by rw [hw1];exact zn
 refine jg (fun (s:Int) W=>∃ i:Nat,s=(i:Int)/\i<=L.length/\k∉L.take i/\W.heap=w1.heap) (fun s _=>(L.length-s).toNat) ⟨0,rfl,Nat.zero_le _,by simp,rfl⟩ ?_
 rintro _ W ⟨i,rfl,hi,hno,hW⟩
 have hxW:Ext [] H W.heap:=by rw [hW];exact hx1
 refine zq (fun hlt=>?_) (fun hge=>?_)
 ·have hil:i < L.length:=by omega
  have hget:=List.getElem?_eq_getElem hil
  have hmem:=List.getElem_mem hil
  generalize L[i]=q at hget hmem
  have hq:=h32 q hmem
  refine jl rfl fun w3 hw3=>?_
  have hx3:Ext [] H w3.heap:=by rw [hw3];exact hxW
  have hb3:w3.heap[H.size]?=some (.cells (byteCells k).toArray zf (0,0)):=by rw [hw3,hW];exact hb1
  refine Bl.zcd (i:=i) Bl.zaf (by omega) (hL.ext hx3 (by simp)) rfl hget rfl fun ba oa ca Ta fra _ hba hsa hca _=>?_
  refine zf9 rfl hba hsa ?_
  rw [qif hq hsa hca]
  refine qx rfl hb3 (by simp [hk]) ?_
  refine qp (s:=.bool) _ (zry Bl.u27 Bl.u5 Bl.c5 Bl.g27 hq hk) ?_
  refine zdk (p:=q=k) (by simp) (fun h=>?_) (fun h=>?_)
  ·subst h
   exact⟨by rw [decide_eq_true hmem],hx3⟩
  ·refine jd ((i+1:Nat):Int) (by simp) (by omega) (by omega) ?_
   refine⟨⟨i+1,rfl,by omega,?_,by rw [hw3,hW]⟩,by omega⟩
   rw [List.take_add_one,hget]
   simp only [Option.toList_some,List.mem_append,List.mem_singleton]
   rintro (h' | h')
   ·exact hno h'
   ·exact h h'.symm
 ·rw [List.take_of_length_le (by omega)] at hno
  exact⟨by rw [decide_eq_false hno],hxW⟩
theorem z1t {w:World}{H:Heap}{a b:Option Addr}{l c m d:Nat}{L M:List (List UInt8)}(hw:w.heap=H) (hL:Cells H a (L.flatMap Bl.zbp)) (hl:l=L.length) (hM:Cells H b (M.flatMap Bl.zbp)) (hm:m=M.length) (h32:∀ q∈L,q.length=32) (h32':∀ q∈M,q.length=32) (hlen:L.length<=1099511627776) :
  qc P zio #[.slice a l c,.slice b m d] w fun e w'=>e=.returned (.bool (decide (L=M)))/\w'.heap=H:=by
 subst hl hm
 refine zwn ?_
 unfold zpe
 refine zay (fun h=>⟨by rw [decide_eq_false (fun e=>h (by rw [e]))],hw⟩) (fun h=>?_)
 have h:L.length=M.length:=by omega
 refine jg (fun (s:Int) W=>∃ i:Nat,s=(i:Int)/\i<=L.length/\L.take i=M.take i/\W.heap=H) (fun s _=>(L.length-s).toNat) ⟨0,rfl,Nat.zero_le _,by simp,hw⟩ ?_
 rintro _ W ⟨i,rfl,hi,ht,hW⟩
 refine zq (fun hlt=>?_) (fun hge=>?_)
 ·have hil:i < L.length:=by omega
  have hget:=List.getElem?_eq_getElem hil
  have hget2:=List.getElem?_eq_getElem (show i < M.length by omega)
  have hf:=h32 _ (List.getElem_mem hil)
  have hg:=h32' _ (List.getElem_mem (show i < M.length by omega))
  generalize L[i]=f at hget hf
  generalize M[i]=g at hget2 hg
  refine jl hW fun W1 hW1=>?_
  refine Bl.zcd (i:=i) Bl.zaf (by omega) hL rfl hget rfl fun ba oa ca Ta fra _ hba hsa hca _=>?_
  refine Bl.zcd (i:=i) Bl.zaf (by omega) hM rfl hget2 rfl fun b2 o2 c2 T2 fr2 _ hb2 hs2 hc2 _=>?_
  refine zf9 hW1 hba hsa ?_
  rw [qif hf hsa hca]
  refine zf9 hW1 hb2 hs2 ?_
  rw [qif hg hs2 hc2]
  refine qp (s:=.bool) _ (ztr Bl.u27 Bl.u5 Bl.c5 Bl.g27 hf hg) ?_
  by_cases e:f=g
  ·refine jm (by simp [e]) ?_
   refine jd ((i+1:Nat):Int) (by simp) (by omega) (by omega) ?_
   exact⟨⟨i+1,rfl,by omega,by rw [List.take_add_one,List.take_add_one,ht,hget,hget2,e],hW1⟩,by omega⟩
  ·refine zah (by simp [e]) ⟨?_,hW1⟩
   rw [decide_eq_false fun h0=>e ?_]
   rw [h0,hget2] at hget
   exact (Option.some.inj hget).symm
 ·rw [List.take_of_length_le (by omega),List.take_of_length_le (by omega)] at ht
  exact⟨by rw [decide_eq_true ht],hW⟩
def zkk (R:List UInt8) (i:Nat):List UInt8:=R.take i++List.replicate (32-i) 0
theorem zwv {R:List UInt8}{i:Nat}(h:i<=R.length) (hi:i<=32):(zkk R i).length=32:=by simp [zkk];omega
theorem z2f {R:List UInt8}{i:Nat}(h:i < R.length) (hi:i < 32):(zkk R i).set i R[i]=zkk R (i+1):=by
 apply List.ext_getElem?
 intro j
 rw [List.getElem?_set]
 have hl:(zkk R i).length=32:=zwv (by omega) (by omega)
 by_cases hj:i=j
 ·subst hj
  rw [if_pos rfl,if_pos (by omega)]
  simp only [zkk]
  rw [List.getElem?_append_left (by simp;omega),List.getElem?_take,if_pos (by omega),List.getElem?_eq_getElem h]
 ·rw [if_neg hj]
  simp only [zkk]
  by_cases hj2:j < i
  ·rw [List.getElem?_append_left (by simp;omega),List.getElem?_append_left (by simp;omega),List.getElem?_take,List.getElem?_take,if_pos (by omega),if_pos (by omega)]
  ·rw [List.getElem?_append_right (by simp;omega),List.getElem?_append_right (by simp;omega)]
   simp only [List.getElem?_replicate,List.length_take]
   by_cases h3:j < 32
   ·rw [if_pos (by omega),if_pos (by omega)]
   ·rw [if_neg (by omega),if_neg (by omega)]
set_option maxHeartbeats 4000000 in
theorem qbb {w:World}{H:Heap}{b:Nat}{F:List Nat}{s:Rest}(hw:w.heap=H) (hI:znt H b F s) (hF:∀ c∈F,c < H.size) :
  qc P zg9 #[.pointer (some ⟨b,0,none⟩)] w fun e w'=>e=.returned (arr (dgS s).1)/\znt w'.heap b F (dgS s).2/\Ext [b] H w'.heap:=by
 have hbl:=hI.lt
 refine zsz ?_
 unfold zml
 refine jv hw fun w1 hw1=>?_
 have hx1:Ext [] H w1.heap:=by rw [hw1];exact .push _
 have hb1:w1.heap[H.size]?=some (.cells (zc P zf) zf (0,0)):=by rw [hw1];exact zn
 refine jv rfl fun w2 hw2=>?_
 have hx2:Ext [] w1.heap w2.heap:=by rw [hw2];exact .push _
 have hd2:w2.heap[w1.heap.size]?=some (.cells (zc P zf) zf (0,0)):=by rw [hw2];exact zn
 have hx02:=hx1.trans hx2
 have hb2:=hx2.get hb1 (by simp)
 have s1:=lt_of_get hb1
 have s2:=lt_of_get hd2
 have hI2:=hI.ext hx02 (by simp) (by simp)
 rw [qh8] at hb2 hd2
 simp only [zy,jo,Nat.zero_add]
 obtain⟨ec,hld,hec⟩:=hI2.err
 rw [Nat.zero_add] at hld
 refine hld rfl ?_
 cases s with
 | none=>
  refine zay (fun _=>?_) (fun h=>by have:=hec.1 h;simp at this)
  refine qx rfl hd2 (by simp [Bl.nought]) ?_
  refine z2t Bl.za4 rfl hb2 (by simp [Bl.nought]) fun w3 hw3=>?_
  have hx3:Ext [H.size] w2.heap w3.heap:=by rw [hw3];exact Ext.set _ (by simp)
  have hb3:w3.heap[H.size]?=some (.cells (byteCells Bl.nought).toArray zf (0,0)):=by rw [hw3];exact qg hb2
  refine qx rfl hb3 (by simp [Bl.nought]) ?_
  refine⟨rfl,hI2.ext hx3 (by simp;omega) (fun c hc h=>by simp at h;subst h;have:=hF _ hc;omega),(hx02.mono (by simp)).own hx3 (fun c hc hlt=>by simp at hc;omega)⟩
 | some R=>
 refine jm (by rw [hec.2 rfl];rfl) ?_
 refine zk (z95 rfl hI2) ?_
 rintro e w4 ⟨rfl,hw4⟩
 refine⟨(R.length:Int),rfl,?_⟩
 have hx4:Ext [] H w4.heap:=by rw [hw4];exact hx02
 have hI4:znt w4.heap b F (some R):=by rw [hw4];exact hI2
 have hb4:w4.heap[H.size]?=some (.cells (byteCells Bl.nought).toArray zf (0,0)):=by rw [hw4];exact hb2
 have hd4:w4.heap[w1.heap.size]?=some (.cells (byteCells Bl.nought).toArray zf (0,0)):=by rw [hw4];exact hd2
 refine zq (fun hlt=>?_) (fun hge=>?_)
 ·have he:dgS (some R)=(Bl.nought,none):=by unfold dgS;simp only;rw [if_neg (by omega)]
  refine zk (qap 20 rfl hI4 (by omega)) ?_
  rintro e w5 ⟨rfl,h5,hx5⟩
  refine⟨(),rfl,?_⟩
  have hd5:=hx5.get hd4 (by simp;omega)
  have hb5:=hx5.get hb4 (by simp;omega)
  refine qx rfl hd5 (by simp [Bl.nought]) ?_
  refine z2t Bl.za4 rfl hb5 (by simp [Bl.nought]) fun w6 hw6=>?_
  have hx6:Ext [H.size] w5.heap w6.heap:=by rw [hw6];exact Ext.set _ (by simp)
  have hb6:w6.heap[H.size]?=some (.cells (byteCells Bl.nought).toArray zf (0,0)):=by rw [hw6];exact qg hb5
  refine qx rfl hb6 (by simp [Bl.nought]) ?_
  rw [he]
  exact⟨rfl,h5.ext hx6 (by simp;omega) (fun c hc h=>by simp at h;subst h;have:=hF _ hc;omega),((hx4.mono (by simp)).trans hx5).own hx6 (fun c hc hlt=>by simp at hc;omega)⟩
 have hR32:32<=R.length:=by omega
 have he:dgS (some R)=(R.take 32,some (R.drop 32)):=by unfold dgS;simp only;rw [if_pos hR32]
 refine jg (fun (t:Int) W=>∃ i:Nat,t=(i:Int)/\i<=32/\znt W.heap b F (some R)/\Ext [w1.heap.size] w4.heap W.heap/\W.heap[w1.heap.size]?=some (.cells (byteCells (zkk R i)).toArray zf (0,0))) (fun t _=>(32-t).toNat)
  ⟨0,rfl,by omega,hI4,.refl _ _,hd4⟩ ?_
 rintro _ W ⟨i,rfl,hi,hIW,hxW,hdW⟩
 refine zq (fun hlt=>?_) (fun hdone=>?_)
 ·have hi32:i < 32:=by omega
  refine jl rfl fun w8 hw8=>?_
  have hI8:znt w8.heap b F (some R):=by rw [hw8];exact hIW
  have hd8:w8.heap[w1.heap.size]?=some (.cells (byteCells (zkk R i)).toArray zf (0,0)):=by rw [hw8];exact hdW
  have hx8:Ext [w1.heap.size] w4.heap w8.heap:=by rw [hw8];exact hxW
  obtain⟨x,j,ee,B,g1,g2,g3,g4,g5,g6,g7,g8,rfl,hR⟩:=id hI8
  refine je (s:=.slc) (t:=x) rfl g1 rfl ?_
  refine je (s:=.int .i64) (t:=(j:Int)) rfl g1 rfl ?_
  have hRl:R.length=B.length-j:=by rw [hR];simp
  refine jd ((j+i:Nat):Int) (by omega) (by omega) (by omega) ?_
  obtain⟨b9,o9,c9,T9,fr9,hx9,hb9,ho9,hby⟩:=g4.bytes (fun (h:B=[])=>absurd (congrArg List.length h) (by simp only [List.length_nil];omega))
  rw [hx9]
  refine zkt (j+i) rfl (by omega) ?_
  have hget:B.getD (j+i) 0=R[i]'(by omega):=by
   have h1:B[j+i]?=R[i]?:=by rw [hR,List.getElem?_drop]
   rw [List.getD_eq_getElem?_getD,h1,List.getElem?_eq_getElem (by omega)]
   rfl
  refine je (s:=.int .u8) (t:=((R[i]'(by omega)).toNat:Int)) rfl hb9 (by have:=hby (j+i) (by omega);simp only [hget] at this;exact this) ?_
  refine zen i rfl (by omega) ?_
  refine za9 rfl hd8 (by simp [zwv (show i<=R.length by omega) (show i<=32 by omega)];omega) fun w10 hw10=>?_
  have hset:(byteCells (zkk R i)).toArray.setIfInBounds i (.int .u8 ((R[i]'(by omega)).toNat:Int))=(byteCells (zkk R (i+1))).toArray:=by
   rw [<-z2f (show i < R.length by omega) hi32]
   simp [byteCells,List.map_set]
  rw [hset] at hw10
  have hx10:Ext [w1.heap.size] w8.heap w10.heap:=by rw [hw10];exact Ext.set _ (by simp)
  refine jd ((i+1:Nat):Int) (by simp) (by omega) (by omega) ?_
  exact⟨⟨i+1,rfl,by omega,hI8.ext hx10 (by simp;omega) (fun c hc h=>by simp at h;subst h;have:=hF _ hc;omega),hx8.trans hx10,by rw [hw10];exact qg hd8⟩,by omega⟩
 ·obtain rfl:i=32:=by omega
  obtain⟨x,j,ee,B,g1,g2,g3,g4,g5,g6,g7,g8,rfl,hR⟩:=id hIW
  have hRl:R.length=B.length-j:=by rw [hR];simp
  refine je (s:=.int .i64) (t:=(j:Int)) rfl g1 rfl ?_
  refine jd ((j+32:Nat):Int) (by omega) (by omega) (by omega) ?_
  refine za9 rfl g1 (by simp) fun w10 hw10=>?_
  have hx10:Ext [b] W.heap w10.heap:=by rw [hw10];exact Ext.set _ (by simp)
  have hI10:znt w10.heap b F (some (R.drop 32)):=⟨x,j+32,0,B,by rw [hw10];exact qg g1,g2,g3,zkv g4 hx10 g3 (fun d hd h=>by simp at h;subst h;exact g2 hd),g5,g6,g7,by omega,rfl,by rw [hR,List.drop_drop]⟩
  have hd10:=hx10.get hdW (by simp;omega)
  have e32:zkk R 32=R.take 32:=by simp [zkk]
  rw [e32] at hd10
  have hl32:(R.take 32).length=32:=by simp;omega
  refine qx rfl hd10 (by simp [hl32]) ?_
  have hb10:=hx10.get (hxW.get hb4 (by simp;omega)) (by simp;omega)
  refine z2t hl32 rfl hb10 (by simp [Bl.nought]) fun w11 hw11=>?_
  have hx11:Ext [H.size] w10.heap w11.heap:=by rw [hw11];exact Ext.set _ (by simp)
  have hb11:w11.heap[H.size]?=some (.cells (byteCells (R.take 32)).toArray zf (0,0)):=by rw [hw11];exact qg hb10
  refine qx rfl hb11 (by simp [hl32]) ?_
  rw [he]
  refine⟨rfl,hI10.ext hx11 (by simp;omega) (fun c hc h=>by simp at h;subst h;have:=hF _ hc;omega),?_⟩
  have h04:Ext [b] H W.heap:=(hx4.mono (by simp)).own hxW (fun c hc hlt=>by simp at hc;omega)
  exact (h04.trans hx10).own hx11 (fun c hc hlt=>by simp at hc;omega)
def zpa (T:List Itm) (i:Nat):List UInt8:=if i=0 then [] else ((T[i-1]?).map (·.name)).getD []
set_option maxHeartbeats 8000000 in
theorem z5w {w:World}{H:Heap}{n:Nod}{xp xi:Option Addr×Nat×Nat}(hw:w.heap=H) (hN:NodW H n xp xi) (hnn:∀ i∈n.items,i.name.length<=9223372036854775807) :
  qc P zlg #[.agg (zca n xp xi).toArray] w fun e w'=>e=.returned (.bool (zar n))/\Ext [] H w'.heap:=by
 obtain⟨g1,g2,g3,g4,g5,g6⟩:=hN
 refine z1q ?_
 unfold zvy
 refine jv hw fun w1 hw1=>?_
 have hx1:Ext [] H w1.heap:=by rw [hw1];exact .push _
 have hb1:w1.heap[H.size]?=some (.cells (zca n xp xi).toArray zh (0,0)):=by rw [hw1];exact zn
 refine je (s:=.int .i64) (t:=n.kind) rfl hb1 rfl ?_
 have hle:∀ {k:Nat},(((k:Int)==0)=true) ↔ k=0:=by intro k;simp
 refine zax (fun h1=>?_) (fun h1=>?_)
 ·have hf:∀ {p:Prop},(¬(0 < n.data.length/\n.data.length<=64/\n.size=0/\n.parts.length=0/\n.items.length=0))->(Ending.returned (.bool false)=.returned (.bool (zar n))/\Ext [] H w1.heap):=by
   intro p h
   exact⟨by rw [zar,if_pos h1,decide_eq_false h],hx1⟩
  refine je (s:=.str) (t:=strOf n.data) rfl hb1 rfl ?_
  refine zq (fun h2=>?_) (fun h2=>hf (p:=True) fun h=>h2 (by simp;omega))
  refine je (s:=.str) (t:=strOf n.data) rfl hb1 rfl ?_
  refine zq (fun h3=>?_) (fun h3=>hf (p:=True) fun h=>h3 (by simp;omega))
  refine je (s:=.int .i64) (t:=n.size) rfl hb1 rfl ?_
  refine zax (fun h4=>?_) (fun h4=>hf (p:=True) fun h=>h4 h.2.2.1)
  refine je (s:=.slc) (t:=xp) rfl hb1 rfl ?_
  refine zax (fun h5=>?_) (fun h5=>hf (p:=True) fun h=>h5 (by omega))
  refine je (s:=.slc) (t:=xi) rfl hb1 rfl ?_
  refine⟨?_,hx1⟩
  rw [zar,if_pos h1]
  congr 2
  rw [Bool.eq_iff_iff,hle,decide_eq_true_eq,g4]
  simp at h2 h3
  exact⟨fun h=>⟨by omega,by omega,h4,by omega,h⟩,fun h=>h.2.2.2.2⟩
 refine je (s:=.str) (t:=strOf n.data) rfl hb1 rfl ?_
 refine zdk (p:=¬n.data=[]) (by rw [Bool.not_eq_true',<-Bool.not_eq_true,zjn]) (fun h2=>⟨by
  have:zar n=false:=by
   unfold zar;rw [if_neg h1]
   split
   ·exact decide_eq_false fun h=>h2 h.1
   ·split
    ·rw [decide_eq_false fun h=>h2 h.1];rfl
    ·rfl
  rw [this],hx1⟩) (fun h2=>?_)
 have hdat:n.data=[]:=Decidable.byContradiction h2
 refine je (s:=.int .i64) (t:=n.kind) rfl hb1 rfl ?_
 refine zax (fun h2=>?_) (fun h2=>?_)
 ·have hf:(¬(n.data=[]/\0<=n.size/\n.size<=1024/\(n.parts.length:Int)=zkc n.size/\n.items.length=0))->(Ending.returned (.bool false)=.returned (.bool (zar n))/\Ext [] H w1.heap):=by
   intro h
   exact⟨by rw [zar,if_neg h1,if_pos h2,decide_eq_false h],hx1⟩
  refine Go.Fw.joinP_of (fun _ W=>W=w1/\0<=n.size/\n.size<=1024/\n.items.length=0) ?_ ?_
  ·refine je (s:=.int .i64) (t:=n.size) rfl hb1 rfl ?_
   refine zq (fun h3=>hf fun h=>by omega) (fun h3=>?_)
   refine je (s:=.int .i64) (t:=n.size) rfl hb1 rfl ?_
   refine zq (fun h4=>hf fun h=>by omega) (fun h4=>?_)
   refine je (s:=.slc) (t:=xi) rfl hb1 rfl ?_
   refine zay (fun h5=>hf fun h=>h5 (by omega)) (fun h5=>⟨rfl,by omega,by omega,by omega⟩)
  rintro _ W ⟨hW,k1,k2,k3⟩
  subst hW
  refine je (s:=.int .i64) (t:=n.size) rfl hb1 rfl ?_
  refine jg (fun (s:Int×Int) W'=>∃ k:Nat,s=((k:Int),n.size-64 * k)/\(k:Int)<=zkc n.size/\W'=W) (fun s _=>(s.2+64).toNat) ⟨0,by simp,by unfold zkc;omega,rfl⟩ ?_
  rintro _ W' ⟨k,rfl,hk,hW'⟩
  subst hW'
  unfold zkc at hk
  refine zq (fun hlt=>?_) (fun hge=>?_)
  ·have hlt:n.size-64 * (k:Int) > 0:=hlt
   refine jd ((k+1:Nat):Int) (by simp) (by omega) (by omega) ?_
   refine zb0 (n.size-64 * ((k+1:Nat):Int)) (by simp only;omega) (by omega) (by omega) ?_
   exact⟨⟨k+1,rfl,by unfold zkc;omega,rfl⟩,by simp only;omega⟩
  ·have hge:¬n.size-64 * (k:Int) > 0:=hge
   refine je (s:=.slc) (t:=xp) rfl hb1 rfl ?_
   refine⟨?_,hx1⟩
   rw [zar,if_neg h1,if_pos h2]
   congr 2
   rw [Bool.eq_iff_iff,decide_eq_true_eq,g2]
   unfold zkc
   simp only [beq_iff_eq]
   constructor
   ·intro h;exact⟨hdat,k1,k2,by omega,k3⟩
   ·intro h;have:=h.2.2.2.1;omega
 refine Go.Fw.joinP_of (fun _ W=>W=w1/\n.kind=3/\n.size=0/\n.parts.length=0/\n.items.length<=64) ?_ ?_
 ·refine je (s:=.int .i64) (t:=n.kind) rfl hb1 rfl ?_
  refine zay (fun h3=>⟨by rw [zar,if_neg h1,if_neg h2,if_neg h3],hx1⟩) (fun h3=>?_)
  have hf:¬(n.data=[]/\n.size=0/\n.parts.length=0)->(Ending.returned (.bool false)=.returned (.bool (zar n))/\Ext [] H w1.heap):=by
   intro h
   exact⟨by rw [zar,if_neg h1,if_neg h2,if_pos h3,decide_eq_false h];rfl,hx1⟩
  refine je (s:=.int .i64) (t:=n.size) rfl hb1 rfl ?_
  refine zay (fun h4=>hf fun h=>h4 h.2.1) (fun h4=>?_)
  refine je (s:=.slc) (t:=xp) rfl hb1 rfl ?_
  refine zay (fun h5=>hf fun h=>h5 (by omega)) (fun h5=>?_)
  refine je (s:=.slc) (t:=xi) rfl hb1 rfl ?_
  refine zq (fun h6=>⟨?_,hx1⟩) (fun h6=>⟨rfl,h3,h4,by omega,by omega⟩)
  rw [zar,if_neg h1,if_neg h2,if_pos h3,zh8,decide_eq_false (show ¬n.items.length<=64 by omega)]
  simp
 rintro _ W0 ⟨hW0,h3,k4,k5,k6⟩
 subst hW0
 have hr0:zar n=zfd [] n.items:=by
  rw [zar,if_neg h1,if_neg h2,if_pos h3,zh8,decide_eq_true (show n.data=[]/\n.size=0/\n.parts.length=0 from ⟨hdat,k4,k5⟩),decide_eq_true k6]
  simp
 rw [hr0]
 refine jg (fun (s:Int) W=>∃ i:Nat,s=(i:Int)/\i<=n.items.length/\zfd [] n.items=zfd (zpa n.items i) (n.items.drop i)/\Ext [] W0.heap W.heap) (fun s _=>(n.items.length-s).toNat)
  ⟨0,rfl,Nat.zero_le _,by simp [zpa],.refl _ _⟩ ?_
 rintro _ W ⟨i,rfl,hi,hr,hxW⟩
 have hbW:=hxW.get hb1 (by simp)
 have hx0W:=hx1.trans hxW
 refine je (s:=.slc) (t:=xi) rfl hbW rfl ?_
 refine zq (fun hlt=>?_) (fun hge=>?_)
 ·have hil:i < n.items.length:=by omega
  have hget:=List.getElem?_eq_getElem hil
  have hmem:n.items[i]∈n.items:=List.getElem_mem hil
  rw [List.drop_eq_getElem_cons hil] at hr
  have hpn:zpa n.items (i+1)=(n.items[i]).name:=by simp [zpa,hget]
  generalize n.items[i]=v at hget hmem hr hpn
  have hvn:=hnn v hmem
  have hfalse:∀ {W':World},Ext [] H W'.heap->zfd (zpa n.items i) (v :: n.items.drop (i+1))=false->(Ending.returned (.bool false)=.returned (.bool (zfd [] n.items))/\Ext [] H W'.heap):=by
   intro W' hx h
   exact⟨by rw [hr,h],hx⟩
  refine Go.Fw.joinP_of (fun _ W'=>Ext [] W0.heap W'.heap/\zfd (zpa n.items i) (v :: n.items.drop (i+1))=zfd v.name (n.items.drop (i+1))) ?_ ?_
  rotate_left
  ·rintro _ W' ⟨hx',he⟩
   refine jd ((i+1:Nat):Int) (by simp) (by omega) (by omega) ?_
   exact⟨⟨i+1,rfl,by omega,by rw [hpn,hr,he],hx'⟩,by omega⟩
  refine Go.Fw.joinP_of (fun _ W'=>Ext [] W0.heap W'.heap/\zfd (zpa n.items i) (v :: n.items.drop (i+1))=zfd v.name (n.items.drop (i+1))) ?_ (fun _ W' h=>h)
  refine je (s:=.slc) (t:=xi) rfl hbW rfl ?_
  refine zce (i:=i) zai (by omega) rfl (g3.ext hx0W (by simp)) g4 hget rfl ?_
  refine qgb v rfl fun w7 hw7=>?_
  have hx7:Ext [] W.heap w7.heap:=by rw [hw7];exact .push _
  have hb7:w7.heap[W.heap.size]?=some (.cells (zcy v).toArray zx (0,0)):=by rw [hw7];exact zn
  refine jl rfl fun w8 hw8=>?_
  rw [<-hw8] at hx7 hb7
  have hx08:=hx0W.trans hx7
  have hbW8:=hx7.get hbW (by simp)
  refine je (s:=.str) (t:=strOf v.name) rfl hb7 rfl ?_
  refine zk (qe1 v.name hvn) ?_
  rintro e w9 ⟨rfl,rfl⟩
  refine⟨zcz v.name,rfl,?_⟩
  refine zdk (p:=¬zcz v.name=true) (by simp) (fun h=>hfalse hx08 (by simp [zfd,h])) (fun h=>?_)
  have hok:zcz v.name=true:=by simpa using h
  have hend:(v.kind=2\/v.kind=3)->xq (decide ((i:Int) > 0)) (
    zln .i64 (i:Int) 1 fun t123=>
    ld .slc (⟨H.size,4,none⟩:Addr) w9 fun (t121:(Option Addr×Nat×Nat))=>
    ixS t121.1 t121.2.1 34 t123 fun t124=>
    ld .str t124 w9 fun (t126:ByteArray)=>
    ld .str (⟨W.heap.size,0,none⟩:Addr) w9 fun (t128:ByteArray)=>
    xq (!(Op.bytesLess t126.toList t128.toList)) (
    Ending.returned (.bool false)=.returned (.bool (zfd [] n.items))/\Ext [] H w9.heap) (
    Ext [] W0.heap w9.heap/\zfd (zpa n.items i) (v :: n.items.drop (i+1))=zfd v.name (n.items.drop (i+1)))) (
    Ext [] W0.heap w9.heap/\zfd (zpa n.items i) (v :: n.items.drop (i+1))=zfd v.name (n.items.drop (i+1))):=by
   intro hk
   have good:Lib.compareBytes (zpa n.items i) v.name < 0->Ext [] W0.heap w9.heap/\zfd (zpa n.items i) (v :: n.items.drop (i+1))=zfd v.name (n.items.drop (i+1)):=by
    intro hlt
    refine⟨hxW.trans hx7,?_⟩
    rcases hk with hk | hk <;> simp [zfd,hlt,hok,hk]
   refine zq (fun hpos=>?_) (fun hz=>?_)
   ·have hpos:0 < i:=by omega
    have hget2:=List.getElem?_eq_getElem (show i-1 < n.items.length by omega)
    have hpv:zpa n.items i=(n.items[i-1]).name:=by simp [zpa,hget2,show i≠0 by omega]
    generalize n.items[i-1]=u at hget2 hpv
    refine zb0 ((i-1:Nat):Int) (by omega) (by omega) (by omega) ?_
    refine je (s:=.slc) (t:=xi) rfl hbW8 rfl ?_
    refine Bl.zcd (i:=i-1) zai (by omega) (g3.ext hx08 (by simp)) g4 hget2 rfl fun b2 o2 c2 T2 fr2 _ hb2 hs2 hc2 _=>?_
    refine je (s:=.str) (t:=strOf u.name) rfl hb2 (hc2 0 (by omega)) ?_
    refine je (s:=.str) (t:=strOf v.name) rfl hb7 rfl ?_
    refine zdk (p:=¬Lib.compareBytes u.name v.name < 0) (by rw [bytesLess_eq,zei,zei,zfv];simp) (fun h=>hfalse hx08 (by rw [hpv];simp [zfd,h])) (fun h=>good (by rw [hpv];exact Decidable.byContradiction h))
   ·obtain rfl:i=0:=by omega
    refine good ?_
    have:=(zed.1 hok).1.1
    cases hl:v.name with
    | nil=>exact absurd hl this
    | cons a b=>simp [zpa,Lib.compareBytes]
  refine je (s:=.int .i64) (t:=v.kind) rfl hb7 rfl ?_
  refine zay (fun hk2=>?_) (fun hk2=>hend (.inl hk2))
  refine je (s:=.int .i64) (t:=v.kind) rfl hb7 rfl ?_
  refine zay (fun hk3=>hfalse hx08 (by simp [zfd,hk2,hk3])) (fun hk3=>hend (.inr hk3))
 ·obtain rfl:i=n.items.length:=by omega
  rw [List.drop_length] at hr
  exact⟨by rw [hr];rfl,hx0W⟩
theorem qk8 (x:Option Addr×Nat×Nat) (w:World):(Instr.build znf #[(0,.slice x.1 x.2.1 x.2.2)]).run P w=.ok (.agg #[zbv x,.int .i64 0,.int .i64 0]) w:=by kernel_rfl
theorem zuy:∀ {l:List Itm}{last:List UInt8},zfd last l=true->∀ i∈l,i.kind=2\/i.kind=3
 | [],_,_=>by simp
 | i :: r,last,h=>by
  simp only [zfd,Bool.and_eq_true,Bool.or_eq_true,decide_eq_true_eq] at h
  intro j hj
  rcases List.mem_cons.1 hj with rfl | hj
  ·exact h.1.2
  ·exact zuy h.2 j hj
theorem zxe {s:Rest}{i:Nat}:∀ {M:Nat},i < M->(zs4 (zbo i s).2).1∈(zbo M s).1
 | 0,h=>by omega
 | M+1,h=>by
  rw [zbo]
  by_cases e:i=M
  ·subst e;simp
  ·exact List.mem_append.2 (.inl (zxe (by omega)))
theorem qke {s:Rest}(h1:min (nmS s).1 9=2) (h:1024 < (nmS (nmS s).2).1):zar (zao s).1=false:=by
 unfold zao
 rw [if_neg (by omega),if_pos h1]
 unfold zar
 rw [if_neg (show ¬((2:Int)=1) by decide),if_pos rfl]
 refine decide_eq_false fun h2=>?_
 have:=h2.2.2.1
 simp only at this
 omega
theorem qh6 {s:Rest}(h1:min (nmS s).1 9=3) (h:64 < (nmS (nmS s).2).1):zar (zao s).1=false:=by
 unfold zao
 rw [if_neg (by omega),if_neg (by omega),if_pos h1]
 unfold zar
 rw [if_neg (show ¬((3:Int)=1) by decide),if_neg (show ¬((3:Int)=2) by decide),if_pos rfl,zh8,decide_eq_false (show ¬(zbo (min (nmS (nmS s).2).1 65) (nmS (nmS s).2).2).1.length<=64 by rw [zkj];omega)]
 simp
theorem qi4 {s:Rest}(h1:min (nmS s).1 9=3){i:Nat}(hi:i < min (nmS (nmS s).2).1 65) (hk:3 < (zs4 (zbo i (nmS (nmS s).2).2).2).1.kind):zar (zao s).1=false:=by
 rw [<-Bool.not_eq_true]
 intro h
 unfold zao at h
 rw [if_neg (by omega),if_neg (by omega),if_pos h1] at h
 unfold zar at h
 rw [if_neg (show ¬((3:Int)=1) by decide),if_neg (show ¬((3:Int)=2) by decide),if_pos rfl] at h
 simp only [zh8,Bool.and_eq_true] at h
 have:=zuy h.2.1 _ (zxe hi)
 omega
theorem other {s:Rest}(h1:min (nmS s).1 9≠1) (h2:min (nmS s).1 9≠2) (h3:min (nmS s).1 9≠3):zar (zao s).1=false:=by
 unfold zao
 rw [if_neg h1,if_neg h2,if_neg h3]
 unfold zar
 simp only
 rw [if_neg (by omega),if_neg (by omega),if_neg (by omega)]
set_option maxHeartbeats 8000000 in
theorem z1v {w:World}{H:Heap}{a:Option Addr}{n nc:Nat}{L:List UInt8}(hw:w.heap=H) (hL:Cells H a (byteCells L)) (hn:n=L.length) (hcap:n<=nc) (hl:L.length<=1099511627776) :
  qc P zjl #[.slice a n nc] w fun e w'=>∃ xp xi,e=.returned (.tuple #[.agg (zca (zcg L).1 xp xi).toArray,.bool (decide ((zcg L).2=0))])/\NodM w'.heap H.size (zcg L).1 xp xi/\Ext [] H w'.heap:=by
 refine zyl ?_
 unfold zsb
 refine jv hw fun w1 hw1=>?_
 have hx1:Ext [] H w1.heap:=by rw [hw1];exact .push _
 have hd1:w1.heap[H.size]?=some (.cells (zc P zh) zh (0,0)):=by rw [hw1];exact zn
 have s1:=lt_of_get hd1
 refine qp (s:=.any) _ (qk8 (a,n,nc) _) ?_
 refine jv rfl fun w2 hw2=>?_
 have hx2:Ext [] w1.heap w2.heap:=by rw [hw2];exact .push _
 have hr2:w2.heap[w1.heap.size]?=some (.cells #[zbv (a,n,nc),.int .i64 0,.int .i64 0] znf (0,0)):=by rw [hw2];exact zn
 have s2:=lt_of_get hr2
 refine qp (s:=.any) _ (bN0 _) ?_
 refine z8c zd1 (none,0,0) (none,0,0) rfl fun w4 hw4=>?_
 have hx4:Ext [] w2.heap w4.heap:=by rw [hw4];exact .push _
 have hn4:w4.heap[w2.heap.size]?=some (.cells (zca zd1 (none,0,0) (none,0,0)).toArray zh (0,0)):=by rw [hw4];exact zn
 have s4:=lt_of_get hn4
 have hx04:=(hx1.trans hx2).trans hx4
 have hd4:=(hx2.trans hx4).get hd1 (by simp)
 obtain⟨F,hI4,hF⟩:∃ F,znt w4.heap w1.heap.size F (some L)/\∀ c∈F,c < H.size:=by
  have hr4:=hx4.get hr2 (by simp)
  rcases id hL with h | ⟨b0,o,c,T,fr,ha,hb,_⟩
  ·have h0:L=[]:=by cases L with | nil=>rfl | cons _ _=>simp [byteCells] at h
   subst h0
   exact⟨[],⟨(a,n,nc),0,0,[],hr4,by simp,fun h=>absurd rfl h,.inl rfl,hn,hcap,by simp,by simp,rfl,rfl⟩,by simp⟩
  ·have hlt:=lt_of_get hb
   exact⟨[b0],⟨(a,n,nc),0,0,L,hr4,by simp;omega,fun _ c hc=>by simp [jf,ha] at hc;simp [hc],hL.ext hx04 (by simp),hn,hcap,hl,by simp,rfl,rfl⟩,by simp;exact hlt⟩
 generalize hbe:w1.heap.size=b at *
 generalize hce:w2.heap.size=c5 at *
 have bn:c5≠b:=by omega
 have fn:∀ c∈F,c5≠c:=fun c hc=>by have:=hF c hc;omega
 have hdec:zcg L=if (zao (some L)).2=some []/\zar (zao (some L)).1=true then ((zao (some L)).1,0) else (zd1,21):=rfl
 have bad:∀ {W:World},¬((zao (some L)).2=some []/\zar (zao (some L)).1=true)->Ext [] H W.heap->W.heap[H.size]?=some (.cells (zc P zh) zh (0,0)) ->
   za7 P (Instr.build zh #[]) .any W fun (t:Value)=>zbz P (storeVar zh (⟨H.size,0,none⟩:Addr) t) W fun w2=>ldA P 5 (⟨H.size,0,none⟩:Addr) w2 fun t4=>
    ∃ xp xi,Ending.returned (.tuple #[.agg t4,.bool false])=.returned (.tuple #[.agg (zca (zcg L).1 xp xi).toArray,.bool (decide ((zcg L).2=0))])/\NodM w2.heap H.size (zcg L).1 xp xi/\Ext [] H w2.heap:=by
  intro W h hx hd
  refine znj (R:=fun t4 w2=>∃ xp xi,Ending.returned (.tuple #[.agg t4,.bool false])=.returned (.tuple #[.agg (zca (zcg L).1 xp xi).toArray,.bool (decide ((zcg L).2=0))])/\NodM w2.heap H.size (zcg L).1 xp xi/\Ext [] H w2.heap) rfl hd fun w' hx'=>?_
  rw [hdec,if_neg h]
  exact⟨_,_,rfl,.bare rfl rfl,hx.own hx' (fun c hc hlt=>by simp at hc;omega)⟩
 refine zk (zzp rfl hI4) ?_
 rintro e w5 ⟨rfl,hI5,hx5⟩
 refine⟨((nmS (some L)).1:Int),rfl,?_⟩
 have s5:=hx5.1
 have hn5:=hx5.get hn4 (by simp;exact bn)
 have hd5:=hx5.get hd4 (by simp;omega)
 have hx05:Ext [] H w5.heap:=hx04.own hx5 (fun c hc hlt=>by simp at hc;omega)
 have nil2:∀ {W:World},Mine W.heap w4.heap.size zf 32 (none,0,0) (([]:List (List UInt8)).flatMap Bl.zbp)/\Mine W.heap w4.heap.size zx 34 (none,0,0) (([]:List Itm).flatMap zcy):=⟨.inl ⟨rfl,rfl⟩,.inl ⟨rfl,rfl⟩⟩
 refine Go.Fw.joinP_of (fun _ W=>∃ n' s' xp xi,W.heap[c5]?=some (.cells (zca n' xp xi).toArray zh (0,0))/\(Mine W.heap w4.heap.size zf 32 xp (n'.parts.flatMap Bl.zbp)/\Mine W.heap w4.heap.size zx 34 xi (n'.items.flatMap zcy))/\znt W.heap b F s'/\Ext [] H W.heap/\W.heap[H.size]?=some (.cells (zc P zh) zh (0,0)) /\
  ((n'=(zao (some L)).1/\s'=(zao (some L)).2)\/(n'=zd1/\zar (zao (some L)).1=false))) ?_ ?_
 rotate_left
 ·rintro _ W ⟨n',s',xp,xi,h1,h2,h3,h4,hd,hval⟩
  have hNM:NodM W.heap w4.heap.size n' xp xi:=by
   rcases hval with⟨rfl,_⟩ | ⟨rfl,_⟩
   ·exact⟨h2.1,h2.2,zpf.1,zpf.2⟩
   ·exact⟨h2.1,h2.2,by simp [zd1],by simp [zd1]⟩
  have hnm:∀ i∈n'.items,i.name.length<=16:=by
   rcases hval with⟨rfl,_⟩ | ⟨rfl,_⟩
   ·exact zhy.2.1
   ·simp [zd1]
  have no0:zar zd1=false:=by decide
  have hno:¬(s'=some []/\zar n'=true)->¬((zao (some L)).2=some []/\zar (zao (some L)).1=true):=by
   rcases hval with⟨rfl,rfl⟩ | ⟨rfl,h⟩
   ·exact id
   ·intro _ h';rw [h] at h';cases h'.2
  refine Go.Fw.joinP_of (fun _ W'=>Ext [] W.heap W'.heap/\s'=some []/\zar n'=true) ?_ ?_
  ·obtain⟨ec,hld,hec⟩:=h3.err
   refine hld rfl ?_
   cases s' with
   | none=>exact zay (fun _=>bad (hno (by simp)) h4 hd) (fun h=>by have:=hec.1 h;simp at this)
   | some R=>
    refine jm (by rw [hec.2 rfl];rfl) ?_
    refine zk (z95 rfl h3) ?_
    rintro e w6 ⟨rfl,hw6⟩
    refine⟨(R.length:Int),rfl,?_⟩
    have h46:Ext [] H w6.heap:=by rw [hw6];exact h4
    have hx6:Ext [] W.heap w6.heap:=by rw [hw6];exact .refl _ _
    have hd6:=hx6.get hd (by simp)
    refine zay (fun h=>bad (hno fun h'=>by have:=h'.1;simp at this;subst this;simp at h) h46 hd6) (fun h=>?_)
    have hR0:R=[]:=List.eq_nil_of_length_eq_zero (by omega)
    refine qx rfl (hx6.get h1 (by simp)) rfl ?_
    refine zk (z5w rfl (hNM.nodW.ext hx6) (fun i hi=>by have:=hnm i hi;omega)) ?_
    rintro e w8 ⟨rfl,hx8⟩
    refine⟨zar n',rfl,?_⟩
    cases hr:zar n' with
    | true=>exact jm rfl ⟨hx6.trans hx8,by rw [hR0],rfl⟩
    | false=>exact zah rfl (bad (hno fun h'=>by rw [hr] at h';cases h'.2) (h46.trans hx8) (hx8.get hd6 (by simp)))
  ·rintro _ W' ⟨hx,hs',hok⟩
   have hn':n'=(zao (some L)).1/\s'=(zao (some L)).2:=by
    rcases hval with h | ⟨rfl,_⟩
    ·exact h
    ·rw [no0] at hok;cases hok
   obtain⟨rfl,rfl⟩:=hn'
   refine qx rfl (hx.get h1 (by simp)) rfl ?_
   refine stN _ xp xi rfl (hx.get hd (by simp)) zcN fun w11 hw11=>?_
   have hx11:Ext [H.size] W'.heap w11.heap:=by rw [hw11];exact Ext.set _ (by simp)
   have hd11:w11.heap[H.size]?=some (.cells (zca (zao (some L)).1 xp xi).toArray zh (0,0)):=by rw [hw11];exact qg (hx.get hd (by simp))
   refine qx rfl hd11 rfl ?_
   rw [hdec,if_pos ⟨hs',hok⟩]
   exact⟨xp,xi,rfl,(((hNM.ext hx (by simp)).ext hx11 (fun c hc=>by simp at hc;omega)).mono (by omega)),(h4.trans hx).own hx11 (fun c hc hlt=>by simp at hc;omega)⟩
 refine Go.Fw.joinP_of (fun _ W=>∃ n' s' xp xi,W.heap[c5]?=some (.cells (zca n' xp xi).toArray zh (0,0))/\(Mine W.heap w4.heap.size zf 32 xp (n'.parts.flatMap Bl.zbp)/\Mine W.heap w4.heap.size zx 34 xi (n'.items.flatMap zcy))/\znt W.heap b F s'/\Ext [] H W.heap/\W.heap[H.size]?=some (.cells (zc P zh) zh (0,0)) /\
  ((n'=(zao (some L)).1/\s'=(zao (some L)).2)\/(n'=zd1/\zar (zao (some L)).1=false))) ?_ (fun _ _ h=>h)
 refine zax (fun h1=>?_) (fun h1=>?_)
 ·have h1:min (nmS (some L)).1 9=1:=by omega
  have hr:zao (some L)=(⟨1,(txS 64 (nmS (some L)).2).1,0,[],[]⟩,(txS 64 (nmS (some L)).2).2):=by unfold zao;rw [if_pos h1]
  refine za9 rfl hn5 (by simp [zca]) fun w6 hw6=>?_
  have hx6:Ext [c5] w5.heap w6.heap:=by rw [hw6];exact Ext.set _ (by simp)
  have hn6:w6.heap[c5]?=some (.cells (zca ⟨1,[],0,[],[]⟩ (none,0,0) (none,0,0)).toArray zh (0,0)):=by rw [hw6];exact qg hn5
  have hI6:=hI5.ext hx6 (by simp;exact bn.symm) (fun c hc h=>by simp at h;exact fn c hc h.symm)
  refine zk (z9z (most:=64) rfl hI6 (by omega)) ?_
  rintro e w7 ⟨rfl,hI7,hx7⟩
  refine⟨strOf (txS 64 (nmS (some L)).2).1,rfl,?_⟩
  have hn7:=hx7.get hn6 (by simp;exact bn)
  refine za9 rfl hn7 (by simp [zca]) fun w8 hw8=>?_
  have hx8:Ext [c5] w7.heap w8.heap:=by rw [hw8];exact Ext.set _ (by simp)
  rw [hr]
  refine⟨_,_,(none,0,0),(none,0,0),by rw [hw8];exact qg hn7,nil2,hI7.ext hx8 (by simp;exact bn.symm) (fun c hc h=>by simp at h;exact fn c hc h.symm),?_,?_,.inl ⟨rfl,rfl⟩⟩
  ·exact ((hx05.own hx6 (fun c hc hlt=>by simp at hc;omega)).own hx7 (fun c hc hlt=>by simp at hc;omega)).own hx8 (fun c hc hlt=>by simp at hc;omega)
  ·exact hx8.get (hx7.get (hx6.get hd5 (by simp;omega)) (by simp;omega)) (by simp;omega)
 refine zax (fun h2=>?_) (fun h2=>?_)
 ·have h1:min (nmS (some L)).1 9≠1:=by omega
  have h2:min (nmS (some L)).1 9=2:=by omega
  have hbig:=qke (s:=some L) h2
  have hr0:zao (some L)=(⟨2,[],((min (nmS (nmS (some L)).2).1 1025:Nat):Int),(zdy ((min (nmS (nmS (some L)).2).1 1025+63) / 64) (nmS (nmS (some L)).2).2).1,[]⟩,(zdy ((min (nmS (nmS (some L)).2).1 1025+63) / 64) (nmS (nmS (some L)).2).2).2):=by unfold zao;rw [if_neg h1,if_pos h2]
  refine za9 rfl hn5 (by simp [zca]) fun w6 hw6=>?_
  have hx6:Ext [c5] w5.heap w6.heap:=by rw [hw6];exact Ext.set _ (by simp)
  have hn6:w6.heap[c5]?=some (.cells (zca ⟨2,[],0,[],[]⟩ (none,0,0) (none,0,0)).toArray zh (0,0)):=by rw [hw6];exact qg hn5
  have hI6:=hI5.ext hx6 (by simp;exact bn.symm) (fun c hc h=>by simp at h;exact fn c hc h.symm)
  refine zk (zzp rfl hI6) ?_
  rintro e w7 ⟨rfl,hI7,hx7⟩
  refine⟨((nmS (nmS (some L)).2).1:Int),rfl,?_⟩
  generalize nmS (nmS (some L)).2=a2 at *
  have hn7:=hx7.get hn6 (by simp;exact bn)
  have hx07:=(hx05.own hx6 (fun c hc hlt=>by simp at hc;omega)).own hx7 (fun c hc hlt=>by simp at hc;omega)
  have hd7:=hx7.get (hx6.get hd5 (by simp;omega)) (by simp;omega)
  refine zq (fun hlt=>bad (fun h=>by rw [hbig (by omega)] at h;cases h.2) hx07 hd7) (fun hge=>?_)
  refine zg5 (by omega) (by omega) ?_
  have hmin:min a2.1 1025=a2.1:=by omega
  rw [hmin] at hr0
  generalize hK:a2.1=K at *
  refine za9 rfl hn7 (by simp [zca]) fun w8 hw8=>?_
  have hx8:Ext [c5] w7.heap w8.heap:=by rw [hw8];exact Ext.set _ (by simp)
  have hn8:w8.heap[c5]?=some (.cells (zca ⟨2,[],(K:Int),[],[]⟩ (none,0,0) (none,0,0)).toArray zh (0,0)):=by rw [hw8];exact qg hn7
  have hI8:=hI7.ext hx8 (by simp;exact bn.symm) (fun c hc h=>by simp at h;exact fn c hc h.symm)
  have hx08:=hx07.own hx8 (fun c hc hlt=>by simp at hc;omega)
  have hd8:=hx8.get hd7 (by simp;omega)
  have s48:w4.heap.size<=w8.heap.size:=Nat.le_trans hx5.1 (Nat.le_trans hx6.1 (Nat.le_trans hx7.1 hx8.1))
  refine je (s:=.int .i64) (t:=(K:Int)) rfl hn8 rfl ?_
  refine jg (fun (t:Int) W=>∃ (i:Nat) (xp:Option Addr×Nat×Nat),t=(K:Int)-64 * (i:Int)/\i<=(K+63) / 64/\W.heap[c5]?=some (.cells (zca ⟨2,[],(K:Int),(zdy i a2.2).1,[]⟩ xp (none,0,0)).toArray zh (0,0))/\Mine W.heap w4.heap.size zf 32 xp ((zdy i a2.2).1.flatMap Bl.zbp) /\
   znt W.heap b F (zdy i a2.2).2/\Ext [] H W.heap/\W.heap[H.size]?=some (.cells (zc P zh) zh (0,0))/\w4.heap.size<=W.heap.size) (fun t _=>(t+64).toNat) ⟨0,(none,0,0),by simp,Nat.zero_le _,hn8,.inl ⟨rfl,rfl⟩,hI8,hx08,hd8,s48⟩ ?_
  rintro _ W ⟨i,xp,rfl,hi,g1,g2,g3,g4,g5,g6⟩
  refine zq (fun hlt=>?_) (fun hge=>?_)
  ·refine jl rfl fun w8 hw8=>?_
   rw [<-hw8] at g1 g2 g3 g4 g5 g6
   refine je (s:=.slc) (t:=xp) rfl g1 rfl ?_
   refine zk (qbb rfl g3 (fun c hc=>by have:=hF c hc;have:=g4.1;omega)) ?_
   rintro e w9 ⟨rfl,hI9,hx9⟩
   refine⟨arr (dgS (zdy i a2.2).2).1,rfl,?_⟩
   have k1:=hx9.get g1 (by simp;exact bn)
   have k2:=g2.ext hx9 (fun c hc h=>by simp at h;subst h;have:=xu g2 _ hc;omega)
   have s9:=hx9.1
   refine⟨je (s:=.slc) (o:=3) (t:=xp) (K:=fun z=>Value.slice z.1 z.2.1 z.2.2=Value.slice xp.1 xp.2.1 xp.2.2) rfl k1 rfl rfl,?_⟩
   refine zu3 rfl k2 (by omega) zm4 (by rw [zhp];omega) (fun w10 hx10=>je (s:=.slc) (o:=3) (t:=xp) (K:=fun z=>Value.slice z.1 z.2.1 z.2.2=Value.slice xp.1 xp.2.1 xp.2.2) rfl (hx10.get k1 (by simp)) rfl rfl) fun xp2 w11 hm11 hx11 hs11=>?_
   have own3:∀ {c:Nat},c < w4.heap.size->c∉jf xp:=fun h hc=>by have:=xu g2 _ hc;omega
   have k11:=hx11.get k1 (own3 s4)
   refine za9 rfl k11 (by simp [zca]) fun w12 hw12=>?_
   have hx12:Ext [c5] w11.heap w12.heap:=by rw [hw12];exact Ext.set _ (by simp)
   have s11:=hx11.1
   have s12:=hx12.1
   refine zb0 ((K:Int)-64 * ((i+1:Nat):Int)) (by omega) (by omega) (by omega) ?_
   refine⟨⟨i+1,xp2,rfl,by omega,by rw [hw12];exact qg k11,hm11.ext hx12 (fun c hc h=>by simp at h;subst h;have:=xu hm11 _ hc;omega),?_,?_,?_,by omega⟩,by omega⟩
   ·refine (hI9.ext hx11 (own3 (by omega)) fun c hc=>own3 (by have:=hF c hc;omega)).ext hx12 (by simp;exact bn.symm) (fun c hc h=>by simp at h;exact fn c hc h.symm)
   ·exact ((g4.own hx9 (fun c hc hlt=>by simp at hc;omega)).own hx11 (fun c hc hlt=>by have:=xu g2 _ hc;omega)).own hx12 (fun c hc hlt=>by simp at hc;omega)
   ·exact hx12.get (hx11.get (hx9.get g5 (by simp;omega)) (own3 (by omega))) (by simp;omega)
  ·obtain rfl:i=(K+63) / 64:=by omega
   rw [hr0]
   exact⟨_,_,xp,(none,0,0),g1,⟨g2,.inl ⟨rfl,rfl⟩⟩,g3,g4,g5,.inl ⟨rfl,rfl⟩⟩
 refine zax (fun h3=>?_) (fun h3=>?_)
 ·have h1:min (nmS (some L)).1 9≠1:=by omega
  have h2:min (nmS (some L)).1 9≠2:=by omega
  have h3:min (nmS (some L)).1 9=3:=by omega
  have hbig:=qh6 (s:=some L) h3
  have hkd:=@qi4 (some L) h3
  have hr0:zao (some L)=(⟨3,[],0,[],(zbo (min (nmS (nmS (some L)).2).1 65) (nmS (nmS (some L)).2).2).1⟩,(zbo (min (nmS (nmS (some L)).2).1 65) (nmS (nmS (some L)).2).2).2):=by unfold zao;rw [if_neg h1,if_neg h2,if_pos h3]
  refine za9 rfl hn5 (by simp [zca]) fun w6 hw6=>?_
  have hx6:Ext [c5] w5.heap w6.heap:=by rw [hw6];exact Ext.set _ (by simp)
  have hn6:w6.heap[c5]?=some (.cells (zca ⟨3,[],0,[],[]⟩ (none,0,0) (none,0,0)).toArray zh (0,0)):=by rw [hw6];exact qg hn5
  have hI6:=hI5.ext hx6 (by simp;exact bn.symm) (fun c hc h=>by simp at h;exact fn c hc h.symm)
  refine zk (zzp rfl hI6) ?_
  rintro e w7 ⟨rfl,hI7,hx7⟩
  refine⟨((nmS (nmS (some L)).2).1:Int),rfl,?_⟩
  generalize nmS (nmS (some L)).2=a2 at *
  have hn7:=hx7.get hn6 (by simp;exact bn)
  have hx07:=(hx05.own hx6 (fun c hc hlt=>by simp at hc;omega)).own hx7 (fun c hc hlt=>by simp at hc;omega)
  have hd7:=hx7.get (hx6.get hd5 (by simp;omega)) (by simp;omega)
  refine zq (fun hlt=>bad (fun h=>by rw [hbig (by omega)] at h;cases h.2) hx07 hd7) (fun hge=>?_)
  have hmin:min a2.1 65=a2.1:=by omega
  rw [hmin] at hr0
  have hkd:∀ {i:Nat},i < a2.1->3 < (zs4 (zbo i a2.2).2).1.kind->zar (zao (some L)).1=false:=fun hi hk=>hkd (by omega) hk
  generalize hM:a2.1=M at *
  have s47:w4.heap.size<=w7.heap.size:=Nat.le_trans hx5.1 (Nat.le_trans hx6.1 hx7.1)
  refine jg (fun (t:Int) W=>∃ (i:Nat) (xi:Option Addr×Nat×Nat),t=(i:Int)/\i<=M/\W.heap[c5]?=some (.cells (zca ⟨3,[],0,[],(zbo i a2.2).1⟩ (none,0,0) xi).toArray zh (0,0))/\Mine W.heap w4.heap.size zx 34 xi ((zbo i a2.2).1.flatMap zcy) /\
   znt W.heap b F (zbo i a2.2).2/\Ext [] H W.heap/\W.heap[H.size]?=some (.cells (zc P zh) zh (0,0))/\w4.heap.size<=W.heap.size) (fun t _=>(M-t).toNat) ⟨0,(none,0,0),rfl,Nat.zero_le _,hn7,.inl ⟨rfl,rfl⟩,hI7,hx07,hd7,s47⟩ ?_
  rintro _ W ⟨i,xi,rfl,hi,g1,g2,g3,g4,g5,g6⟩
  refine zg5 (by omega) (by omega) ?_
  refine zq (fun hlt=>?_) (fun hge=>?_)
  ·have re:∀ {W':World},W'.heap[c5]?=some (.cells (zca ⟨3,[],0,[],(zbo i a2.2).1⟩ (none,0,0) xi).toArray zh (0,0))->ld .slc (⟨c5,4,none⟩:Addr) W' fun z=>Value.slice z.1 z.2.1 z.2.2=Value.slice xi.1 xi.2.1 xi.2.2:=fun h=>je (s:=.slc) (o:=4) (t:=xi) (K:=fun z=>Value.slice z.1 z.2.1 z.2.2=Value.slice xi.1 xi.2.1 xi.2.2) rfl h rfl rfl
   have hkd:=hkd (i:=i) (by omega)
   refine zk (z9z (most:=16) rfl g3 (by omega)) ?_
   rintro e w9 ⟨rfl,hI9,hx9⟩
   refine⟨strOf (txS 16 (zbo i a2.2).2).1,rfl,?_⟩
   have k9:=hx9.get g1 (by simp;exact bn)
   refine zk (zzp rfl hI9) ?_
   rintro e w10 ⟨rfl,hI10,hx10⟩
   refine⟨((nmS (txS 16 (zbo i a2.2).2).2).1:Int),rfl,?_⟩
   have k10:=hx10.get k9 (by simp;exact bn)
   have s9:=hx9.1
   have s10:=hx10.1
   have s04:=g4.1
   have hx010:=(g4.own hx9 (fun c hc hlt=>by simp at hc;omega)).own hx10 (fun c hc hlt=>by simp at hc;omega)
   have hd10:=hx10.get (hx9.get g5 (by simp;omega)) (by simp;omega)
   have hkeq:(zs4 (zbo i a2.2).2).1.kind=((min (nmS (txS 16 (zbo i a2.2).2).2).1 9:Nat):Int):=rfl
   refine zq (fun hk=>bad (fun h=>by rw [hkd (by rw [hkeq];omega)] at h;cases h.2) hx010 hd10) (fun hk=>?_)
   refine jl rfl fun w26 hw26=>?_
   rw [<-hw26] at hI10 k10 hx010 hd10 hx10 s10
   refine zg5 (by omega) (by omega) ?_
   refine je (s:=.slc) (t:=xi) rfl k10 rfl ?_
   refine zk (qbb rfl hI10 (fun c hc=>by have:=hF c hc;omega)) ?_
   rintro e w11 ⟨rfl,hI11,hx11⟩
   refine⟨arr (dgS (nmS (txS 16 (zbo i a2.2).2).2).2).1,rfl,?_⟩
   have k11:=hx11.get k10 (by simp;exact bn)
   refine⟨re k11,?_⟩
   have hmk:min (nmS (txS 16 (zbo i a2.2).2).2).1 9=(nmS (txS 16 (zbo i a2.2).2).2).1:=by omega
   refine qp (s:=.any) (.agg (zcy (zs4 (zbo i a2.2).2).1).toArray) (by rw [bT3 _ _ zm4];unfold zcy zs4;rw [Bl.zba zm4,hmk];rfl) ?_
   have hx811:=(hx9.trans hx10).trans hx11
   have g2':=g2.ext hx811 (fun c hc h=>by simp at h;subst h;have:=xu g2 _ hc;omega)
   have s11:=hx11.1
   refine zzw (i:=(zs4 (zbo i a2.2).2).1) rfl g2' (by omega) (by rw [zkj];omega) (fun w12 hx12=>re (hx12.get k11 (by simp))) fun xi2 w13 hm13 hx13 hs13=>?_
   have own3:∀ {c:Nat},c < w4.heap.size->c∉jf xi:=fun h hc=>by have:=xu g2 _ hc;omega
   have k13:=hx13.get k11 (own3 s4)
   refine za9 rfl k13 (by simp [zca]) fun w14 hw14=>?_
   have hx14:Ext [c5] w13.heap w14.heap:=by rw [hw14];exact Ext.set _ (by simp)
   have s13:=hx13.1
   have s14:=hx14.1
   refine jd ((i+1:Nat):Int) (by simp) (by omega) (by omega) ?_
   have hI:znt w11.heap b F (zbo (i+1) a2.2).2:=hI11
   refine⟨⟨i+1,xi2,rfl,by omega,by rw [hw14];exact qg k13,hm13.ext hx14 (fun c hc h=>by simp at h;subst h;have:=xu hm13 _ hc;omega),?_,?_,?_,by omega⟩,by omega⟩
   ·refine (hI.ext hx13 (own3 (by omega)) fun c hc=>own3 (by have:=hF c hc;omega)).ext hx14 (by simp;exact bn.symm) (fun c hc h=>by simp at h;exact fn c hc h.symm)
   ·exact ((hx010.own hx11 (fun c hc hlt=>by simp at hc;omega)).own hx13 (fun c hc hlt=>by have:=xu g2 _ hc;omega)).own hx14 (fun c hc hlt=>by simp at hc;omega)
   ·exact hx14.get (hx13.get (hx11.get hd10 (by simp;omega)) (own3 (by omega))) (by simp;omega)
  ·obtain rfl:i=M:=by omega
   rw [hr0]
   exact⟨_,_,(none,0,0),xi,g1,⟨.inl ⟨rfl,rfl⟩,g2⟩,g3,g4,g5,.inl ⟨rfl,rfl⟩⟩
 ·exact⟨zd1,(nmS (some L)).2,(none,0,0),(none,0,0),hn5,nil2,hI5,hx05,hd5,.inr ⟨rfl,other (by omega) (by omega) (by omega)⟩⟩
end Go.Proofs.YtbmegmbnlajbbaaGreatDoor
namespace Go.Proofs.YtbmegmbnlajbbaaGreatDoor
open Go Go.Fw Go.Proofs Go.Sort
section
variable {g:List UInt8->Int->Nod×Int}{ct:Nod->List UInt8×Int}
end
def qa8 (L:List Fil):Prop:=(∀ f∈L,f.data.length<=1025)/\L.length<=512
theorem qa8.snoc {L:List Fil}{f:Fil}(h:qa8 L) (hl:L.length≠512) (hf:f.data.length<=1025):qa8 (L++[f]):=
 ⟨fun x hx=>by
  rcases List.mem_append.1 hx with hx | hx
  ·exact h.1 x hx
  ·simp at hx;subst hx;exact hf,by have:=h.2;simp;omega⟩
abbrev TQ:=(Option Addr×Nat×Nat)×(Path×Itm)
def qgq (y:TQ):List Value:=zbv y.1 :: zcy y.2.2
theorem z3y (y:TQ):(qgq y).length=35:=by simp [qgq,zai]
theorem uSQ:P.underlying zsj=some (.slice zre):=by kernel_rfl
theorem szQ:(P.info? zre).map (·.size)=some 35:=by kernel_rfl
def QOk (H:Heap) (y:TQ):Prop:=Mine H 0 vg 1 y.1 (strRow (y.2.1++[y.2.2.name]))/\y.2.2.sum.length=32
def znx (H:Heap) (x:Option Addr×Nat×Nat) (ps:List (Path×Itm)):Prop:=
 ∃ ys:List TQ,Cells H x.1 (ys.flatMap qgq)/\x.2.1=ys.length/\x.2.1<=x.2.2/\ys.map (·.2)=ps/\(∀ y∈ys,QOk H y)/\(ys≠[]->∀ c∈jf x,∃ cs fr,H[c]?=some (.cells cs zre fr))
theorem znx.len {H:Heap}{x:Option Addr×Nat×Nat}{ps:List (Path×Itm)}(h:znx H x ps):x.2.1=ps.length:=by
 obtain⟨ys,_,h2,_,h4,_⟩:=h
 rw [<-h4];simpa using h2
theorem znx.nil {H:Heap}:znx H (none,0,0) []:=⟨[],.inl rfl,rfl,Nat.le_refl _,rfl,by simp,by simp⟩
theorem znx.ext {H H':Heap}{x o:Option Addr×Nat×Nat}{ps:List (Path×Itm)}{B:Nat}{vs:List Value}(h:znx H x ps) (ho:Mine H B zbd 3 o vs) (hx:Ext (jf o) H H'):znx H' x ps:=by
 obtain⟨ys,h1,h2,h3,h4,h5,h6⟩:=h
 have hno:ys≠[]->∀ c∈jf x,c∉jf o:=by
  intro hys c hc hco
  obtain⟨cs,fr,hg⟩:=h6 hys c hc
  rcases ho with⟨rfl,_⟩ | ⟨b2,c2,hx2,_,hg2,_⟩
  ·simp [jf] at hco
  ·simp [jf,hx2] at hco
   subst hco
   rw [hg] at hg2
   simp only [Option.some.injEq,Obj.cells.injEq] at hg2
   exact absurd hg2.2.1 (by decide)
 refine⟨ys,h1.ext hx (fun a ha hne=>hno (fun h=>hne (by rw [h];rfl)) _ (by simp [jf,ha])),h2,h3,h4,fun y hy=>⟨(h5 y hy).1.ext hx (zj8 (h5 y hy).1 ho (by decide)),(h5 y hy).2⟩,fun hys c hc=>?_⟩
 obtain⟨cs,fr,hg⟩:=h6 hys c hc
 exact⟨cs,fr,hx.get hg (hno hys c hc)⟩
theorem qeo (ys:List TQ):(ys.flatMap qgq).length=ys.length * 35:=by rw [zu qgq z3y]
theorem zeb {H:Heap}{B sz:Nat}{T:TypeId}{x:Option Addr×Nat×Nat}{vs:List Value}(h:Mine H B T sz x vs):∀ c∈jf x,∃ cs fr,H[c]?=some (.cells cs T fr):=by
 intro c hc
 rcases h with⟨rfl,_⟩ | ⟨b,cs,hx,_,hg,_⟩
 ·simp [jf] at hc
 ·simp [jf,hx] at hc
  subst hc
  exact⟨cs,_,hg⟩
def iv (n:Int):Value:=.int .i64 n
theorem uMp:P.underlying zdu=some (.map zo zbw):=by kernel_rfl
theorem qkx (w:World):(zeroValue zbw).run P w=.ok (iv 0) w:=by kernel_rfl
def zh7 (H:Heap) (cf:List Nat) (c pS:Nat) (st:LSt):Prop:=
 ∃ (m clk:Nat) (l:ML Pr Int) (x:Option Addr×Nat×Nat),H[c]?=some (.cells #[.pointer (some ⟨pS,0,none⟩),.map (some m),zbv x,.bool st.foul] zef (0,0))/\H[m]?=some (.map (ents prV (vl iv l)) clk)/\MOk (fun p:Pr=>p.1.length=32) l clk/\(∀ p,zbx l p=if p∈st.seen then some 1 else none) /\
  Mine H 0 zo 33 x (st.want.flatMap zc2)/\c∈cf/\m∈cf/\(∀ b∈jf x,b∈cf)/\∀ p∈st.want,p.1.length=32
theorem zh7.ext {H H':Heap}{cf M:List Nat}{c pS:Nat}{st:LSt}(h:zh7 H cf c pS st) (hx:Ext M H H') (hM:∀ b∈cf,b∉M):zh7 H' cf c pS st:=by
 obtain⟨m,clk,l,x,h1,h2,h3,h4,h5,h6,h7,h8,h9⟩:=h
 exact⟨m,clk,l,x,hx.get h1 (hM _ h6),hx.get h2 (hM _ h7),h3,h4,h5.ext hx (fun b hb=>hM b (h8 b hb)),h6,h7,h8,h9⟩
def zti (H:Heap) (cf:List Nat) (c pS:Nat) (t:LSt) (e:Ending) (w':World):Prop:=
 e=.returned (.tuple #[])/\∃ cf',zh7 w'.heap cf' c pS t/\Ext cf H w'.heap/\(∀ b∈cf',b < w'.heap.size)/\∀ b∈cf',b∈cf\/H.size<=b
def qdy (fp:List Nat) (pS:Nat) (q:Int) (r:Bl.SM) (k:Nat) (n:Nat):Prop:=
 ∀ {w:World}{H:Heap}{cf:List Nat}{c:Nat}{s t:LSt}{p:Pr},w.heap=H->zh7 H cf c pS s->(∀ b∈cf,b < H.size)->Bl.Store H fp pS q r k->(∀ b∈fp,b < H.size/\b∉cf)->Bl.Rounds H->0∉cf->p.1.length=32 ->
  Run (zc0 (Bl.zaa r)) n [p] s t 0->s.want.length+n<=1000000000->qc P zd6 #[.pointer (some ⟨c,0,none⟩),prV p] w (zti H cf c pS t)
theorem zt6 {v:List UInt8->Option (List UInt8)}:∀ {n:Nat}{todo:List Pr}{s t:LSt}{c:Int},Run (zc0 v) n todo s t c->t.want.length<=s.want.length+n:=by
 intro n todo s t c h
 induction h with
 | nil=>omega
 | stop h0=>
  rename_i p todo s
  have:(zc0 v s p).1.want.length<=s.want.length+1:=by
   unfold zc0;repeat' split
   all_goals simp
  omega
 | step h0 _ ih=>
  rename_i n p todo s t c _
  have:(zc0 v s p).1.want.length<=s.want.length+1:=by
   unfold zc0;repeat' split
   all_goals simp
  omega
set_option maxHeartbeats 4000000 in
theorem z97 {fp:List Nat}{pS:Nat}{q:Int}{r:Bl.SM}{k N:Nat}(ih:∀ m,m<=N->qdy fp pS q r k m){w:World}{H:Heap}{cf:List Nat}{c:Nat}{s t:LSt}{D:Nod}{xp xi:Option Addr×Nat×Nat}(hw:w.heap=H) (hC:zh7 H cf c pS s) (hcf:∀ b∈cf,b < H.size) (hS:Bl.Store H fp pS q r k) (hfp:∀ b∈fp,b < H.size/\b∉cf) (hR:Bl.Rounds H) (h0:0∉cf)
  (hN:NodW H D xp xi) (hpl:D.parts.length<=65536) (hil:D.items.length<=65) (hrun:Run (zc0 (Bl.zaa r)) N (zhf D) s t 0) (hb:s.want.length+N<=1000000000) :
  qc P zda #[.pointer (some ⟨c,0,none⟩),.agg (zca D xp xi).toArray] w (zti H cf c pS t):=by
 refine zmj ?_
 unfold zih
 refine jv hw fun w1 hw1=>?_
 have hx1:Ext [] H w1.heap:=by rw [hw1];exact .push _
 have hb1:w1.heap[H.size]?=some (.cells (zca D xp xi).toArray zh (0,0)):=by rw [hw1];exact zn
 refine qx rfl hb1 rfl ?_
 refine zk (qfx rfl (hN.ext hx1) hpl hil) ?_
 rintro e w2 ⟨x7,rfl,hm2,hx2⟩
 refine⟨x7,rfl,?_⟩
 have h32:=z4r hN
 have hkl:(zs8 D).length<=65601:=by simp [zs8];omega
 rw [z5m] at hrun
 generalize zs8 D=I at *
 have hxl:x7.2.1=I.length:=by have:=hm2.len;rw [qia] at this;omega
 have hx02:=hx1.trans hx2
 have s2:=hx02.1
 have g7:=xu hm2
 refine jg (fun (s':Int) W=>∃ (i n:Nat) (u:LSt) (cf':List Nat),s'=(i:Int)/\i<=I.length/\n<=N/\u.want.length+n<=s.want.length+N/\Run (zc0 (Bl.zaa r)) n ((I.drop i).map fun i=>(i.sum,i.kind)) u t 0/\zh7 W.heap cf' c pS u/\Ext cf H W.heap/\(∀ b∈cf',b < W.heap.size)/\(∀ b∈cf',b∈cf\/w2.heap.size<=b)/\Ext cf w2.heap W.heap) (fun s' _=>(I.length-s').toNat)
  ⟨0,N,s,cf,rfl,Nat.zero_le _,Nat.le_refl _,Nat.le_refl _,by simpa using hrun,hC.ext hx02 (by simp),hx02.mono (by simp),fun b hb=>by have:=hcf b hb;omega,fun b hb=>.inl hb,.refl _ _⟩ ?_
 rintro _ W ⟨i,n,u,cf',rfl,hi,hn,hu,hr,hC',hx,hcf',hsub,hx2W⟩
 have sW:=hx.1
 have s2W:=hx2W.1
 have hmW:=hm2.ext hx2W (fun b hb h=>by have:=g7 b hb;have:=hcf b h;have:=hx1.1;omega)
 refine zq (fun hlt=>?_) (fun hge=>?_)
 ·have hil:i < I.length:=by omega
  have hget:=List.getElem?_eq_getElem hil
  have hk32:=h32 _ (List.getElem_mem hil)
  rw [List.drop_eq_getElem_cons hil,List.map_cons] at hr
  generalize I[i]=it at hget hk32 hr
  refine zce (i:=i) zai (by omega) rfl hmW.cells hxl hget rfl ?_
  refine qgb it rfl fun w5 hw5=>?_
  have hx5:Ext [] W.heap w5.heap:=by rw [hw5];exact .push _
  have hb5:w5.heap[W.heap.size]?=some (.cells (zcy it).toArray zx (0,0)):=by rw [hw5];exact zn
  refine zf9 rfl hb5 (by simp [zai]) ?_
  rw [show (zcy it).toArray.extract 2 (2+32)=(Bl.zbp it.sum).toArray from qg7,Bl.zba hk32]
  refine je (s:=.int .i64) (t:=it.kind) rfl hb5 rfl ?_
  refine qp (s:=.any) _ (bPr hk32 it.kind _) ?_
  obtain⟨_,h⟩ | ⟨n1,n2,m,e12,r1,r2⟩:=Run.split (A:=[((it.sum,it.kind):Pr)]) (B:=(I.drop (i+1)).map fun i=>(i.sum,i.kind)) hr
  ·rename_i hne;exact absurd rfl hne
  have hx05:=hx.trans (hx5.mono (by simp))
  have hwm:=zt6 r1
  refine zk (ih n1 (by omega) (p:=(it.sum,it.kind)) rfl (hC'.ext hx5 (by simp)) (fun b hb=>by have:=hcf' b hb;have:=hx5.1;omega) (hS.ext hx05 (fun b hb=>(hfp b hb).2)) (fun b hb=>⟨by have:=(hfp b hb).1;have:=hx05.1;omega,fun h=>by
   rcases hsub b h with h | h
   ·exact (hfp b hb).2 h
   ·have:=(hfp b hb).1;omega⟩) (hR.ext hx05 h0) (fun h=>by
   rcases hsub 0 h with h | h
   ·exact h0 h
   ·obtain⟨_,_,_,hg,_⟩:=hR;have:=lt_of_get hg;omega) hk32 r1 (by omega)) ?_
  rintro e w6 ⟨rfl,cf2,hC2,hx6,hcf2,hsub2⟩
  refine⟨(),rfl,?_⟩
  have s5:=hx5.1
  have s6:=hx6.1
  refine jd ((i+1:Nat):Int) (by simp) (by omega) (by omega) ?_
  have own6:∀ b∈cf',b < w2.heap.size->b∈cf:=fun b hb hlt=>by
   rcases hsub b hb with h | h
   ·exact h
   ·omega
  refine⟨⟨i+1,n2,m,cf2,rfl,by omega,by omega,by omega,r2,hC2,hx05.own hx6 (fun b hb hlt=>own6 b hb (by omega)),hcf2,fun b hb=>?_,(hx2W.trans (hx5.mono (by simp))).own hx6 (fun b hb hlt=>own6 b hb (by omega))⟩,by omega⟩
  rcases hsub2 b hb with h | h
  ·exact hsub b h
  ·right;omega
 ·obtain rfl:i=I.length:=by omega
  rw [List.drop_length] at hr
  cases hr
  exact⟨rfl,cf',hC',hx,hcf',fun b hb=>by
   rcases hsub b hb with h | h
   ·exact .inl h
   ·right;omega⟩
end Go.Proofs.YtbmegmbnlajbbaaGreatDoor
