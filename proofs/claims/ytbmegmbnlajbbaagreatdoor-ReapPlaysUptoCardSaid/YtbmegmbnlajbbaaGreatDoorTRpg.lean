/- Part 7 of the texts below the card, joined. -/
import Derived.Test.YtbmegmbnlajbbaaGreatDoorTRpf
import Derived.Laws.StructEq
import Derived.Test.YtbmegmbnlajbbaaGreatDoorTRpd
import Derived.Test.YtbmegmbnlajbbaaGreatDoorTRpa
import Derived.WalkKit
import Derived.ProofKit
import Derived.OpenShut
import Derived.Deep.DeepHandedRow
import Derived.Lib.LaidTab
import Derived.Carry
import Derived.Test.YtbmegmbnlajbbaaGreatDoorCards
import Derived.Test.YtbmegmbnlajbbaaGreatDoorTie
import Derived.Laws.Runes
namespace Go.Proofs.YtbmegmbnlajbbaaGreatDoor
open Go Go.Fw Go.Proofs Go.Sort
theorem uMT:P.underlying zb5=some (.map jw qj):=by kernel_rfl
def z1b:ME:=⟨(none,0,0),⟨[],true,[]⟩⟩
def zeroE:ME:=⟨(none,0,0),⟨[],false,[]⟩⟩
def evE (m:ME):Value:=.agg (zh1 m).toArray
theorem zET (w:World):(zeroValue qj).run P w=.ok (evE zeroE) w:=by kernel_rfl
theorem bF1 (w:World):(Instr.build za1 #[(1,.bool true)]).run P w=.ok (.agg (zol ⟨[],true,[]⟩).toArray) w:=by kernel_rfl
abbrev PM:=ML (List UInt8) ME
def Places (M:PM) (ms:List ME):Prop:=∀ p,okP p->zbk M (za3 p)=if p=[] then some z1b else ms.find? fun m=>decide (nm m.f=p)
theorem MOk.map_val {κ ν ν':Type} [DecidableEq κ] {ok:κ->Prop}{l:ML κ ν}{c:Nat}(h:MOk ok l c) (g:κ×ν×Nat->ν'):MOk ok (l.map fun x=>(x.1,g x,x.2.2)) c:=by
 refine⟨?_,?_,?_,?_⟩
 ·have:=h.keys;simp only [List.map_map];exact this
 ·have:=h.born;simp only [List.map_map];exact this
 ·intro x hx;obtain⟨y,hy,rfl⟩:=List.mem_map.1 hx;exact h.old y hy
 ·intro x hx;obtain⟨y,hy,rfl⟩:=List.mem_map.1 hx;exact h.fine y hy
def zru (p:Path) (m:ME):Bool:=decide ((nm m.f).dropLast=p)
structure RowsW (W:Heap) (B:Nat) (K:KM) (ms:List ME):Prop where
 key:∀ z∈K,∃ p,okP p/\z.1=za3 p
 get:∀ p,okP p->(match zbk K (za3 p) with | none=>ms.filter (zru p)=[] | some v=>v.2=ms.filter (zru p)/\v.2≠[])
 row:∀ z∈K,Mine W B qj 4 z.2.1.1 (z.2.1.2.flatMap zh1)
 apart:∀ z∈K,∀ z'∈K,z.1≠z'.1->∀ b∈jk z.2.1.1,b∉jk z'.2.1.1
theorem RowsW.step {H H':Heap}{B clk:Nat}{K:KM}{ms:List ME}{m:ME}{v:(Option Addr×Nat×Nat)×List ME}{x':Option Addr×Nat×Nat}(h:RowsW H B K ms) (hM:MOk (fun _=>True) K clk) (hv:(zbk K (za3 (nm m.f).dropLast)).getD ((none,0,0),[])=v)
  (hm:Mine H' B qj 4 x' ((v.2++[m]).flatMap zh1)) (hx:Ext (jk v.1) H H') (hs:∀ c∈jk x',c∈jk v.1\/H.size<=c):RowsW H' B (zhm K (za3 (nm m.f).dropLast) (x',v.2++[m]) clk) (ms++[m]):=by
 have hokd:okP (nm m.f).dropLast:=by rw [List.dropLast_eq_take];exact (znu m.f).take _
 have hold:∀ z∈K,z.1≠za3 (nm m.f).dropLast->Mine H' B qj 4 z.2.1.1 (z.2.1.2.flatMap zh1)/\∀ b∈jk z.2.1.1,b∉jk x':=by
  intro z hz hne
  have hap:∀ b∈jk z.2.1.1,b∉jk v.1:=by
   cases hg:zbk K (za3 (nm m.f).dropLast) with
   | none=>rw [hg] at hv;subst hv;simp [jk]
   | some u=>
    rw [hg] at hv
    obtain⟨c,hc⟩:=zcc hg
    have hu:u=v:=hv
    subst hu
    exact h.apart z hz _ hc hne
  refine⟨(h.row z hz).ext hx hap,fun b hb hb'=>?_⟩
  rcases hs b hb' with h' | h'
  ·exact hap b hb h'
  ·have:=(zbs (h.row z hz) b hb).1;omega
 have hmem:∀ z∈zhm K (za3 (nm m.f).dropLast) (x',v.2++[m]) clk,(z.1=za3 (nm m.f).dropLast/\z.2.1=(x',v.2++[m]))\/(z.1≠za3 (nm m.f).dropLast/\z∈K):=fun z hz=>zmf hz
 refine⟨fun z hz=>?_,fun p hp=>?_,fun z hz=>?_,fun z hz z' hz' hne b hb=>?_⟩
 ·rcases hmem z hz with⟨h1,_⟩ | ⟨_,h1⟩
  ·exact⟨_,hokd,h1⟩
  ·exact h.key z h1
 ·rw [zjq]
  by_cases e:za3 p=za3 (nm m.f).dropLast
  ·rw [if_pos e]
   have hpe:=ztj hp hokd e
   subst hpe
   have hgp:=h.get _ hokd
   have h2:v.2=ms.filter (zru (nm m.f).dropLast):=by
    cases hg:zbk K (za3 (nm m.f).dropLast) with
    | none=>rw [hg] at hgp hv;subst hv;exact hgp.symm
    | some u=>rw [hg] at hgp hv;have hu:u=v:=hv;subst hu;exact hgp.1
   simp only
   rw [List.filter_append,<-h2]
   exact⟨by simp [zru],by simp⟩
  ·rw [if_neg e]
   have hne:(nm m.f).dropLast≠p:=by rintro rfl;exact e rfl
   have:=h.get p hp
   cases hg:zbk K (za3 p) with
   | none=>
    rw [hg] at this
    simp only at this |-
    rw [List.filter_append,this]
    simp [zru,hne]
   | some u=>
    rw [hg] at this
    simp only at this |-
    refine⟨?_,this.2⟩
    rw [List.filter_append,this.1]
    simp [zru,hne]
 ·rcases hmem z hz with⟨_,h1⟩ | ⟨h0,h1⟩
  ·rw [h1];exact hm
  ·exact (hold z h1 h0).1
 ·rcases hmem z hz with⟨e1,h1⟩ | ⟨e1,h1⟩
  ·rcases hmem z' hz' with⟨e2,_⟩ | ⟨e2,h2⟩
   ·exact absurd (e1.trans e2.symm) hne
   ·rw [h1] at hb
    exact fun h3=>(hold z' h2 e2).2 b h3 hb
  ·rcases hmem z' hz' with⟨e2,h2⟩ | ⟨e2,h2⟩
   ·rw [h2];exact (hold z h1 e1).2 b hb
   ·intro h3;exact h.apart z h1 z' h2 hne b hb h3
theorem find_none_of {ms:List ME}{p:Path}:(ms.find? fun m=>decide (nm m.f=p))=none ↔ ∀ m∈ms,nm m.f≠p:=by
 rw [List.find?_eq_none]
 simp
theorem find_some_of {ms:List ME}{p:Path}{m:ME}(h:(ms.find? fun m=>decide (nm m.f=p))=some m):m∈ms/\nm m.f=p:=by
 have h1:=List.mem_of_find?_eq_some h
 have h2:=List.find?_some h
 exact⟨h1,by simpa using h2⟩
theorem z00 {α β:Type}{g:α->β}:∀ {L:List α},(L.map g).Nodup->∀ {a b:α},a∈L->b∈L->g a=g b->a=b
 | [],_,_,_,ha,_,_=>by simp at ha
 | x :: L,h,a,b,ha,hb,e=>by
  rw [List.map_cons,List.nodup_cons] at h
  rcases List.mem_cons.1 ha with h1 | h1 <;> rcases List.mem_cons.1 hb with h2 | h2
  ·rw [h1,h2]
  ·subst h1;exact absurd (List.mem_map.2 ⟨b,h2,e.symm⟩) h.1
  ·subst h2;exact absurd (List.mem_map.2 ⟨a,h1,e⟩) h.1
  ·exact z00 h.2 h1 h2 e
theorem zle {ms:List ME}{p:Path}(hne:∀ m∈ms,nm m.f≠[]):(ms.filter (zru p)).map (·.f)=kids (ms.map (·.f)) p:=by
 unfold kids
 rw [List.filter_map]
 congr 1
 apply List.filter_congr
 intro m hm
 simp [zru,qh4,hne m hm]
theorem z4f {ms:List ME}{i:Nat}:(ms.take i).map (·.f)=(ms.map (·.f)).take i:=List.map_take
structure Rows3 (W:Heap) (B:Nat) (K K3:KM) (seen:Array Nat):Prop where
 vls:vl evK K3=vl evK K
 from_:∀ z∈K3,∃ z0∈K,z0.1=z.1/\z0.2.1.1=z.2.1.1/\z.2.1.2.Perm z0.2.1.2
 row:∀ z∈K3,Mine W B qj 4 z.2.1.1 (z.2.1.2.flatMap zh1)
 done:∀ z∈K3,z.2.2∈seen->z.2.1.2.length<=64/\z.2.1.2.Pairwise fun a b=>¬zg9 (nm b.f) (nm a.f) < 0
theorem z2k {es fs:List ME}{L:List Fil}{p:Path}(hp:es.Perm fs) (hfs:fs.map (·.f)=kids L p) (hnd:(L.map nm).Nodup) (hs:es.Pairwise fun a b=>¬zg9 (nm b.f) (nm a.f) < 0):es.map (·.f)=kids (zq8 L) p:=by
 have hsp:=zkb hnd
 have hperm:(es.map (·.f)).Perm (kids L p):=by rw [<-hfs];exact hp.map _
 have hnk:((kids L p).map nm).Nodup:=(List.filter_sublist.map nm).nodup hnd
 have hne:((es.map (·.f)).map nm).Nodup:=(hperm.map nm).nodup_iff.2 hnk
 refine z06 ?_ (hsp.2.sublist List.filter_sublist) (hperm.trans (zvd hsp.1 p).symm)
 unfold zpj
 rw [List.pairwise_map]
 rw [List.nodup_iff_pairwise_ne,List.pairwise_map,List.pairwise_map] at hne
 refine (hs.and hne).imp fun {a b} h=>?_
 have h1:=zkw (p:=nm a.f) (q:=nm b.f)
 have h2:zg9 (nm a.f) (nm b.f)≠0:=fun e=>h.2 (zop.1 e)
 have h3:=h.1
 omega
set_option maxHeartbeats 32000000 in
theorem qdc {w:World}{H:Heap}{a:Option Addr}{n nc:Nat}{ms:List ME}(hw:w.heap=H) (hL:Cells H a (ms.flatMap zh1)) (hn:n=ms.length) (hm:ms.length<=65536) (hN:∀ m∈ms,znw H m) :
  zy P zm7 #[.slice a n nc] w fun e w'=>∃ v,e=.returned (.tuple #[.map v,.int .i64 (zco (ms.map (·.f)))])/\Ext [] H w'.heap/\(zco (ms.map (·.f))=0->∃ mk,v=some mk/\z7u w'.heap mk (zq8 (ms.map (·.f)))):=by
 subst hn
 refine zx1 ?_
 unfold zse
 refine zah (s:=.map) (some H.size) _ (zii hw) ?_
 refine qm (s:=.any) _ (bF1 _) ?_
 refine qm (s:=.any) (evE z1b) (bE (none,0,0) _ _ _ _) ?_
 have hm1:(H.push (.map #[] 0))[H.size]?=some (.map (ents keyS (vl evE ([]:PM))) 0):=zk
 refine zmh _ (zjm qew uMT (w:={ w with heap:=H.push (.map #[] 0) }) rfl hm1 MOk.nil (k:=za3 []) trivial z1b rfl) ?_
 generalize hW0:({ w with heap:=(H.push (.map #[] 0)).setIfInBounds H.size (.map (ents keyS (vl evE (zhm ([]:PM) (za3 []) z1b 0))) (zk7 ([]:PM) (za3 []) 0)) }:World)=W0
 have hh0:W0.heap=(H.push (.map #[] 0)).setIfInBounds H.size (.map (ents keyS (vl evE (zhm ([]:PM) (za3 []) z1b 0))) (zk7 ([]:PM) (za3 []) 0)):=by rw [<-hW0]
 have hx0:Ext [] H W0.heap:=by rw [hh0];exact (Ext.push _).set_own (.inl (Nat.le_refl _))
 have hp0:W0.heap[H.size]?=some (.map (ents keyS (vl evE (zhm ([]:PM) (za3 []) z1b 0))) (zk7 ([]:PM) (za3 []) 0)):=by rw [hh0];exact qc hm1
 have hok0:MOk (fun _=>True) (zhm ([]:PM) (za3 []) z1b 0) (zk7 ([]:PM) (za3 []) 0):=MOk.nil.upd trivial _
 have hnil:okP []:=⟨by simp,by simp⟩
 have hpl0:Places (zhm ([]:PM) (za3 []) z1b 0) []:=by
  intro p hp
  rw [zjq]
  by_cases e:p=[]
  ·subst e;rw [if_pos rfl,if_pos rfl]
  ·rw [if_neg (fun h=>e (ztj hp hnil h)),if_neg e];rfl
 have hlm:(ms.map (·.f)).length=ms.length:=by simp
 have hHs0:H.size < W0.heap.size:=lt_of_get hp0
 refine jg (fun (s:Int) W=>∃ (i:Nat) (M:PM) (c:Nat),s=(i:Int)/\i<=ms.length/\Ext [] H W.heap/\W.heap[H.size]?=some (.map (ents keyS (vl evE M)) c)/\MOk (fun _=>True) M c/\Places M (ms.take i)/\(∀ j (h:j < (ms.map (·.f)).length),j < i->nm (ms.map (·.f))[j]≠[]/\∀ g∈(ms.map (·.f)).take j,nm g≠nm (ms.map (·.f))[j]))
  (fun s _=>(ms.length-s).toNat) ⟨0,_,_,rfl,Nat.zero_le _,hx0,hp0,hok0,by simpa using hpl0,fun j _ h=>by omega⟩ ?_
 rintro _ W ⟨i,M,c,rfl,hi,hxW,hpW,hoM,hPl,hgood⟩
 refine zx (fun hlt=>?_) (fun hge=>?_)
 ·have hil:i < ms.length:=by omega
  have hget:=List.getElem?_eq_getElem hil
  have hmem:ms[i]∈ms:=List.getElem_mem hil
  have hfi:(ms.map (·.f))[i]'(by simpa using hil)=(ms[i]).f:=by simp
  generalize ms[i]=m at hget hmem hfi
  have hsm:=(znu m.f).small
  refine zci (i:=i) zhd (by omega) rfl (hL.ext hxW (by simp)) rfl hget rfl ?_
  refine qgy m rfl fun w5 hw5=>?_
  have hx5:Ext [] W.heap w5.heap:=by rw [hw5];exact .push _
  have hb5:w5.heap[W.heap.size]?=some (.cells (zh1 m).toArray qj (0,0)):=by rw [hw5];exact zk
  have hnm:=(hN m hmem)
  have hnl:m.hdr.2.1=(nm m.f).length:=by have:=Mine.len hnm;simp at this;omega
  have hcap:=zic hnm
  refine je (s:=.slc) (t:=m.hdr) rfl hb5 rfl ?_
  refine zl (z4k rfl (Mine.ext hnm (hxW.trans hx5) (by simp)).cells hnl hcap (by omega)) ?_
  rintro e w6 ⟨rfl,hx6⟩
  refine⟨strOf (za3 (nm m.f)),rfl,?_⟩
  have hx06:=hx5.trans hx6
  have hp6:=hx06.get hpW (by simp)
  have hlk:=ze1 qew uMT zET (w:=w6) rfl hp6 hoM (k:=za3 (nm m.f)) trivial
  have hval:((zbk M (za3 (nm m.f))).map evE).getD (evE zeroE)=evE ((zbk M (za3 (nm m.f))).getD zeroE):=by cases zbk M (za3 (nm m.f)) <;> rfl
  rw [hval] at hlk
  refine zgg (l:=[.any,.bool]) (evE ((zbk M (za3 (nm m.f))).getD zeroE),(zbk M (za3 (nm m.f))).isSome) hlk ?_
  refine qgy ((zbk M (za3 (nm m.f))).getD zeroE) rfl fun w8 hw8=>?_
  have hx8:Ext [] w6.heap w8.heap:=by rw [hw8];exact .push _
  have hx08:=hx06.trans hx8
  have hpm:=hPl (nm m.f) (znu m.f)
  cases hs:(zbk M (za3 (nm m.f))).isSome with
  | true=>
   refine zai rfl ?_
   have h5:z2h (ms.map (·.f)):=by
    refine⟨i,by simpa using hil,?_⟩
    rw [hfi]
    by_cases e:nm m.f=[]
    ·exact .inl e
    ·right
     rw [hpm,if_neg e] at hs
     obtain⟨m',hm'⟩:=Option.isSome_iff_exists.1 hs
     obtain⟨h1,h2⟩:=find_some_of hm'
     exact⟨m'.f,by rw [<-z4f];exact List.mem_map.2 ⟨m',h1,rfl⟩,h2⟩
   exact⟨none,by rw [z8t h5],hxW.trans hx08,fun h=>by rw [z8t h5] at h;cases h⟩
  | false=>
   refine jr rfl ?_
   have hno:nm m.f≠[]/\∀ m'∈ms.take i,nm m'.f≠nm m.f:=by
    rw [hpm] at hs
    by_cases e:nm m.f=[]
    ·rw [if_pos e] at hs;simp at hs
    ·rw [if_neg e] at hs
     exact⟨e,find_none_of.1 (by simpa using hs)⟩
   refine jv rfl fun w9 hw9=>?_
   have hx9:Ext [] w8.heap w9.heap:=by rw [hw9];exact .refl _ _
   have hb9:=hx9.get (hx8.get (hx6.get hb5 (by simp)) (by simp)) (by simp)
   refine je (s:=.slc) (t:=m.hdr) rfl hb9 rfl ?_
   refine qp rfl hb9 rfl ?_
   have hx09:=hx08.trans hx9
   refine zl (z4k rfl (Mine.ext hnm (hxW.trans hx09) (by simp)).cells hnl hcap (by omega)) ?_
   rintro e w10 ⟨rfl,hx10⟩
   refine⟨strOf (za3 (nm m.f)),rfl,?_⟩
   refine⟨qp rfl (hx10.get hb9 (by simp)) rfl rfl,?_⟩
   have hx010:=hx09.trans hx10
   have hp10:=hx010.get hpW (by simp)
   refine zmh _ (zjm qew uMT (w:=w10) rfl hp10 hoM (k:=za3 (nm m.f)) trivial m rfl) ?_
   refine jd ((i+1:Nat):Int) (by omega) (by omega) (by omega) ?_
   refine⟨⟨i+1,_,_,rfl,by omega,(hxW.trans hx010).set_own (.inl (Nat.le_refl _)),qc hp10,hoM.upd trivial _,fun p hp=>?_,fun j hj hji=>?_⟩,by omega⟩
   ·rw [zjq,List.take_add_one,hget,Option.toList_some,List.find?_append]
    by_cases e:za3 p=za3 (nm m.f)
    ·have hpe:=ztj hp (znu m.f) e
     subst hpe
     rw [if_pos e,if_neg hno.1,find_none_of.2 hno.2]
     simp
    ·rw [if_neg e,hPl p hp]
     have hne:nm m.f≠p:=by rintro rfl;exact e rfl
     by_cases e0:p=[]
     ·rw [if_pos e0,if_pos e0]
     ·rw [if_neg e0,if_neg e0]
      simp [hne]
   ·by_cases e:j=i
    ·subst e
     rw [hfi]
     refine⟨hno.1,fun g hg=>?_⟩
     rw [<-z4f] at hg
     obtain⟨m',hm',rfl⟩:=List.mem_map.1 hg
     exact hno.2 m' hm'
    ·exact hgood j hj (by omega)
 ·obtain rfl:i=ms.length:=by omega
  have h5:¬z2h (ms.map (·.f)):=by
   rintro ⟨j,hj,h⟩
   obtain⟨g1,g2⟩:=hgood j hj (by omega)
   rcases h with h | ⟨g,hg,e⟩
   ·exact g1 h
   ·exact g2 g hg e
  rw [List.take_length] at hPl
  obtain⟨hnd,hne⟩:=ztg h5
  have hnem:∀ m∈ms,nm m.f≠[]:=fun m hm=>hne _ (List.mem_map.2 ⟨m,hm,rfl⟩)
  have hsW:=hxW.1
  have hpml:=lt_of_get hpW
  refine zah (s:=.map) (some W.heap.size) { W with heap:=W.heap.push (.map #[] 0) } (zii rfl) ?_
  have hxm:Ext [] W.heap (W.heap.push (.map #[] 0)):=.push _
  refine jg (fun (s:Bool×Int) W2=>∃ (i:Nat) (K:KM) (c2:Nat),s.2=(i:Int)/\i<=ms.length/\Ext [] W.heap W2.heap/\W2.heap[W.heap.size]?=some (.map (ents keyS (vl evK K)) c2)/\MOk (fun _=>True) K c2/\RowsW W2.heap (W.heap.size+1) K (ms.take i) /\
    (s.1=true ↔ ∃ f∈(ms.map (·.f)).take i,∃ g∈ms.map (·.f),nm g=(nm f).dropLast/\g.dir=false)/\(∀ f∈(ms.map (·.f)).take i,(nm f).dropLast=[]\/∃ g∈ms.map (·.f),nm g=(nm f).dropLast))
   (fun s _=>(ms.length-s.2).toNat) ⟨0,[],0,rfl,Nat.zero_le _,hxm,zk,.nil,⟨by simp,fun p hp=>by simp [zbk],by simp,by simp⟩,by simp,by simp⟩ ?_
  rintro ⟨flat,_⟩ W2 ⟨i,K,c2,rfl,hi,hx2,hk2,hoK,hR,hfl,hab⟩
  have hxH2:=hxW.trans hx2
  have hp2:=hx2.get hpW (by simp)
  have hkl:=lt_of_get hk2
  have hx2s:=hx2.1
  refine zx (fun hlt=>?_) (fun hge=>?_)
  ·have hil:i < ms.length:=by simp only at hlt;omega
   have hget:=List.getElem?_eq_getElem hil
   have hmem:ms[i]∈ms:=List.getElem_mem hil
   generalize ms[i]=m at hget hmem
   have hgf:(ms.map (·.f))[i]?=some m.f:=by rw [List.getElem?_map,hget];rfl
   have hsm:=(znu m.f).small
   have hok8:=(znu m.f).2
   have hmne:=hnem m hmem
   have hpos:=List.length_pos_iff.2 hmne
   refine zci (i:=i) zhd (by omega) rfl (hL.ext hxH2 (by simp)) rfl hget rfl ?_
   refine qgy m rfl fun w15 hw15=>?_
   have hx15:Ext [] W2.heap w15.heap:=by rw [hw15];exact .push _
   have hb15:w15.heap[W2.heap.size]?=some (.cells (zh1 m).toArray qj (0,0)):=by rw [hw15];exact zk
   have hnm:=(hN m hmem)
   have hnl:m.hdr.2.1=(nm m.f).length:=by have:=Mine.len hnm;simp at this;omega
   have hcap:=zic hnm
   refine je (s:=.slc) (t:=m.hdr) rfl hb15 rfl ?_
   refine je (s:=.slc) (t:=m.hdr) rfl hb15 rfl ?_
   refine zb3 ((m.hdr.2.1-1:Nat):Int) (by omega) (by omega) (by omega) ?_
   refine qm (s:=.slc) (if m.hdr.2.2=0 then m.hdr.1 else m.hdr.1.map (·.add (0 * 1)),(m.hdr.2.1-1)-0,m.hdr.2.2-0) (za9 z2x qfg .no (.yes rfl) (Nat.zero_le _) (show m.hdr.2.1-1<=m.hdr.2.2 by omega)) ?_
   have hcut:=(Mine.cut (Mine.ext hnm (hxH2.trans hx15) (by simp)) (k:=m.hdr.2.1-1) (by omega)).cells
   rw [zvs] at hcut
   have hdl:(nm m.f).take (m.hdr.2.1-1)=(nm m.f).dropLast:=by rw [List.dropLast_eq_take,hnl]
   have hcut:Cells w15.heap (if m.hdr.2.2=0 then m.hdr.1 else m.hdr.1.map (·.add (0 * 1))) (strRow ((nm m.f).take (m.hdr.2.1-1))):=hcut
   rw [hdl] at hcut
   have hql:(nm m.f).dropLast.length=m.hdr.2.1-1:=by rw [List.length_dropLast];omega
   have hokd:okP (nm m.f).dropLast:=by rw [List.dropLast_eq_take];exact (znu m.f).take _
   have hsmd:=hokd.small
   refine zl (z4k rfl hcut (by rw [hql];simp) (by simp only;omega) (by omega)) ?_
   rintro e w16 ⟨rfl,hx16⟩
   refine⟨strOf (za3 (nm m.f).dropLast),rfl,?_⟩
   have hx216:=hx15.trans hx16
   have hp16:=hx216.get hp2 (by simp)
   have hlk:=ze1 qew uMT zET (w:=w16) rfl hp16 hoM (k:=za3 (nm m.f).dropLast) trivial
   have hval:((zbk M (za3 (nm m.f).dropLast)).map evE).getD (evE zeroE)=evE ((zbk M (za3 (nm m.f).dropLast)).getD zeroE):=by cases zbk M (za3 (nm m.f).dropLast) <;> rfl
   rw [hval] at hlk
   refine zgg (l:=[.any,.bool]) (evE ((zbk M (za3 (nm m.f).dropLast)).getD zeroE),(zbk M (za3 (nm m.f).dropLast)).isSome) hlk ?_
   refine qgy ((zbk M (za3 (nm m.f).dropLast)).getD zeroE) rfl fun w18 hw18=>?_
   have hx18:Ext [] w16.heap w18.heap:=by rw [hw18];exact .push _
   have hb18:w18.heap[w16.heap.size]?=some (.cells (zh1 ((zbk M (za3 (nm m.f).dropLast)).getD zeroE)).toArray qj (0,0)):=by rw [hw18];exact zk
   have hx218:=hx216.trans hx18
   have hpm:=hPl _ hokd
   have htk:(ms.map (·.f)).take (i+1)=(ms.map (·.f)).take i++[m.f]:=by rw [List.take_add_one,hgf];rfl
   cases hs:(zbk M (za3 (nm m.f).dropLast)).isSome with
   | false=>
    refine zai rfl ?_
    have h4:qa9 (ms.map (·.f)):=by
     rw [hpm] at hs
     by_cases e:(nm m.f).dropLast=[]
     ·rw [if_pos e] at hs;simp at hs
     ·rw [if_neg e] at hs
      have hnf:=find_none_of.1 (by simpa using hs)
      refine⟨m.f,List.mem_map.2 ⟨m,hmem,rfl⟩,e,fun g hg=>?_⟩
      obtain⟨m',hm',rfl⟩:=List.mem_map.1 hg
      exact hnf m' hm'
    exact⟨none,by rw [z8k h5 h4],hxH2.trans hx218,fun h=>by rw [z8k h5 h4] at h;cases h⟩
   | true=>
    refine jr rfl ?_
    obtain⟨m0,hm0⟩:=Option.isSome_iff_exists.1 hs
    have hm0':=hm0
    rw [hpm] at hm0'
    have hab':(nm m.f).dropLast=[]\/∃ g∈ms.map (·.f),nm g=(nm m.f).dropLast:=by
     by_cases e:(nm m.f).dropLast=[]
     ·exact .inl e
     ·rw [if_neg e] at hm0'
      obtain⟨h1,h2⟩:=find_some_of hm0'
      exact .inr ⟨m0.f,List.mem_map.2 ⟨m0,h1,rfl⟩,h2⟩
    have hflat:m0.f.dir=false ↔ ∃ g∈ms.map (·.f),nm g=(nm m.f).dropLast/\g.dir=false:=by
     by_cases e:(nm m.f).dropLast=[]
     ·rw [if_pos e] at hm0'
      cases hm0'
      constructor
      ·intro h;cases h
      ·rintro ⟨g,hg,h1,_⟩
       rw [e] at h1
       exact absurd h1 (hne g hg)
     ·rw [if_neg e] at hm0'
      obtain⟨h1,h2⟩:=find_some_of hm0'
      constructor
      ·intro h;exact⟨m0.f,List.mem_map.2 ⟨m0,h1,rfl⟩,h2,h⟩
      ·rintro ⟨g,hg,h3,h4⟩
       have:m0.f=g:=z00 hnd (List.mem_map.2 ⟨m0,h1,rfl⟩) hg (h2.trans h3.symm)
       rw [this];exact h4
    refine joinP_of (fun s' W'=>W'=w18/\(s'=true ↔ ∃ f∈(ms.map (·.f)).take (i+1),∃ g∈ms.map (·.f),nm g=(nm f).dropLast/\g.dir=false)) ?_ ?_
    ·cases hfb:flat with
     | true=>
      refine zai rfl ⟨rfl,⟨fun _=>?_,fun _=>rfl⟩⟩
      obtain⟨f,hf,h⟩:=hfl.1 (by simpa using hfb)
      exact⟨f,by rw [htk];exact List.mem_append_left _ hf,h⟩
     | false=>
      refine jr rfl ?_
      refine je (s:=.bool) (t:=m0.f.dir) rfl hb18 (by rw [hm0];rfl) ?_
      refine⟨rfl,?_⟩
      rw [Bool.not_eq_true',hflat]
      constructor
      ·intro h;exact⟨m.f,by rw [htk];simp,h⟩
      ·rintro ⟨f,hf,h⟩
       rw [htk] at hf
       rcases List.mem_append.1 hf with hf | hf
       ·have:=hfl.2 ⟨f,hf,h⟩
        simp only at this
        rw [hfb] at this;cases this
       ·simp at hf;subst hf;exact h
    rintro s' W' ⟨hW',hs'⟩
    subst hW'
    have hk18:=hx218.get hk2 (by simp)
    obtain⟨v,hv⟩:∃ v,(zbk K (za3 (nm m.f).dropLast)).getD ((none,0,0),[])=v:=⟨_,rfl⟩
    have hlk2:=zm0 (w:=W') qew uME zME rfl hk18 hoK (k:=za3 (nm m.f).dropLast) trivial
    have hv2:((zbk K (za3 (nm m.f).dropLast)).map evK).getD (.slice none 0 0)=zb2 v.1:=by
     rw [<-hv]
     cases zbk K (za3 (nm m.f).dropLast) <;> rfl
    rw [hv2] at hlk2
    refine qm (s:=.slc) v.1 hlk2 ?_
    have hb1518:=hx18.get (hx16.get hb15 (by simp)) (by simp)
    refine qp rfl hb1518 rfl ?_
    have hRow:Mine W'.heap (W.heap.size+1) qj 4 v.1 (v.2.flatMap zh1):=by
     cases hg:zbk K (za3 (nm m.f).dropLast) with
     | none=>rw [hg] at hv;subst hv;exact .inl ⟨rfl,rfl⟩
     | some u=>
      rw [hg] at hv
      have hu:u=v:=hv
      subst hu
      obtain⟨c,hc⟩:=zcc hg
      exact (hR.row _ hc).ext hx218 (by simp)
    have hvl:v.2.length<=ms.length:=by
     have:=hR.get _ hokd
     cases hg:zbk K (za3 (nm m.f).dropLast) with
     | none=>rw [hg] at hv;subst hv;simp
     | some u=>
      rw [hg] at hv this
      have hu:u=v:=hv
      subst hu
      rw [this.1]
      have h1:=List.length_filter_le (zru (nm m.f).dropLast) (ms.take i)
      have h2:(ms.take i).length<=ms.length:=by simp;omega
      omega
    have hs18:=hx218.1
    refine qav (i:=m) rfl hRow (by omega) (by omega) fun x' w21 hm21 hx21 hs21 hl21=>?_
    have hkne:W.heap.size∉jk v.1:=fun h=>by have:=qx hRow _ h;omega
    have hk21:=hx21.get hk18 hkne
    refine zmh _ (zjm qew uME (w:=w21) rfl hk21 hoK (k:=za3 (nm m.f).dropLast) trivial (x',v.2++[m]) rfl) ?_
    have hx221:Ext (jk v.1) W2.heap w21.heap:=(hx218.mono (by simp)).trans hx21
    have hs221:∀ c∈jk x',c∈jk v.1\/W2.heap.size<=c:=fun c hc=>by
     rcases hs21 c hc with h | h
     ·exact .inl h
     ·right;omega
    have hstep:=hR.step hoK hv hm21 hx221 hs221
    have hxk:Ext [W.heap.size] w21.heap (w21.heap.setIfInBounds W.heap.size (.map (ents keyS (vl evK (zhm K (za3 (nm m.f).dropLast) (x',v.2++[m]) c2))) (zk7 K (za3 (nm m.f).dropLast) c2))):=Ext.set _ (by simp)
    refine jd ((i+1:Nat):Int) (by simp) (by omega) (by omega) ?_
    refine⟨⟨i+1,_,_,rfl,by omega,?_,qc hk21,hoK.upd trivial _,⟨?_,?_,?_,?_⟩,hs',?_⟩,by simp only;omega⟩
    ·exact (hx2.own hx221 (fun c hc hlt=>by have:=qx hRow c hc;omega)).set_own (.inl (Nat.le_refl _))
    ·exact hstep.key
    ·rw [List.take_add_one,hget];exact hstep.get
    ·intro z hz
     exact (hstep.row z hz).ext hxk (fun b hb h=>by simp at h;subst h;have:=qx (hstep.row z hz) _ hb;omega)
    ·exact hstep.apart
    ·rw [htk]
     intro f hf
     rcases List.mem_append.1 hf with hf | hf
     ·exact hab f hf
     ·simp at hf;subst hf;exact hab'
  ·obtain rfl:i=ms.length:=by simp only at hge;omega
   rw [List.take_length] at hR
   have htl:(ms.map (·.f)).take ms.length=ms.map (·.f):=by rw [<-hlm,List.take_length]
   rw [htl] at hfl hab
   have h4:¬qa9 (ms.map (·.f)):=by
    rintro ⟨f,hf,h1,h2⟩
    rcases hab f hf with h | ⟨g,hg,h⟩
    ·exact h1 h
    ·exact h2 g hg h
   cases hfb:flat with
   | true=>
    have h70:zyy (ms.map (·.f)):=hfl.1 (by simpa using hfb)
    exact zai rfl ⟨none,by rw [z3w h5 h4 h70],hxH2,fun h=>by rw [z3w h5 h4 h70] at h;cases h⟩
   | false=>
    have h70:¬zyy (ms.map (·.f)):=fun h=>by
     have:=hfl.2 h
     simp only at this
     rw [hfb] at this;cases this
    refine jr rfl ?_
    refine zah (s:=.ptr) (some ⟨W2.heap.size,0,none⟩) { W2 with heap:=W2.heap.push (.mapIter (some W.heap.size) c2 #[] c2) } (zy7 uME rfl hk2) ?_
    have hxr:Ext [] W2.heap (W2.heap.push (.mapIter (some W.heap.size) c2 #[] c2)):=.push _
    have nrow:∀ {z:List UInt8×((Option Addr×Nat×Nat)×List ME)×Nat},z∈K->∃ p,okP p/\z.1=za3 p/\z.2.1.2=ms.filter (zru p)/\z.2.1.2≠[]:=by
     intro z hz
     obtain⟨p,hp,e⟩:=hR.key z hz
     have hg:=zdu hoK.keys (k:=z.1) (v:=z.2.1) (c:=z.2.2) hz
     have h:=hR.get p hp
     rw [<-e,hg] at h
     exact⟨p,hp,e,h.1,h.2⟩
    refine zjd (fun k (_:Unit) W3=>∃ (seen:Array Nat) (last:Nat) (K3:KM),Ext [] H W3.heap/\W2.heap.size < W3.heap.size/\W3.heap[W.heap.size]?=some (.map (ents keyS (vl evK K3)) c2)/\W3.heap[W2.heap.size]?=some (.mapIter (some W.heap.size) c2 seen last)/\c2<=last/\MOk (fun _=>True) K3 c2/\Rows3 W3.heap (W.heap.size+1) K K3 seen/\k=(K3.filter fun y=>!seen.contains y.2.2).length)
     (K.filter fun y=>!(#[]:Array Nat).contains y.2.2).length ?_ ?_
    ·exact⟨#[],c2,K,hxH2.trans hxr,by simp,zc6 hk2,zk,Nat.le_refl _,hoK,⟨rfl,fun z hz=>⟨z,hz,rfl,rfl,.refl _⟩,fun z hz=>(hR.row z hz).ext hxr (by simp),fun z _ h=>by simp at h⟩,rfl⟩
    rintro k _ W3 ⟨seen,last,K3,hx3,hs3,hk3,hi3,hcl,hoK3,hR3,rfl⟩ Kk hKk
    rcases z3u (P:=P) (ty:=zdb) rfl hk3 hi3 (fun x hx=>hoK3.old x hx) hcl with⟨hall,W4,hnx,hc4,hh4⟩ | ⟨x,hx,hns,W4,hnx,hc4,hh4⟩
    ·refine zah (s:=.any) _ W4 hnx ?_ hc4
     refine zkc (s:=.bool) false rfl rfl ?_
     refine jr rfl ?_
     have hget3:∀ {p v},okP p->zbk K3 (za3 p)=some v->v.2.length<=64/\v.2.Pairwise (fun a b=>¬zg9 (nm b.f) (nm a.f) < 0)/\v.2.Perm (ms.filter (zru p))/\Mine W3.heap (W.heap.size+1) qj 4 v.1 (v.2.flatMap zh1):=by
      intro p v hp hg
      obtain⟨c,hc⟩:=zcc hg
      obtain⟨z0,hz0,e1,_,hpm⟩:=hR3.from_ _ hc
      obtain⟨p0,hp0',e0,h0,_⟩:=nrow hz0
      have:p0=p:=ztj hp0' hp (by rw [<-e0,e1])
      subst this
      obtain⟨d1,d2⟩:=hR3.done _ hc (hall _ hc)
      exact⟨d1,d2,by rw [<-h0];exact hpm,hR3.row _ hc⟩
     have hnone:∀ {p},okP p->zbk K3 (za3 p)=none->ms.filter (zru p)=[]:=by
      intro p hp hg
      have h1:(zbk K3 (za3 p)).map evK=(zbk K (za3 p)).map evK:=by rw [<-zrk,<-zrk,hR3.vls]
      rw [hg] at h1
      have h2:zbk K (za3 p)=none:=by
       cases h:zbk K (za3 p) with
       | none=>rfl
       | some u=>rw [h] at h1;simp at h1
      have:=hR.get p hp
      rw [h2] at this
      exact this
     have h8:¬qba (ms.map (·.f)):=by
      rintro ⟨f,hf,h⟩
      have hokp:okP (nm f).dropLast:=by rw [List.dropLast_eq_take];exact (znu f).take _
      rw [<-zle hnem,List.length_map] at h
      cases hg:zbk K3 (za3 (nm f).dropLast) with
      | none=>rw [hnone hokp hg] at h;simp at h
      | some v=>
       obtain⟨d1,_,d3,_⟩:=hget3 hokp hg
       rw [<-d3.length_eq] at h
       omega
     refine⟨some W.heap.size,by rw [z18 h5 h4 h70 h8],by rw [hh4];exact hx3,fun _=>⟨W.heap.size,rfl,K3,c2,by rw [hh4];exact hk3,hoK3,fun p hp=>?_⟩⟩
     cases hg:zbk K3 (za3 p) with
     | none=>
      have h1:=hnone hp hg
      have h2:kids (ms.map (·.f)) p=[]:=by rw [<-zle hnem,h1];rfl
      have h3:=zvd (zkb hnd).1 p
      rw [h2] at h3
      exact h3.eq_nil
     | some v=>
      obtain⟨d1,d2,d3,d4⟩:=hget3 hp hg
      refine⟨z2k d3 (zle hnem) hnd d2,?_,fun m hm=>?_⟩
      ·rw [hh4];exact d4.mono (Nat.zero_le _)
      ·have hmm:m∈ms:=(List.mem_filter.1 (d3.mem_iff.1 hm)).1
       rw [hh4];exact Mine.ext (hN m hmm) hx3 (by simp)
    ·refine zah (s:=.any) _ W4 hnx ?_ hc4
     refine zkc (s:=.bool) true rfl rfl ?_
     refine zai rfl ?_
     have hilt:=lt_of_get hi3
     have hx34:Ext [W2.heap.size] W3.heap W4.heap:=by rw [hh4];exact Ext.set _ (by simp)
     have hi4:W4.heap[W2.heap.size]?=some (.mapIter (some W.heap.size) c2 (seen.push x.2.2) c2):=by rw [hh4];exact Array.getElem?_setIfInBounds_self_of_lt hilt
     have hk4:=hx34.get hk3 (by simp;omega)
     refine qm (s:=.any) _ (zyx (last:=c2) rfl hk4 hi4 hx hoK3) ?_
     refine zkc (s:=.slc) x.2.1.1 rfl rfl ?_
     have hrow3:=hR3.row x hx
     have hrow4:Mine W4.heap (W.heap.size+1) qj 4 x.2.1.1 (x.2.1.2.flatMap zh1):=hrow3.ext hx34 (fun b hb h=>by
      simp at h;subst h
      obtain⟨_,c',T',fr',hcell⟩:=zbs hrow3 _ hb
      rw [hi3] at hcell;cases hcell)
     have hxl:x.2.1.1.2.1=x.2.1.2.length:=by have:=hrow3.len;rw [zq zh1 zhd] at this;omega
     obtain⟨z0,hz0,e1,e2,hpm⟩:=hR3.from_ x hx
     obtain⟨p0,hp0',e0,h0,h0n⟩:=nrow hz0
     have hH34:Ext [] H W4.heap:=hx3.own hx34 (by intro c hc hlt;simp at hc;omega)
     refine zx (fun hbig=>?_) (fun hsmall=>?_)
     ·have h8:qba (ms.map (·.f)):=by
       obtain⟨m,hm⟩:=List.exists_mem_of_ne_nil _ h0n
       rw [h0] at hm
       obtain⟨h1,h2⟩:=List.mem_filter.1 hm
       refine⟨m.f,List.mem_map.2 ⟨m,h1,rfl⟩,?_⟩
       have:(nm m.f).dropLast=p0:=by simpa [zru] using h2
       rw [this,<-zle hnem,List.length_map,<-h0,<-hpm.length_eq]
       omega
      exact⟨none,by rw [z9d h5 h4 h70 h8],hH34,fun h=>by rw [z9d h5 h4 h70 h8] at h;cases h⟩
     ·have hes:∀ m∈x.2.1.2,znw W4.heap m:=fun m hm=>by
       have hm2:=hpm.mem_iff.1 hm
       rw [h0] at hm2
       exact Mine.ext (hN m (List.mem_filter.1 hm2).1) hH34 (by simp)
      have hne2:x.2.1.2≠[]:=fun h=>h0n (by rw [h] at hpm;exact hpm.nil_eq.symm)
      refine zl (l:=[]) (qe8 rfl hrow4 hes hne2 (by omega)) ?_
      rintro e W5 ⟨rfl,ys,hys,hso,hm5,hx45⟩
      refine⟨(),rfl,?_⟩
      have hii:W2.heap.size∉jk x.2.1.1:=fun h=>by
       obtain⟨_,c',T',fr',hcell⟩:=zbs hrow4 _ h
       rw [hi4] at hcell;cases hcell
      have hkk:W.heap.size∉jk x.2.1.1:=fun h=>by have:=qx hrow4 _ h;omega
      have hi5:=hx45.get hi4 hii
      have hk5:=hx45.get hk4 hkk
      have s5:=hx45.1
      have s4:=hx34.1
      obtain⟨K4,hK4⟩:∃ K4:KM,K4=K3.map fun z=>(z.1,(if z.2.2=x.2.2 then (z.2.1.1,ys) else z.2.1),z.2.2):=⟨_,rfl⟩
      have hvl:vl evK K4=vl evK K3:=by
       rw [hK4]
       unfold vl
       rw [List.map_map]
       apply List.map_congr_left
       intro z _
       simp only [Function.comp]
       split <;> rfl
      have hoK4:MOk (fun _=>True) K4 c2:=by rw [hK4];exact MOk.map_val hoK3 _
      have hcount:(K4.filter fun y=>!(seen.push x.2.2).contains y.2.2).length=(K3.filter fun y=>!(seen.push x.2.2).contains y.2.2).length:=by
       rw [hK4,List.filter_map,List.length_map];rfl
      refine hKk _ _ _ (by rw [hcount];exact zrh hx hns) ⟨seen.push x.2.2,c2,K4,hH34.own hx45 (fun c hc hlt=>by have:=qx hrow4 c hc;omega),by omega,by rw [hvl];exact hk5,hi5,Nat.le_refl _,hoK4,⟨hvl.trans hR3.vls,fun z hz=>?_,fun z hz=>?_,fun z hz hin=>?_⟩,rfl⟩
      ·rw [hK4] at hz
       obtain⟨y,hy,rfl⟩:=List.mem_map.1 hz
       obtain⟨y0,hy0,f1,f2,f3⟩:=hR3.from_ y hy
       by_cases e:y.2.2=x.2.2
       ·have hyx:y=x:=Go.Fw.born_inj hoK3 hy hx e
        subst hyx
        exact⟨y0,hy0,f1,by simp only [if_pos];exact f2,by simp only [if_pos];exact hys.trans f3⟩
       ·exact⟨y0,hy0,f1,by simp only [if_neg e];exact f2,by simp only [if_neg e];exact f3⟩
      ·rw [hK4] at hz
       obtain⟨y,hy,rfl⟩:=List.mem_map.1 hz
       by_cases e:y.2.2=x.2.2
       ·have hyx:y=x:=Go.Fw.born_inj hoK3 hy hx e
        subst hyx
        simp only [if_pos]
        exact hm5
       ·simp only [if_neg e]
        have hr4:Mine W4.heap (W.heap.size+1) qj 4 y.2.1.1 (y.2.1.2.flatMap zh1):=(hR3.row y hy).ext hx34 (fun b hb h=>by
         simp at h;subst h
         obtain⟨_,c',T',fr',hcell⟩:=zbs (hR3.row y hy) _ hb
         rw [hi3] at hcell;cases hcell)
        refine hr4.ext hx45 ?_
        obtain⟨y0,hy0,f1,f2,_⟩:=hR3.from_ y hy
        have hne1:y0.1≠z0.1:=fun h=>by
         rw [f1,e1] at h
         exact e (by rw [Go.Fw.key_inj hoK3 hy hx h])
        have:=hR.apart y0 hy0 z0 hz0 hne1
        rw [f2,e2] at this
        exact this
      ·rw [hK4] at hz
       obtain⟨y,hy,rfl⟩:=List.mem_map.1 hz
       by_cases e:y.2.2=x.2.2
       ·have hyx:y=x:=Go.Fw.born_inj hoK3 hy hx e
        subst hyx
        simp only [if_pos]
        exact⟨by rw [hys.length_eq];omega,hso⟩
       ·simp only [if_neg e]
        refine hR3.done y hy ?_
        rcases Array.mem_push.1 hin with h | h
        ·exact h
        ·exact absurd h e
noncomputable def zir (L:List Fil):Int:=if zcp L≠0 then zcp L else zco L
def zvg (L:List Fil):List (List UInt8)×List UInt8:=zfs (zq8 L) 9 []
theorem zkr {L:List Fil}:zvg L=zfs (zq8 L) 9 []:=rfl
attribute [irreducible] zvg
def z9j (pre:Int) (q:Int) (r:Bl.SM) (bl:List (List UInt8)×List UInt8) (code:Int) (d:List UInt8) (r':Bl.SM):Prop:=
 (pre≠0->code=pre/\d=Bl.nought/\r'=r)/\(pre=0->Bl.zl0 q r bl.1 code r'/\d=if code=0 then bl.2 else Bl.nought)
theorem qgg:zc P jq=#[.slice none 0 0]:=by kernel_rfl
theorem qhd:zc P zaa=#[.map none]:=by kernel_rfl
theorem qhf:(zc P zcv).size=1:=by kernel_rfl
theorem qi7:P.cellsOf zcv=1:=by kernel_rfl
theorem qex {L:List Fil}(h:zcp L=0):∀ f∈L,f.data.length<=1024:=by
 unfold zcp at h
 split at h
 ·rename_i h1;exact absurd h h1
 ·split at h
  ·cases h
  ·split at h
   ·cases h
   ·rename_i h2
    intro f hf
    have:qdm f=false:=by
     rw [<-Bool.not_eq_true]
     exact fun hb=>h2 (List.any_eq_true.2 ⟨f,hf,hb⟩)
    simpa [qdm] using this
theorem qb7 {L:List Fil}(h:zco L=0):¬z2h L/\¬qba L:=by
 unfold zco at h
 by_cases h5:z2h L
 ·rw [if_pos h5] at h;cases h
 ·rw [if_neg h5] at h
  by_cases h4:qa9 L
  ·rw [if_pos h4] at h;cases h
  ·rw [if_neg h4] at h
   by_cases h70:zyy L
   ·rw [if_pos h70] at h;cases h
   ·rw [if_neg h70] at h
    by_cases h8:qba L
    ·rw [if_pos h8] at h;cases h
    ·exact⟨h5,h8⟩
theorem z8s {L:List Fil}(h5:¬z2h L) (hd:∀ f∈L,f.data.length<=1024):(zvg L).1.length<=1+18 * L.length:=by
 obtain⟨hp,hr⟩:=zkb (ztg h5).1
 have h:=z4x hr (fun f hf=>hd f (hp.mem_iff.1 hf)) 9 []
 have h2:=List.length_filter_le (fun f=>zeh (nm f) []&&decide ((([]:Path)).length < (nm f).length)) (zq8 L)
 have h3:=hp.length_eq
 rw [zkr]
 omega
theorem zza {w:World}{H:Heap}{b:Nat}{R:Array Value->World->Prop}(hw:w.heap=H) (hb:H[b]?=some (.cells (zc P zf) zf (0,0))) (hR:∀ w',Ext [b] H w'.heap->R (byteCells Bl.nought).toArray w') :
  zba P (Instr.build zf #[]) .any w fun (t:Value)=>zb8 P (storeVar zf (⟨b,0,none⟩:Addr) t) w fun w2=>ldA P 32 (⟨b,0,none⟩:Addr) w2 fun t4=>R t4 w2:=by
 refine qm (s:=.any) (arr Bl.nought) (Bl.b27 _) ?_
 refine z4l Bl.zbf hw hb zcD fun w2 hw2=>?_
 have hb2:w2.heap[b]?=some (.cells (byteCells Bl.nought).toArray zf (0,0)):=by rw [hw2];exact qc hb
 refine qp rfl hb2 (by simp [Bl.zbf]) ?_
 exact hR w2 (by rw [hw2];exact Ext.set _ (by simp))
set_option maxHeartbeats 1000000 in
theorem z4e {w:World}{H:Heap}{fp:List Nat}{p:Nat}{q:Int}{r:Bl.SM}{c:Nat}{a:Option Addr}{n nc:Nat}{L:List Fil}(hw:w.heap=H) (hS:Bl.Store H fp p q r c) (hfp:∀ b∈fp,b < H.size) (hRo:Bl.Rounds H) (h0:0∉fp)
  (hL:Cells H a (L.flatMap zol)) (hn:n=L.length) (hm:L.length<=65536) (hb:Bl.total r < 1000000000000) (hq:0<=q) (hq2:q<=9223372036854775807) (hlen:∀ k L,Bl.vw r k=some L->L.length < 1099511627776) :
  zy P zjh #[.pointer (some ⟨p,0,none⟩),.slice a n nc] w fun e w'=>∃ code d r' c' fp',e=.returned (.tuple #[arr d,.int .i64 code])/\d.length=32/\Bl.Store w'.heap fp' p q r' c'/\Ext fp H w'.heap/\(∀ b∈fp',b < w'.heap.size)/\(∀ b∈fp',b∈fp\/H.size<=b) /\
   z9j (zir L) q r (zvg L) code d r'/\Bl.total r'<=Bl.total r+4096 * (1+18 * L.length):=by
 refine zx7 ?_
 unfold zss
 have hpl:=hS.lt
 have hH0:0 < H.size:=by obtain⟨_,_,_,h,_⟩:=hRo;exact lt_of_get h
 refine jm hw fun w1 hw1=>?_
 have hx1:Ext [] H w1.heap:=by rw [hw1];exact .push _
 have hd1:w1.heap[H.size]?=some (.cells (zc P zf) zf (0,0)):=by rw [hw1];exact zk
 refine jr rfl ?_
 refine zl (qcq rfl (hL.ext hx1 (by simp)) hn hm) ?_
 rintro e w3 ⟨x,rfl,hx3,h3⟩
 refine⟨(x,zcp L),rfl,?_⟩
 have hd3:=hx3.get hd1 (by simp)
 have hx03:=hx1.trans hx3
 have hn0:∀ {w':World}{H':Heap},H.size<=H'.size->Ext [] H H'->Ext [H.size] H' w'.heap->Ext fp H w'.heap:=fun _ hxa hxb=>(hxa.mono (by simp)).own hxb (fun c hc hlt=>by simp at hc;omega)
 have bad:∀ {H':Heap}{w':World}{code:Int},code≠0->zir L=code->Ext [] H H'->Ext [H.size] H' w'.heap->∃ code' d r' c' fp',Ending.returned (.tuple #[arr Bl.nought,.int .i64 code])=.returned (.tuple #[arr d,.int .i64 code'])/\d.length=32/\Bl.Store w'.heap fp' p q r' c'/\Ext fp H w'.heap/\(∀ b∈fp',b < w'.heap.size)/\(∀ b∈fp',b∈fp\/H.size<=b) /\
   z9j (zir L) q r (zvg L) code' d r'/\Bl.total r'<=Bl.total r+4096 * (1+18 * L.length):=by
  intro H' w' code h0' hc hxa hxb
  have hxx:Ext fp H w'.heap:=(hxa.mono (by simp)).own hxb (fun c hc hlt=>by simp at hc;omega)
  have hsz:=hxx.1
  refine⟨code,Bl.nought,r,c,fp,rfl,Bl.zbf,(hS.ext hxa (by simp)).ext hxb (fun b hb h=>by simp at h;have:=hfp b hb;omega),hxx,fun b hb=>by have:=hfp b hb;omega,fun b hb=>.inl hb,⟨fun _=>⟨hc.symm,rfl,rfl⟩,fun h=>absurd (hc.symm.trans h) h0'⟩,by omega⟩
 refine zan (fun hc=>?_) (fun hc=>?_)
 ·exact zza rfl hd3 fun w4 hx4=>bad hc (by simp only at hc;rw [zir,if_pos hc]) hx03 hx4
 simp only at hc
 have hchk:zir L=zco L:=by rw [zir,if_neg (by simpa using hc)]
 obtain⟨ms,rfl,hm3,hN3⟩:=h3 hc
 simp only [List.length_map] at *
 have hxl:x.2.1=ms.length:=by
  have:=hm3.len
  rw [zq zh1 zhd] at this
  omega
 refine zl (qdc (ms:=ms) rfl hm3.cells hxl hm hN3) ?_
 rintro e w5 ⟨v,rfl,hx5,h5⟩
 refine⟨(v,zco (ms.map (·.f))),rfl,?_⟩
 have hx05:=hx03.trans hx5
 have hd5:=hx5.get hd3 (by simp)
 refine jm rfl fun w6 hw6=>?_
 have hx6:Ext [] w5.heap w6.heap:=by rw [hw6];exact .push _
 have hb6:w6.heap[w5.heap.size]?=some (.cells #[.map none] zaa (0,0)):=by rw [hw6,qhd];exact zk
 refine zbd rfl hb6 (by simp) fun w7 hw7=>?_
 have hx7:Ext [] w5.heap w7.heap:=by rw [hw7];exact hx6.set_own (.inl (Nat.le_refl _))
 have hb7:w7.heap[w5.heap.size]?=some (.cells #[.map v] zaa (0,0)):=by rw [hw7];exact qc hb6
 have hx07:=hx05.trans hx7
 have hd7:=hx7.get hd5 (by simp)
 refine zan (fun hs=>?_) (fun hs=>?_)
 ·exact zza rfl hd7 fun w8 hx8=>bad hs hchk hx07 hx8
 simp only at hs
 obtain⟨mk,rfl,hK5⟩:=h5 hs
 obtain⟨n5,n8⟩:=qb7 hs
 have hdl:=qex hc
 obtain⟨hperm,hrise⟩:=zkb (ztg n5).1
 refine jm rfl fun w9 hw9=>?_
 have hx9:Ext [] w7.heap w9.heap:=by rw [hw9];exact .push _
 have hb9:w9.heap[w7.heap.size]?=some (.cells #[zb2 (none,0,0)] jq (0,0)):=by rw [hw9,qgg];exact zk
 refine jm rfl fun w10 hw10=>?_
 have hx10:Ext [] w9.heap w10.heap:=by rw [hw10];exact .push _
 have hf10:w10.heap[w9.heap.size]?=some (.cells (zc P zcv) zcv (0,0)):=by rw [hw10];exact zk
 refine qm (s:=.any) (zs5 w5.heap.size w9.heap.size w7.heap.size) rfl ?_
 have s1:=lt_of_get hd1
 have s5:=hx03.1
 have s6:=lt_of_get hb7
 have s9:=lt_of_get hb9
 have s10:=lt_of_get hf10
 have sx5:=hx5.1
 have sx3:=hx3.1
 have hx010:=(hx07.trans hx9).trans hx10
 refine zay (v:=zs5 w5.heap.size w9.heap.size w7.heap.size) (by rw [qi7];rfl) (by simp [Value.cells,zs5]) (by intro v hv;simp [Value.cells,zs5] at hv;subst hv;rfl) rfl hf10 (by rw [qhf];simp [Value.cells,zs5]) fun w11 hw11=>?_
 have hset:setCells (zc P zcv) 0 (zs5 w5.heap.size w9.heap.size w7.heap.size).cells.toList=#[zs5 w5.heap.size w9.heap.size w7.heap.size]:=by
  rw [zak (by rw [qhf];rfl)];rfl
 rw [hset] at hw11
 have hx1011:Ext [w9.heap.size] w10.heap w11.heap:=by rw [hw11];exact Ext.set _ (by simp)
 have hx911:Ext [] w9.heap w11.heap:=by rw [hw11];exact hx10.set_own (.inl (Nat.le_refl _))
 have hf11:w11.heap[w9.heap.size]?=some (.cells #[zs5 w5.heap.size w9.heap.size w7.heap.size] zcv (0,0)):=by rw [hw11];exact qc hf10
 refine je (s:=.any) (t:=zs5 w5.heap.size w9.heap.size w7.heap.size) rfl hf11 rfl ?_
 have hx711:=hx9.trans hx911
 have hx511:=hx7.trans hx711
 have hx011:=hx05.trans hx511
 have hD11:DirSt w11.heap w5.heap.size w9.heap.size w7.heap.size mk w11.heap.size (zq8 (ms.map (·.f))) (none,0,0) []:=
  ⟨hx711.get hb7 (by simp),hf11,hx911.get hb9 (by simp),hK5.keep hx511 (by simp),.nil,hRo.ext hx011 (by simp),by omega⟩
 have s11:=hx911.1
 have hlen1:=z8s n5 hdl
 simp only [List.length_map] at hlen1
 refine zie (args:=#[.string (strOf (za3 []))]) ?_
 refine (qjj (zq8 (ms.map (·.f))) (fun f hf=>hdl f (hperm.mem_iff.1 hf)) hrise (fun p=>qbz n5 n8 p) 9 (w:=w11) (p:=[]) rfl hD11 (by omega) (Nat.le_refl _) (by simp [okP]) (by simp) (by rw [zkr] at hlen1;rw [List.length_nil];omega)).mono ?_
 rintro e w12 ⟨x2,rfl,hD12,hx12,hs12⟩
 rw [<-zkr] at hD12 |-
 have h32:(zvg (ms.map (·.f))).2.length=32:=by rw [zkr];exact zmg
 generalize zvg (ms.map (·.f))=T at *
 refine⟨arr T.2,rfl,?_⟩
 have hbl:zcm w12.heap w11.heap.size x2 T.1:=hD12.blobs
 refine jm rfl fun w13 hw13=>?_
 have hx13:Ext [] w12.heap w13.heap:=by rw [hw13];exact .push _
 have hd13:w13.heap[w12.heap.size]?=some (.cells (zc P zf) zf (0,0)):=by rw [hw13];exact zk
 refine z4l (k:=T.2) h32 rfl hd13 zcD fun w14 hw14=>?_
 have hx14:Ext [] w12.heap w14.heap:=by rw [hw14];exact hx13.set_own (.inl (Nat.le_refl _))
 have hd14:w14.heap[w12.heap.size]?=some (.cells (byteCells T.2).toArray zf (0,0)):=by rw [hw14];exact qc hd13
 refine je (s:=.slc) (t:=x2) rfl (hx14.get hD12.b (by simp)) rfl ?_
 have hx012:Ext [] H w12.heap:=hx011.own hx12 (fun b hb hlt=>by
  rcases List.mem_cons.1 hb with h | h
  ·omega
  ·simp [jk] at h)
 have hx014:=hx012.trans hx14
 have s12:=hx12.1
 have s14:=hx14.1
 have hS14:=hS.ext hx014 (by simp)
 have htot:Bl.total r+4096 * T.1.length < 1125899906842624:=by omega
 refine zl (Bl.z4p rfl hS14 (fun b hb=>by have:=hfp b hb;have:=hx014.1;omega) (hRo.ext hx014 (by simp)) h0 ((hbl.ext hx14 (by simp)).rows) htot hq hq2 hlen) ?_
 rintro e w15 ⟨code,r',c',fp',rfl,hS15,hx15,hf1,hf2,hP,ht⟩
 refine⟨code,rfl,?_⟩
 have s014:=hx014.1
 have nfp:∀ {b:Nat},H.size<=b->b∉fp:=fun h hb=>by have:=hfp _ hb;omega
 have hd14':w14.heap[H.size]?=some (.cells (zc P zf) zf (0,0)):=hx14.get (hx12.get (hx711.get hd7 (by simp)) (by simp [jk];omega)) (by simp)
 have hd15:=hx15.get hd14' (nfp (Nat.le_refl _))
 have he15:=hx15.get hd14 (nfp (by omega))
 have hx015:Ext fp H w15.heap:=(hx014.mono (by simp)).trans hx15
 have s15:=hx15.1
 have fin:∀ {w':World}{d:List UInt8},Ext [H.size] w15.heap w'.heap->d.length=32->d=(if code=0 then T.2 else Bl.nought)->∃ code' d' r'' c'' fp'',Ending.returned (.tuple #[arr d,.int .i64 code])=.returned (.tuple #[arr d',.int .i64 code'])/\d'.length=32/\Bl.Store w'.heap fp'' p q r'' c''/\Ext fp H w'.heap/\(∀ b∈fp'',b < w'.heap.size)/\(∀ b∈fp'',b∈fp\/H.size<=b) /\
   z9j (zir (ms.map (·.f))) q r T code' d' r''/\Bl.total r''<=Bl.total r+4096 * (1+18 * ms.length):=by
  intro w' d hxb hdl' hd'
  have s':=hxb.1
  refine⟨code,d,r',c',fp',rfl,hdl',hS15.ext hxb (fun b hb h=>?_),hx015.own hxb (fun c hc hlt=>by simp at hc;omega),fun b hb=>by have:=hf1 b hb;omega,fun b hb=>?_,⟨fun h=>absurd (hchk.trans hs) h,fun _=>⟨hP,hd'⟩⟩,by omega⟩
  ·simp at h;subst h
   rcases hf2 _ hb with h | h
   ·exact nfp (Nat.le_refl _) h
   ·omega
  ·rcases hf2 _ hb with h | h
   ·exact .inl h
   ·right;omega
 refine zan (fun h1=>?_) (fun h1=>?_)
 ·exact zza rfl hd15 fun w16 hx16=>fin hx16 Bl.zbf (by rw [if_neg h1])
 ·refine qp rfl he15 (by simp [h32]) ?_
  refine z4l (k:=T.2) h32 rfl hd15 zcD fun w17 hw17=>?_
  have hx17:Ext [H.size] w15.heap w17.heap:=by rw [hw17];exact Ext.set _ (by simp)
  have hd17:w17.heap[H.size]?=some (.cells (byteCells T.2).toArray zf (0,0)):=by rw [hw17];exact qc hd15
  refine qp rfl hd17 (by simp [h32]) ?_
  subst h1
  exact fin hx17 h32 (by rw [if_pos rfl])
end Go.Proofs.YtbmegmbnlajbbaaGreatDoor
namespace Go.Proofs.YtbmegmbnlajbbaaGreatDoor
open Go Go.Fw Go.Proofs Go.Sort
theorem qg2 {T E:TypeId}{sz:Nat}{H:Heap}{a:Option Addr}{l c:Nat}{vs:List Value}{i:Nat}{n:Int}(hu:P.underlying T=some (.slice E)) (hs:(P.info? E).map (·.size)=some sz) (hL:Cells H a vs) (hc:l<=c) (hi:i<=l) (hn:n=(i:Int)) :
  ∃ a',(∀ w,(Instr.sliceAt T (.slice a l c) none (some (.int .i64 n)) none).run P w=.ok (.slice a' i c) w)/\Cells H a' (vs.take (i * sz)):=by
 refine⟨_,fun w=>za9 (l:=0) (h:=i) hu hs .no (.yes hn) (Nat.zero_le _) (by omega),?_⟩
 by_cases h:c=0
 ·rw [if_pos h];exact hL.take _
 ·rw [if_neg h,Nat.zero_mul]
  have:=hL.part 0 vs.length (by omega)
  simp only [List.drop_zero,List.take_length] at this
  exact this.take _
theorem z3j {T E:TypeId}{sz:Nat}{H:Heap}{a:Option Addr}{l c:Nat}{vs:List Value}{i:Nat}{n:Int}(hu:P.underlying T=some (.slice E)) (hs:(P.info? E).map (·.size)=some sz) (hL:Cells H a vs) (hv:vs.length=l * sz) (hc:l<=c) (hi:i<=l) (hn:n=(i:Int)) :
  ∃ a',(∀ w,(Instr.sliceAt T (.slice a l c) (some (.int .i64 n)) none none).run P w=.ok (.slice a' (l-i) (c-i)) w)/\Cells H a' (vs.drop (i * sz)):=by
 refine⟨_,fun w=>za9 (l:=i) (h:=l) hu hs (.yes hn) .no (by omega) (by omega),?_⟩
 by_cases h:c=i
 ·left
  rw [List.drop_eq_nil_of_le]
  rw [hv,show l=i by omega];exact Nat.le_refl _
 ·rw [if_neg h]
  have h1:i * sz<=l * sz:=Nat.mul_le_mul_right _ hi
  have:=hL.part (i * sz) (vs.length-i * sz) (by omega)
  rwa [List.take_of_length_le (by simp)] at this
abbrev NR:=(Option Addr×Nat×Nat)×Path
def encR (y:NR):List Value:=[zb2 y.1]
theorem qbi (ys:List NR):ys.flatMap encR=ys.map fun y=>zb2 y.1:=by
 induction ys with
 | nil=>rfl
 | cons y ys ih=>rw [List.flatMap_cons,ih];rfl
def qcv (H:Heap) (y:NR):Prop:=Mine H 0 jw 1 y.1 (strRow y.2)
def zp8 (H:Heap) (B:Nat) (x:Option Addr×Nat×Nat) (ps:List Path):Prop:=
 ∃ ys:List NR,Mine H B zam 1 x (ys.flatMap encR)/\ys.map (·.2)=ps/\∀ y∈ys,qcv H y
theorem zp8.nil {H:Heap}{B:Nat}:zp8 H B (none,0,0) []:=⟨[],.inl ⟨rfl,rfl⟩,rfl,by simp⟩
theorem qlf (ys:List NR):(ys.flatMap encR).length=ys.length:=by rw [qbi];simp
theorem zp8.len {H:Heap}{B:Nat}{x:Option Addr×Nat×Nat}{ps:List Path}(h:zp8 H B x ps):x.2.1=ps.length:=by
 obtain⟨ys,h1,h2,_⟩:=h
 have:=h1.len
 rw [qlf] at this
 rw [<-h2];simp;omega
theorem zp8.ext {H H':Heap}{B:Nat}{x:Option Addr×Nat×Nat}{ps:List Path}(h:zp8 H B x ps) (hx:Ext [] H H'):zp8 H' B x ps:=by
 obtain⟨ys,h1,h2,h3⟩:=h
 exact⟨ys,h1.ext hx (by simp),h2,fun y hy=>Mine.ext (h3 y hy) hx (by simp)⟩
theorem zp8.cap {H:Heap}{B:Nat}{x:Option Addr×Nat×Nat}{ps:List Path}(h:zp8 H B x ps):x.2.1<=x.2.2:=by
 obtain⟨ys,h1,_⟩:=h
 exact zic h1
theorem qcv.len {H:Heap}{z:Option Addr×Nat×Nat}{p:Path}(h:qcv H (z,p)):z.2.1=p.length:=by
 have:=Mine.len h
 simp at this;omega
structure Seen (H:Heap) (a:Option Addr) (x:Option Addr×Nat×Nat) (ys:List NR) (L:List Fil):Prop where
 row:Cells H a (L.flatMap zol)
 cells:Cells H x.1 (ys.flatMap encR)
 len:x.2.1=ys.length
 cap:x.2.1<=x.2.2
 path:∀ y∈ys,qcv H y
 eq:ys.map (·.2)=L.map nm
theorem Seen.ext {H H':Heap}{a:Option Addr}{x:Option Addr×Nat×Nat}{ys:List NR}{L:List Fil}(h:Seen H a x ys L) (hx:Ext [] H H'):Seen H' a x ys L:=
 ⟨h.row.ext hx (by simp),h.cells.ext hx (by simp),h.len,h.cap,fun y hy=>Mine.ext (h.path y hy) hx (by simp),h.eq⟩
theorem Seen.none {H:Heap}{a:Option Addr}{x:Option Addr×Nat×Nat}{ys:List NR}{L:List Fil}(h:Seen H a x ys L){i:Nat}{p:Path}(hno:∀ y∈ys.take i,y.2≠p):∀ g∈L.take i,nm g≠p:=by
 intro g hg e
 have h1:(ys.take i).map (·.2)=(L.take i).map nm:=by rw [List.map_take,h.eq,List.map_take]
 have:p∈(ys.take i).map (·.2):=by rw [h1];exact List.mem_map.2 ⟨g,hg,e⟩
 obtain⟨y,hy,e2⟩:=List.mem_map.1 this
 exact hno y hy e2
theorem Seen.small {H:Heap}{a:Option Addr}{x:Option Addr×Nat×Nat}{ys:List NR}{L:List Fil}(h:Seen H a x ys L):∀ y∈ys,y.2.length<=8:=by
 intro y hy
 have:y.2∈L.map nm:=by rw [<-h.eq];exact List.mem_map.2 ⟨y,hy,rfl⟩
 obtain⟨g,_,e⟩:=List.mem_map.1 this
 rw [<-e];exact (znu g).2
theorem Seen.count {H:Heap}{a:Option Addr}{x:Option Addr×Nat×Nat}{ys:List NR}{L:List Fil}(h:Seen H a x ys L):ys.length=L.length:=by
 have:=congrArg List.length h.eq
 simpa using this
theorem zz7 {L:List Fil}(h:zcp L=0):zir L=zco L:=by unfold zir;rw [if_neg (by simpa using h)]
end Go.Proofs.YtbmegmbnlajbbaaGreatDoor
namespace Go.Proofs.YtbmegmbnlajbbaaGreatDoor
open Go Go.Fw Go.Proofs Go.Sort
theorem qjg {cs:Array Value}{t:TypeId}{o:Nat}{v:Value}{w:World}(ha:(isAgg t).run P w=.ok false w) (hc:cs[o]?=some v):(part t cs o).run P w=.ok v w:=by
 simp [part,ha,hc]
theorem qat {r:Bl.SM}{c:Nat}(h:MOk (fun L:List UInt8=>L.length=32) r c){k L:List UInt8}(hv:Bl.vw r k=some L):L.length<=Bl.total r:=by
 have h1:=Bl.zzt h (k:=k) (c':=0) (v:=((none,0,0),[]))
 have h2:Bl.qa6 r k=L.length:=by unfold Bl.qa6;rw [hv]
 simp only [List.length_nil] at h1
 omega
def dgS (s:Rest):List UInt8×Rest:=match s with | none=>(Bl.nought,none) | some R=>if 32<=R.length then (R.take 32,some (R.drop 32)) else (Bl.nought,none)
theorem zma {s:Rest}:(dgS s).1.length=32:=by
 unfold dgS
 cases s with
 | none=>exact Bl.zbf
 | some R=>
  simp only
  split
  ·simp;omega
  ·exact Bl.zbf
theorem slA {b:Nat}{w:World}:(Instr.sliceAt zf (Value.pointer (some (⟨b,0,none⟩:Addr))) none none none).run P w=.ok (.slice (some ⟨b,0,none⟩) 32 32) w:=by
 rw [zdp (l:=0) (h:=32) Bl.u27 sz8 .no .no (by omega) (by omega)]
 simp [Addr.add]
theorem qi3 {w:World}{H:Heap}{b:Nat}{c:Array Value}{T:TypeId}{y:Option Addr×Nat×Nat}{k:List UInt8}(hk:k.length<=32) (hw:w.heap=H) (hb:H[b]?=some (.cells c T (0,0))) (hs:c.size=32) (hy:Cells H y.1 (byteCells k)) (hl:y.2.1=k.length){K:Int->World->Prop}
  (hK:∀ n w',w'.heap=H.setIfInBounds b (.cells (setCells c 0 (byteCells k)) T (0,0))->K n w') :
  zaw P (Builtin.copy_ #[zi,zi] zbl #[(Value.slice (some ⟨b,0,none⟩) 32 32),(Value.slice y.1 y.2.1 y.2.2)]) (.int .i64) w K:=by
 obtain⟨w4,hrun,hcm4,hw4⟩:=z8y (P:=P) (w:=w) (st:=zi) (xt:=zi) (ty:=zbl) (od:=0) (dl:=32) (dc:=32) (sa:=y.1) (sl:=y.2.1) (sc:=y.2.2) (vs:=byteCells k) uS8 sz8 hw hy (by rw [hl];simp;omega) jo hb (by rw [hs];simpa using hk)
 exact zah _ w4 hrun (hK _ w4 hw4) hcm4
theorem qh7:zc P zf=(byteCells Bl.nought).toArray:=by kernel_rfl
theorem qdp {w:World}{H:Heap}{b:Nat}{F:List Nat}{s:Rest}(hw:w.heap=H) (hI:InW H b F s) (hF:∀ c∈F,c < H.size) :
  zy P zfx #[.pointer (some ⟨b,0,none⟩)] w fun e w'=>e=.returned (arr (dgS s).1)/\InW w'.heap b F (dgS s).2/\Ext [b] H w'.heap:=by
 have hbl:=hI.lt
 refine zrn ?_
 unfold zlx
 refine jm hw fun w1 hw1=>?_
 have hx1:Ext [] H w1.heap:=by rw [hw1];exact .push _
 have hb1:w1.heap[H.size]?=some (.cells (zc P zf) zf (0,0)):=by rw [hw1];exact zk
 refine jm rfl fun w2 hw2=>?_
 have hx2:Ext [] w1.heap w2.heap:=by rw [hw2];exact .push _
 have hb2:w2.heap[w1.heap.size]?=some (.cells (zc P zf) zf (0,0)):=by rw [hw2];exact zk
 refine jv rfl fun w3 hw3=>?_
 have hx3:Ext [] H w3.heap:=by rw [hw3];exact hx1.trans hx2
 have hb3:w3.heap[w1.heap.size]?=some (.cells (zc P zf) zf (0,0)):=by rw [hw3];exact hb2
 have hd3:w3.heap[H.size]?=some (.cells (zc P zf) zf (0,0)):=by rw [hw3];exact hx2.get hb1 (by simp)
 have s1:=lt_of_get hb1
 have s3:=lt_of_get hb3
 have hI3:=hI.ext hx3 (by simp) (by simp)
 refine qm (s:=.slc) (some ⟨w1.heap.size,0,none⟩,32,32) slA ?_
 have htake:zy P zfu #[.pointer (some ⟨b,0,none⟩),.int .i64 32] w3 fun e w'=>Ext [b] w3.heap w'.heap/\InW w'.heap b F (dgS s).2/\∃ y k,e=.returned (zb2 y)/\Cells w'.heap y.1 (byteCells k)/\y.2.1=k.length/\k.length<=32/\(∀ c∈jk y,c∈F)/\setCells (zc P zf) 0 (byteCells k)=(byteCells (dgS s).1).toArray:=by
  have hnil:setCells (zc P zf) 0 (byteCells [])=(byteCells Bl.nought).toArray:=by rw [qh7];rfl
  cases s with
  | none=>
   obtain⟨x,e,h1,h2,h3,h4⟩:=id hI3
   refine zmz ?_
   unfold zj4
   refine zar ?_
   refine jr rfl ?_
   simp only [qg,vg]
   refine je (s:=.int .i64) (t:=e) rfl h1 rfl ?_
   refine zai (by simpa using h4) ?_
   exact⟨.refl _ _,hI3,(none,0,0),[],rfl,.inl rfl,rfl,by simp,by simp [jk],hnil⟩
  | some R=>
   refine (z8r (n:=32) rfl hI3 (by omega)).mono ?_
   rintro e w' ⟨hx,⟨hl,rfl,h3⟩ | ⟨hl,y,rfl,hC,hy,ho,h3⟩⟩
   ·have e1:dgS (some R)=(Bl.nought,none):=by unfold dgS;simp only;rw [if_neg (by omega)]
    rw [e1]
    exact⟨hx,h3,(none,0,0),[],rfl,.inl rfl,rfl,by simp,by simp [jk],hnil⟩
   ·have e1:dgS (some R)=(R.take 32,some (R.drop 32)):=by unfold dgS;simp only;rw [if_pos hl]
    rw [e1]
    have hl32:(R.take 32).length=32:=by simp;omega
    exact⟨hx,h3,y,R.take 32,rfl,hC,by rw [hl32,hy],by omega,ho,zak (by rw [zcD];simp [hl32])⟩
 refine zl htake ?_
 rintro e w4 ⟨hx4,hI4,y,k,rfl,hC,hyl,hk,ho,hset⟩
 refine⟨y,rfl,⟨qm (s:=.slc) (some ⟨w1.heap.size,0,none⟩,32,32) slA rfl,?_⟩⟩
 have hb4:=hx4.get hb3 (by simp;omega)
 have hd4:=hx4.get hd3 (by simp;omega)
 refine qi3 hk rfl hb4 zcD hC hyl fun n w5 hw5=>?_
 rw [hset] at hw5
 have hx5:Ext [w1.heap.size] w4.heap w5.heap:=by rw [hw5];exact Ext.set _ (by simp)
 have hb5:w5.heap[w1.heap.size]?=some (.cells (byteCells (dgS s).1).toArray zf (0,0)):=by rw [hw5];exact qc hb4
 refine qp rfl hb5 (by simp [zma]) ?_
 have hd5:=hx5.get hd4 (by simp;omega)
 refine z4l (k:=(dgS s).1) zma rfl hd5 zcD fun w6 hw6=>?_
 have hx6:Ext [H.size] w5.heap w6.heap:=by rw [hw6];exact Ext.set _ (by simp)
 have hd6:w6.heap[H.size]?=some (.cells (byteCells (dgS s).1).toArray zf (0,0)):=by rw [hw6];exact qc hd5
 refine qp rfl hd6 (by simp [zma]) ?_
 refine⟨rfl,?_,?_⟩
 ·refine (hI4.ext hx5 (by simp;omega) fun c hc h=>?_).ext hx6 (by simp;omega) fun c hc h=>?_
  ·simp at h;subst h;have:=hF _ hc;omega
  ·simp at h;subst h;have:=hF _ hc;omega
 ·have h03:Ext [b] H w3.heap:=hx3.mono (by simp)
  exact ((h03.trans hx4).own hx5 (fun c hc hlt=>by simp at hc;omega)).own hx6 (fun c hc hlt=>by simp at hc;omega)
theorem bNk (n:Int) (w:World):(Instr.build zh #[(0,.int .i64 n)]).run P w=.ok (.agg #[.int .i64 n,.string .empty,.int .i64 0,.slice none 0 0,.slice none 0 0]) w:=by kernel_rfl
theorem qk5 (s:ByteArray) (n:Int) (a0 a1 a2 a3 a4 a5 a6 a7 a8 a9 a10 a11 a12 a13 a14 a15 a16 a17 a18 a19 a20 a21 a22 a23 a24 a25 a26 a27 a28 a29 a30 a31:UInt8) (w:World):(Instr.build zu #[(0,.string s),(1,.int .i64 n),(2,arr [a0,a1,a2,a3,a4,a5,a6,a7,a8,a9,a10,a11,a12,a13,a14,a15,a16,a17,a18,a19,a20,a21,a22,a23,a24,a25,a26,a27,a28,a29,a30,a31])]).run P w=.ok (.agg ([Value.string s,Value.int .i64 n]++byteCells [a0,a1,a2,a3,a4,a5,a6,a7,a8,a9,a10,a11,a12,a13,a14,a15,a16,a17,a18,a19,a20,a21,a22,a23,a24,a25,a26,a27,a28,a29,a30,a31]).toArray) w:=by kernel_rfl
theorem bT3 (s:ByteArray) (n:Int){k:List UInt8}(hk:k.length=32) (w:World):(Instr.build zu #[(0,.string s),(1,.int .i64 n),(2,arr k)]).run P w=.ok (.agg ([Value.string s,Value.int .i64 n]++byteCells k).toArray) w:=by
 match k,hk with
 | [a0,a1,a2,a3,a4,a5,a6,a7,a8,a9,a10,a11,a12,a13,a14,a15,a16,a17,a18,a19,a20,a21,a22,a23,a24,a25,a26,a27,a28,a29,a30,a31],_=>exact qk5 s n a0 a1 a2 a3 a4 a5 a6 a7 a8 a9 a10 a11 a12 a13 a14 a15 a16 a17 a18 a19 a20 a21 a22 a23 a24 a25 a26 a27 a28 a29 a30 a31 w
theorem qf8 (m:Nat) (n:Nat) (w:World):(Builtin.min_ #[zdh,zdh] zdh #[.int .u64 (n:Int),.int .u64 (m:Int)]).run P w=.ok (.int .u64 ((min n m:Nat):Int)) w:=by
 rw [run_min_int2]
 congr 2
 split <;> omega
def zdw:Nat->Rest->List (List UInt8)×Rest
 | 0,s=>([],s)
 | k+1,s=>((zdw k s).1++[(dgS (zdw k s).2).1],(dgS (zdw k s).2).2)
def zs8 (s:Rest):Itm×Rest:=(⟨(txS 16 s).1,((min (nmS (txS 16 s).2).1 9:Nat):Int),(dgS (nmS (txS 16 s).2).2).1⟩,(dgS (nmS (txS 16 s).2).2).2)
def zbu:Nat->Rest->List Itm×Rest
 | 0,s=>([],s)
 | k+1,s=>((zbu k s).1++[(zs8 (zbu k s).2).1],(zs8 (zbu k s).2).2)
def zaq (s:Rest):Nod×Rest:=
 if min (nmS s).1 9=1 then (⟨1,(txS 64 (nmS s).2).1,0,[],[]⟩,(txS 64 (nmS s).2).2)
 else if min (nmS s).1 9=2 then (⟨2,[],((min (nmS (nmS s).2).1 1025:Nat):Int),(zdw ((min (nmS (nmS s).2).1 1025+63) / 64) (nmS (nmS s).2).2).1,[]⟩,(zdw ((min (nmS (nmS s).2).1 1025+63) / 64) (nmS (nmS s).2).2).2)
 else if min (nmS s).1 9=3 then (⟨3,[],0,[],(zbu (min (nmS (nmS s).2).1 65) (nmS (nmS s).2).2).1⟩,(zbu (min (nmS (nmS s).2).1 65) (nmS (nmS s).2).2).2)
 else (⟨((min (nmS s).1 9:Nat):Int),[],0,[],[]⟩,(nmS s).2)
theorem zlh {s:Rest}:∀ {k:Nat},(zdw k s).1.length=k
 | 0=>rfl
 | k+1=>by rw [zdw,List.length_append,zlh];rfl
theorem zw3 {s:Rest}:∀ {k:Nat},∀ p∈(zdw k s).1,p.length=32
 | 0,p,h=>by cases h
 | k+1,p,h=>by
  simp only [zdw,List.mem_append,List.mem_singleton] at h
  rcases h with h | rfl
  ·exact zw3 p h
  ·exact zma
theorem zj5 {s:Rest}:∀ {k:Nat},(zbu k s).1.length=k
 | 0=>rfl
 | k+1=>by rw [zbu,List.length_append,zj5];rfl
theorem z1d {s:Rest}:∀ {k:Nat},∀ p∈(zbu k s).1,p.sum.length=32
 | 0,p,h=>by cases h
 | k+1,p,h=>by
  simp only [zbu,List.mem_append,List.mem_singleton] at h
  rcases h with h | rfl
  ·exact z1d p h
  ·exact zma
theorem zp7 {s:Rest}:(∀ p∈(zaq s).1.parts,p.length=32)/\∀ i∈(zaq s).1.items,i.sum.length=32:=by
 unfold zaq
 split
 ·simp
 ·split
  ·exact⟨zw3,by simp⟩
  ·split
   ·exact⟨by simp,z1d⟩
   ·simp
structure NodM (H:Heap) (B:Nat) (n:Nod) (xp xi:Option Addr×Nat×Nat):Prop where
 parts:Mine H B zf 32 xp (n.parts.flatMap Bl.zat)
 items:Mine H B zu 34 xi (n.items.flatMap zb0)
 p32:∀ p∈n.parts,p.length=32
 i32:∀ i∈n.items,i.sum.length=32
theorem NodM.nodW {H:Heap}{B:Nat}{n:Nod}{xp xi:Option Addr×Nat×Nat}(h:NodM H B n xp xi):NodW H n xp xi:=by
 have l1:=h.parts.len
 have l2:=h.items.len
 rw [zq Bl.zat Bl.zab] at l1
 rw [zq zb0 zac] at l2
 exact⟨h.parts.cells,by omega,h.items.cells,by omega,h.p32,h.i32⟩
theorem NodM.ext {H H':Heap}{B:Nat}{n:Nod}{xp xi:Option Addr×Nat×Nat}{M:List Nat}(h:NodM H B n xp xi) (hx:Ext M H H') (hM:∀ m∈M,m < B):NodM H' B n xp xi:=
 ⟨h.parts.ext hx (fun c hc hm=>by have:=qx h.parts c hc;have:=hM c hm;omega),h.items.ext hx (fun c hc hm=>by have:=qx h.items c hc;have:=hM c hm;omega),h.p32,h.i32⟩
theorem NodM.mono {H:Heap}{B B':Nat}{n:Nod}{xp xi:Option Addr×Nat×Nat}(h:NodM H B n xp xi) (hB:B'<=B):NodM H B' n xp xi:=
 ⟨h.parts.mono hB,h.items.mono hB,h.p32,h.i32⟩
theorem NodM.bare {H:Heap}{B:Nat}{n:Nod}(hp:n.parts=[]) (hi:n.items=[]):NodM H B n (none,0,0) (none,0,0):=
 ⟨by rw [hp];exact .inl ⟨rfl,rfl⟩,by rw [hi];exact .inl ⟨rfl,rfl⟩,by rw [hp];simp,by rw [hi];simp⟩
theorem zzf {w:World}{H:Heap}{B:Nat}{x:Option Addr×Nat×Nat}{T:List Itm}{i:Itm}{Q:World->Prop}(hw:w.heap=H) (hm:Mine H B zu 34 x (T.flatMap zb0)) (hBs:B<=H.size) (hlen:T.length<=1073741824) (hQ:∀ w',Ext [] H w'.heap->Q w'){K:(Option Addr×Nat×Nat)->World->Prop}
  (hK:∀ x' w',Mine w'.heap B zu 34 x' ((T++[i]).flatMap zb0)->Ext (jk x) H w'.heap->(∀ c∈jk x',c∈jk x\/H.size<=c)->K x' w') :
  zaw P (Instr.buildSlice xg 1 #[(0,.agg (zb0 i).toArray)]) .slc w fun (t27:(Option Addr×Nat×Nat)) w_13=>Q w_13 /\
  zaw P (Builtin.append_ #[xg,xg] xg #[(Value.slice x.1 x.2.1 x.2.2),(Value.slice t27.1 t27.2.1 t27.2.2)]) .slc w_13 K:=by
 have hlx:x.2.1=T.length:=by
  have:=hm.len
  rw [zq zb0 zac] at this
  omega
 refine zah (s:=.slc) (some ⟨w.heap.size,0,none⟩,1,1) _ (zen ET uST (v:=.agg (zb0 i).toArray) (by simp [Value.cells,zac]) (by omega) (by omega)) ?_
 subst hw
 have hxp:Ext [] w.heap (w.heap.push (.cells (Value.agg (zb0 i).toArray).cells zu)):=.push _
 refine⟨hQ _ hxp,?_⟩
 refine zcj (bts:=56) (n:=1) (us:=zb0 i) (H:=w.heap.push (.cells (Value.agg (zb0 i).toArray).cells zu)) ET (by omega) uST (zbg uST) rfl (hm.ext hxp (by simp)) (by simp;omega)
  (Src.slc rfl (.inr ⟨w.heap.size,0,_,_,_,rfl,zk,by simp [zft],by simp [zft,List.take_of_length_le]⟩) (by rw [zac])) ztm (by omega) ?_
 intro x' w4 hm4 hl4 hx4 hs4
 refine hK x' w4 (by rw [List.flatMap_append,List.flatMap_singleton];exact hm4) ((hxp.mono (by simp)).trans hx4) (fun c hc=>?_)
 rcases hs4 c hc with h | h
 ·exact .inl h
 ·right;have:=hxp.1;omega
set_option maxHeartbeats 8000000 in
theorem qfl {w:World}{H:Heap}{b:Nat}{F:List Nat}{s:Rest}(hw:w.heap=H) (hI:InW H b F s) (hF:∀ c∈F,c < H.size) :
  zy P zow #[.pointer (some ⟨b,0,none⟩)] w fun e w'=>∃ xp xi,e=.returned (.agg (zcx (zaq s).1 xp xi).toArray)/\NodM w'.heap H.size (zaq s).1 xp xi/\InW w'.heap b F (zaq s).2/\Ext [b] H w'.heap:=by
 have hbl:=hI.lt
 refine z1k ?_
 unfold ztp
 refine jm hw fun w1 hw1=>?_
 have hx1:Ext [] H w1.heap:=by rw [hw1];exact .push _
 have hd1:w1.heap[H.size]?=some (.cells (zc P zh) zh (0,0)):=by rw [hw1];exact zk
 have s1:=lt_of_get hd1
 refine zl (z03 rfl (hI.ext hx1 (by simp) (by simp))) ?_
 rintro e w2 ⟨rfl,hI2,hx2⟩
 refine⟨((nmS s).1:Int),rfl,?_⟩
 have s2:=hx2.1
 refine qm (s:=.int .u64) ((min (nmS s).1 9:Nat):Int) (qf8 9 _ _) ?_
 refine zhb (by omega) (by omega) ?_
 refine qm (s:=.any) _ (bNk _ _) ?_
 refine qa8 ⟨((min (nmS s).1 9:Nat):Int),[],0,[],[]⟩ (none,0,0) (none,0,0) rfl fun w4 hw4=>?_
 have hx4:Ext [] w2.heap w4.heap:=by rw [hw4];exact .push _
 have hn4:w4.heap[w2.heap.size]?=some (.cells (zcx ⟨((min (nmS s).1 9:Nat):Int),[],0,[],[]⟩ (none,0,0) (none,0,0)).toArray zh (0,0)):=by rw [hw4];exact zk
 have s4:=lt_of_get hn4
 have hd4:=hx4.get (hx2.get hd1 (by simp;omega)) (by simp)
 have hI4:=hI2.ext hx4 (by simp) (by simp)
 have hx04:Ext [b] H w4.heap:=((hx1.mono (by simp)).trans hx2).trans (hx4.mono (by simp))
 refine Go.Fw.joinP_of (fun _ W=>∃ xp xi,W.heap[w2.heap.size]?=some (.cells (zcx (zaq s).1 xp xi).toArray zh (0,0))/\(Mine W.heap w4.heap.size zf 32 xp ((zaq s).1.parts.flatMap Bl.zat)/\Mine W.heap w4.heap.size zu 34 xi ((zaq s).1.items.flatMap zb0))/\InW W.heap b F (zaq s).2/\Ext [b] H W.heap/\W.heap[H.size]?=some (.cells (zc P zh) zh (0,0))) ?_ ?_
 rotate_left
 ·rintro _ W ⟨xp,xi,h1,h2,h3,h4,hd⟩
  refine qp rfl h1 rfl ?_
  refine zay (v:=.agg (zcx (zaq s).1 xp xi).toArray) (by rw [szN];rfl) (by simp [Value.cells,zcx]) (by
   intro v hv
   simp only [Value.cells,zcx,List.mem_cons,List.not_mem_nil,or_false] at hv
   rcases hv with rfl | rfl | rfl | rfl | rfl <;> rfl) rfl hd (by rw [zcN];simp [Value.cells,zcx]) fun w5 hw5=>?_
  rw [zak (by rw [zcN];simp [Value.cells,zcx])] at hw5
  have hx5:Ext [H.size] W.heap w5.heap:=by rw [hw5];exact Ext.set _ (by simp)
  have hd5:w5.heap[H.size]?=some (.cells (zcx (zaq s).1 xp xi).toArray zh (0,0)):=by rw [hw5];exact qc hd
  refine qp rfl hd5 rfl ?_
  have hnod:NodM w5.heap H.size (zaq s).1 xp xi:=by
   obtain⟨m1,m2⟩:=h2
   exact (NodM.ext ⟨m1,m2,zp7.1,zp7.2⟩ hx5 (fun c hc=>by simp at hc;omega)).mono (by omega)
  refine⟨xp,xi,rfl,hnod,h3.ext hx5 (by simp;omega) (fun c hc h=>by simp at h;subst h;have:=hF _ hc;omega),h4.own hx5 (fun c hc hlt=>by simp at hc;omega)⟩
 refine je (s:=.int .i64) (t:=((min (nmS s).1 9:Nat):Int)) rfl hn4 rfl ?_
 refine zar ?_
 have nil2:∀ {W:World},Mine W.heap w4.heap.size zf 32 (none,0,0) (([]:List (List UInt8)).flatMap Bl.zat)/\Mine W.heap w4.heap.size zu 34 (none,0,0) (([]:List Itm).flatMap zb0):=⟨.inl ⟨rfl,rfl⟩,.inl ⟨rfl,rfl⟩⟩
 have bn:w2.heap.size≠b:=by have:=hx2.1;have:=hx1.1;omega
 have fn:∀ c∈F,w2.heap.size≠c:=fun c hc=>by have:=hF c hc;have:=hx2.1;have:=hx1.1;omega
 refine zbo (fun h1=>?_) (fun h1=>?_)
 ·have h1:min (nmS s).1 9=1:=by omega
  have hr:zaq s=(⟨1,(txS 64 (nmS s).2).1,0,[],[]⟩,(txS 64 (nmS s).2).2):=by unfold zaq;rw [if_pos h1]
  rw [h1] at hn4
  refine zl (z7z (most:=64) rfl hI4 (by omega)) ?_
  rintro e w5 ⟨rfl,hI5,hx5⟩
  refine⟨strOf (txS 64 (nmS s).2).1,rfl,?_⟩
  have hn5:=hx5.get hn4 (by simp;exact bn)
  refine zbd rfl hn5 (by simp [zcx]) fun w6 hw6=>?_
  have hx6:Ext [w2.heap.size] w5.heap w6.heap:=by rw [hw6];exact Ext.set _ (by simp)
  rw [hr]
  refine⟨(none,0,0),(none,0,0),by rw [hw6];exact qc hn5,nil2,hI5.ext hx6 (by simp;exact bn.symm) (fun c hc h=>by simp at h;exact fn c hc h.symm),(hx04.trans hx5).own hx6 (fun c hc hlt=>by simp at hc;omega),hx6.get (hx5.get hd4 (by simp;omega)) (by simp;omega)⟩
 refine zbo (fun h2=>?_) (fun h2=>?_)
 ·have h1:min (nmS s).1 9≠1:=by omega
  have h2:min (nmS s).1 9=2:=by omega
  generalize hs2:nmS (nmS s).2=a2 at *
  have hr:zaq s=(⟨2,[],((min a2.1 1025:Nat):Int),(zdw ((min a2.1 1025+63) / 64) a2.2).1,[]⟩,(zdw ((min a2.1 1025+63) / 64) a2.2).2):=by unfold zaq;rw [if_neg h1,if_pos h2,hs2]
  rw [h2] at hn4
  refine zl (z03 rfl hI4) ?_
  rintro e w5 ⟨rfl,hI5,hx5⟩
  refine⟨((nmS (nmS s).2).1:Int),rfl,?_⟩
  rw [hs2] at hI5 |-
  refine qm (s:=.int .u64) ((min a2.1 1025:Nat):Int) (qf8 1025 _ _) ?_
  generalize hK:min a2.1 1025=K at *
  have hK2:K<=1025:=by omega
  refine zhb (by omega) (by omega) ?_
  have hn5:=hx5.get hn4 (by simp;exact bn)
  refine zbd rfl hn5 (by simp [zcx]) fun w6 hw6=>?_
  have hx6:Ext [w2.heap.size] w5.heap w6.heap:=by rw [hw6];exact Ext.set _ (by simp)
  have hn6:w6.heap[w2.heap.size]?=some (.cells (zcx ⟨2,[],(K:Int),[],[]⟩ (none,0,0) (none,0,0)).toArray zh (0,0)):=by rw [hw6];exact qc hn5
  refine je (s:=.int .i64) (t:=(K:Int)) rfl hn6 rfl ?_
  have hparts:zy P zhl #[.int .i64 (K:Int)] w6 fun e w'=>e=.returned (.int .i64 (((K+63) / 64:Nat):Int))/\w'=w6:=by
   refine zp1 ?_
   unfold zmx
   refine jd ((K:Int)+64) rfl (by omega) (by omega) ?_
   refine zb3 ((K:Int)+63) (by omega) (by omega) (by omega) ?_
   refine z3t (K+63) 64 (by omega) rfl (by omega) (by omega) ?_
   exact⟨rfl,rfl⟩
  refine zl hparts ?_
  rintro e w7 ⟨rfl,rfl⟩
  refine⟨(((K+63) / 64:Nat):Int),rfl,?_⟩
  have hI6:=hI5.ext hx6 (by simp;exact bn.symm) (fun c hc h=>by simp at h;exact fn c hc h.symm)
  have hx06:=(hx04.trans hx5).own hx6 (fun c hc hlt=>by simp at hc;omega)
  have hd6:=hx6.get (hx5.get hd4 (by simp;omega)) (by simp;omega)
  have s46:w4.heap.size<=w7.heap.size:=Nat.le_trans hx5.1 hx6.1
  generalize hM:(K+63) / 64=M at *
  rw [hr]
  refine jg (fun (t:Int) W=>∃ (i:Nat) (xp:Option Addr×Nat×Nat),t=(i:Int)/\i<=M/\W.heap[w2.heap.size]?=some (.cells (zcx ⟨2,[],(K:Int),(zdw i a2.2).1,[]⟩ xp (none,0,0)).toArray zh (0,0))/\Mine W.heap w4.heap.size zf 32 xp ((zdw i a2.2).1.flatMap Bl.zat) /\
   InW W.heap b F (zdw i a2.2).2/\Ext [b] H W.heap/\W.heap[H.size]?=some (.cells (zc P zh) zh (0,0))/\w4.heap.size<=W.heap.size) (fun t _=>(M-t).toNat) ⟨0,(none,0,0),rfl,Nat.zero_le _,hn6,.inl ⟨rfl,rfl⟩,hI6,hx06,hd6,s46⟩ ?_
  rintro _ W ⟨i,xp,rfl,hi,g1,g2,g3,g4,g5,g6⟩
  refine zx (fun hlt=>?_) (fun hge=>?_)
  ·refine jv rfl fun w8 hw8=>?_
   rw [<-hw8] at g1 g2 g3 g4 g5 g6
   refine je (s:=.slc) (t:=xp) rfl g1 rfl ?_
   refine zl (qdp rfl g3 (fun c hc=>by have:=hF c hc;have:=g4.1;omega)) ?_
   rintro e w9 ⟨rfl,hI9,hx9⟩
   refine⟨arr (dgS (zdw i a2.2).2).1,rfl,?_⟩
   have k1:=hx9.get g1 (by simp;exact bn)
   have k2:=g2.ext hx9 (fun c hc h=>by simp at h;subst h;have:=qx g2 _ hc;omega)
   have s9:=hx9.1
   refine⟨je (s:=.slc) (o:=3) (t:=xp) (K:=fun z=>Value.slice z.1 z.2.1 z.2.2=Value.slice xp.1 xp.2.1 xp.2.2) rfl k1 rfl rfl,?_⟩
   refine zua rfl k2 (by omega) zma (by rw [zlh];omega) (fun w10 hx10=>je (s:=.slc) (o:=3) (t:=xp) (K:=fun z=>Value.slice z.1 z.2.1 z.2.2=Value.slice xp.1 xp.2.1 xp.2.2) rfl (hx10.get k1 (by simp)) rfl rfl) fun xp2 w11 hm11 hx11 hs11=>?_
   have own3:∀ {c:Nat},c < w4.heap.size->c∉jk xp:=fun h hc=>by have:=qx g2 _ hc;omega
   have k11:=hx11.get k1 (own3 s4)
   refine zbd rfl k11 (by simp [zcx]) fun w12 hw12=>?_
   have hx12:Ext [w2.heap.size] w11.heap w12.heap:=by rw [hw12];exact Ext.set _ (by simp)
   have s11:=hx11.1
   have s12:=hx12.1
   refine jd ((i+1:Nat):Int) (by simp) (by omega) (by omega) ?_
   refine⟨⟨i+1,xp2,rfl,by omega,by rw [hw12];exact qc k11,hm11.ext hx12 (fun c hc h=>by simp at h;subst h;have:=qx hm11 _ hc;omega),?_,?_,?_,by omega⟩,by omega⟩
   ·refine (hI9.ext hx11 (own3 (by omega)) fun c hc=>own3 (by have:=hF c hc;omega)).ext hx12 (by simp;exact bn.symm) (fun c hc h=>by simp at h;exact fn c hc h.symm)
   ·exact ((g4.trans hx9).own hx11 (fun c hc hlt=>by have:=qx g2 _ hc;omega)).own hx12 (fun c hc hlt=>by simp at hc;omega)
   ·exact hx12.get (hx11.get (hx9.get g5 (by simp;omega)) (own3 (by omega))) (by simp;omega)
  ·obtain rfl:i=M:=by omega
   exact⟨xp,(none,0,0),g1,⟨g2,.inl ⟨rfl,rfl⟩⟩,g3,g4,g5⟩
 refine zbo (fun h3=>?_) (fun h3=>?_)
 ·have h1:min (nmS s).1 9≠1:=by omega
  have h2:min (nmS s).1 9≠2:=by omega
  have h3:min (nmS s).1 9=3:=by omega
  generalize hs2:nmS (nmS s).2=a2 at *
  have hr:zaq s=(⟨3,[],0,[],(zbu (min a2.1 65) a2.2).1⟩,(zbu (min a2.1 65) a2.2).2):=by unfold zaq;rw [if_neg h1,if_neg h2,if_pos h3,hs2]
  rw [h3] at hn4
  refine zl (z03 rfl hI4) ?_
  rintro e w7 ⟨rfl,hI6,hx5⟩
  refine⟨((nmS (nmS s).2).1:Int),rfl,?_⟩
  rw [hs2] at hI6 |-
  refine qm (s:=.int .u64) ((min a2.1 65:Nat):Int) (qf8 65 _ _) ?_
  generalize hM:min a2.1 65=M at *
  have hn6:=hx5.get hn4 (by simp;exact bn)
  have hx06:=hx04.trans hx5
  have hd6:=hx5.get hd4 (by simp;omega)
  have s46:w4.heap.size<=w7.heap.size:=hx5.1
  rw [hr]
  refine jg (fun (t:Int) W=>∃ (i:Nat) (xi:Option Addr×Nat×Nat),t=(i:Int)/\i<=M/\W.heap[w2.heap.size]?=some (.cells (zcx ⟨3,[],0,[],(zbu i a2.2).1⟩ (none,0,0) xi).toArray zh (0,0))/\Mine W.heap w4.heap.size zu 34 xi ((zbu i a2.2).1.flatMap zb0) /\
   InW W.heap b F (zbu i a2.2).2/\Ext [b] H W.heap/\W.heap[H.size]?=some (.cells (zc P zh) zh (0,0))/\w4.heap.size<=W.heap.size) (fun t _=>(M-t).toNat) ⟨0,(none,0,0),rfl,Nat.zero_le _,hn6,.inl ⟨rfl,rfl⟩,hI6,hx06,hd6,s46⟩ ?_
  rintro _ W ⟨i,xi,rfl,hi,g1,g2,g3,g4,g5,g6⟩
  refine zx (fun hlt=>?_) (fun hge=>?_)
  ·refine jv rfl fun w8 hw8=>?_
   rw [<-hw8] at g1 g2 g3 g4 g5 g6
   have re:∀ {W':World},W'.heap[w2.heap.size]?=some (.cells (zcx ⟨3,[],0,[],(zbu i a2.2).1⟩ (none,0,0) xi).toArray zh (0,0))->ld .slc (⟨w2.heap.size,4,none⟩:Addr) W' fun z=>Value.slice z.1 z.2.1 z.2.2=Value.slice xi.1 xi.2.1 xi.2.2:=fun h=>je (s:=.slc) (o:=4) (t:=xi) (K:=fun z=>Value.slice z.1 z.2.1 z.2.2=Value.slice xi.1 xi.2.1 xi.2.2) rfl h rfl rfl
   refine je (s:=.slc) (t:=xi) rfl g1 rfl ?_
   refine zl (z7z (most:=16) rfl g3 (by omega)) ?_
   rintro e w9 ⟨rfl,hI9,hx9⟩
   refine⟨strOf (txS 16 (zbu i a2.2).2).1,rfl,?_⟩
   have k9:=hx9.get g1 (by simp;exact bn)
   refine⟨re k9,?_⟩
   refine zl (z03 rfl hI9) ?_
   rintro e w10 ⟨rfl,hI10,hx10⟩
   refine⟨((nmS (txS 16 (zbu i a2.2).2).2).1:Int),rfl,?_⟩
   have k10:=hx10.get k9 (by simp;exact bn)
   refine⟨re k10,?_⟩
   refine qm (s:=.int .u64) ((min (nmS (txS 16 (zbu i a2.2).2).2).1 9:Nat):Int) (qf8 9 _ _) ?_
   refine zhb (by omega) (by omega) ?_
   have s9:=hx9.1
   have s10:=hx10.1
   have s04:=g4.1
   refine zl (qdp rfl hI10 (fun c hc=>by have:=hF c hc;omega)) ?_
   rintro e w11 ⟨rfl,hI11,hx11⟩
   refine⟨arr (dgS (nmS (txS 16 (zbu i a2.2).2).2).2).1,rfl,?_⟩
   have k11:=hx11.get k10 (by simp;exact bn)
   refine⟨qm (s:=.int .u64) ((min (nmS (txS 16 (zbu i a2.2).2).2).1 9:Nat):Int) (qf8 9 _ _) rfl,re k11,?_⟩
   refine qm (s:=.any) (.agg (zb0 (zs8 (zbu i a2.2).2).1).toArray) (by rw [bT3 _ _ zma];unfold zb0 zs8;rw [Bl.za7 zma];rfl) ?_
   have hx811:=(hx9.trans hx10).trans hx11
   have k2:=g2.ext hx811 (fun c hc h=>by simp at h;subst h;have:=qx g2 _ hc;omega)
   have s11:=hx11.1
   refine zzf (i:=(zs8 (zbu i a2.2).2).1) rfl k2 (by omega) (by rw [zj5];omega) (fun w12 hx12=>re (hx12.get k11 (by simp))) fun xi2 w13 hm13 hx13 hs13=>?_
   have own3:∀ {c:Nat},c < w4.heap.size->c∉jk xi:=fun h hc=>by have:=qx g2 _ hc;omega
   have k13:=hx13.get k11 (own3 s4)
   refine zbd rfl k13 (by simp [zcx]) fun w14 hw14=>?_
   have hx14:Ext [w2.heap.size] w13.heap w14.heap:=by rw [hw14];exact Ext.set _ (by simp)
   have s13:=hx13.1
   have s14:=hx14.1
   refine⟨((i+1:Nat):Int),(by rw [wrap_u64] <;> omega),?_⟩
   have hI:InW w11.heap b F (zbu (i+1) a2.2).2:=hI11
   refine⟨⟨i+1,xi2,rfl,by omega,by rw [hw14];exact qc k13,hm13.ext hx14 (fun c hc h=>by simp at h;subst h;have:=qx hm13 _ hc;omega),?_,?_,?_,by omega⟩,by omega⟩
   ·refine (hI.ext hx13 (own3 (by omega)) fun c hc=>own3 (by have:=hF c hc;omega)).ext hx14 (by simp;exact bn.symm) (fun c hc h=>by simp at h;exact fn c hc h.symm)
   ·exact ((g4.trans hx811).own hx13 (fun c hc hlt=>by have:=qx g2 _ hc;omega)).own hx14 (fun c hc hlt=>by simp at hc;omega)
   ·exact hx14.get (hx13.get (hx811.get g5 (by simp;omega)) (own3 (by omega))) (by simp;omega)
  ·obtain rfl:i=M:=by omega
   exact⟨(none,0,0),xi,g1,⟨.inl ⟨rfl,rfl⟩,g2⟩,g3,g4,g5⟩
 ·have h1:min (nmS s).1 9≠1:=by omega
  have h2:min (nmS s).1 9≠2:=by omega
  have h3:min (nmS s).1 9≠3:=by omega
  have hr:zaq s=(⟨((min (nmS s).1 9:Nat):Int),[],0,[],[]⟩,(nmS s).2):=by unfold zaq;rw [if_neg h1,if_neg h2,if_neg h3]
  rw [hr]
  exact⟨(none,0,0),(none,0,0),hn4,nil2,hI4,hx04,hd4⟩
def zd2:Nod:=⟨0,[],0,[],[]⟩
def zhg (L:List UInt8):Nod×Int:=if (zaq (some L)).2=some []/\zau (zaq (some L)).1=true then ((zaq (some L)).1,0) else (zd2,21)
theorem qer {m:Nat}{s:Rest}:(txS m s).1.length<=m:=by
 unfold txS
 cases s with
 | none=>simp
 | some R=>
  simp only
  cases h:zm4 m R with
  | none=>simp
  | some y=>
   unfold zm4 at h
   cases h2:rdNum R with
   | none=>rw [h2] at h;cases h
   | some z=>
    rw [h2] at h
    simp only at h
    split at h
    ·cases h
    ·rename_i h3
     simp only [Option.some.injEq] at h
     rw [<-h];simp;omega
theorem zsr {s:Rest}:∀ {k:Nat},∀ i∈(zbu k s).1,i.name.length<=16
 | 0,p,h=>by cases h
 | k+1,p,h=>by
  simp only [zbu,List.mem_append,List.mem_singleton] at h
  rcases h with h | rfl
  ·exact zsr p h
  ·exact qer
theorem zl9 {s:Rest}:(zaq s).1.size<=1025/\(∀ i∈(zaq s).1.items,i.name.length<=16)/\(zaq s).1.items.length<=65:=by
 unfold zaq
 split
 ·simp
 ·split
  ·exact⟨by simp only;omega,by simp,by simp⟩
  ·split
   ·exact⟨by simp,zsr,by simp only;rw [zj5];omega⟩
   ·simp
theorem bN0 (w:World):(Instr.build zh #[]).run P w=.ok (.agg (zcx zd2 (none,0,0) (none,0,0)).toArray) w:=by kernel_rfl
theorem stN {w:World}{H:Heap}{b:Nat}{c:Array Value}{T:TypeId}(n:Nod) (xp xi:Option Addr×Nat×Nat) (hw:w.heap=H) (hb:H[b]?=some (.cells c T (0,0))) (hs:c.size=5){K:World->Prop}
  (hK:∀ w',w'.heap=H.setIfInBounds b (.cells (zcx n xp xi).toArray T (0,0))->K w'):zb8 P (storeVar zh (⟨b,0,none⟩:Addr) (.agg (zcx n xp xi).toArray)) w K:=by
 refine zay (v:=.agg (zcx n xp xi).toArray) (by rw [szN];rfl) (by simp [Value.cells,zcx]) (by
   intro v hv
   simp only [Value.cells,zcx,List.mem_cons,List.not_mem_nil,or_false] at hv
   rcases hv with rfl | rfl | rfl | rfl | rfl <;> rfl) hw hb (by rw [hs];simp [Value.cells,zcx]) fun w5 hw5=>hK w5 ?_
 rw [zak (by rw [hs];simp [Value.cells,zcx])] at hw5
 simpa [Value.cells] using hw5
theorem zng {w:World}{H:Heap}{b:Nat}{R:Array Value->World->Prop}(hw:w.heap=H) (hb:H[b]?=some (.cells (zc P zh) zh (0,0))) (hR:∀ w',Ext [b] H w'.heap->R (zcx zd2 (none,0,0) (none,0,0)).toArray w') :
  zba P (Instr.build zh #[]) .any w fun (t:Value)=>zb8 P (storeVar zh (⟨b,0,none⟩:Addr) t) w fun w2=>ldA P 5 (⟨b,0,none⟩:Addr) w2 fun t4=>R t4 w2:=by
 refine qm (s:=.any) _ (bN0 _) ?_
 refine stN zd2 (none,0,0) (none,0,0) hw hb zcN fun w2 hw2=>?_
 have hb2:w2.heap[b]?=some (.cells (zcx zd2 (none,0,0) (none,0,0)).toArray zh (0,0)):=by rw [hw2];exact qc hb
 refine qp rfl hb2 rfl ?_
 exact hR w2 (by rw [hw2];exact Ext.set _ (by simp))
set_option maxHeartbeats 4000000 in
theorem zz0 {w:World}{H:Heap}{a:Option Addr}{n nc:Nat}{L:List UInt8}(hw:w.heap=H) (hL:Cells H a (byteCells L)) (hn:n=L.length) (hl:L.length<=1099511627776) :
  zy P zh5 #[.slice a n nc] w fun e w'=>∃ xp xi,e=.returned (.tuple #[.agg (zcx (zhg L).1 xp xi).toArray,.int .i64 (zhg L).2])/\NodM w'.heap H.size (zhg L).1 xp xi/\Ext [] H w'.heap:=by
 refine zwn ?_
 unfold zqr
 refine jm hw fun w1 hw1=>?_
 have hx1:Ext [] H w1.heap:=by rw [hw1];exact .push _
 have hd1:w1.heap[H.size]?=some (.cells (zc P zh) zh (0,0)):=by rw [hw1];exact zk
 have s1:=lt_of_get hd1
 refine zl (qgl rfl (hL.ext hx1 (by simp)) hn hl) ?_
 rintro e w2 ⟨b,F,rfl,hI2,hx2,hb2,hF2,hb2l,hF2l⟩
 refine⟨some ⟨b,0,none⟩,rfl,?_⟩
 have hd2:=hx2.get hd1 (by simp)
 refine zl (qfl rfl hI2 hF2l) ?_
 rintro e w3 ⟨xp,xi,rfl,hN3,hI3,hx3⟩
 refine⟨.agg (zcx (zaq (some L)).1 xp xi).toArray,rfl,?_⟩
 have hsm:=zl9 (s:=some L)
 have hdec:zhg L=if (zaq (some L)).2=some []/\zau (zaq (some L)).1=true then ((zaq (some L)).1,0) else (zd2,21):=rfl
 generalize zaq (some L)=D at *
 have hx13:Ext [] w1.heap w3.heap:=hx2.own hx3 (fun c hc hlt=>by simp at hc;omega)
 have hd3:=hx13.get hd1 (by simp)
 refine qa8 D.1 xp xi rfl fun w5 hw5=>?_
 have hx5:Ext [] w3.heap w5.heap:=by rw [hw5];exact .push _
 have hn5:w5.heap[w3.heap.size]?=some (.cells (zcx D.1 xp xi).toArray zh (0,0)):=by rw [hw5];exact zk
 have s3:=hx13.1
 have hd5:=hx5.get hd3 (by simp)
 have hx05:=(hx1.trans hx13).trans hx5
 have bad:∀ {W W':World},¬(D.2=some []/\zau D.1=true)->Ext [] w5.heap W.heap->Ext [H.size] W.heap W'.heap->∃ xp xi,Ending.returned (.tuple #[.agg (zcx zd2 (none,0,0) (none,0,0)).toArray,.int .i64 21])=.returned (.tuple #[.agg (zcx (zhg L).1 xp xi).toArray,.int .i64 (zhg L).2])/\NodM W'.heap H.size (zhg L).1 xp xi/\Ext [] H W'.heap:=by
  intro W W' h hxa hxb
  rw [hdec,if_neg h]
  exact⟨_,_,rfl,.bare rfl rfl,(hx05.trans hxa).own hxb (fun c hc hlt=>by simp at hc;omega)⟩
 refine Go.Fw.joinP_of (fun _ W=>Ext [] w5.heap W.heap/\(D.2=some []/\zau D.1=true)) ?_ ?_
 ·refine zl (qhp rfl (hI3.ext hx5 (by simp) (by simp))) ?_
  rintro e w6 ⟨rfl,rfl⟩
  refine⟨decide (D.2=some []),rfl,?_⟩
  by_cases he:D.2=some []
  ·refine jr (by simp [he]) ?_
   refine qp rfl hn5 rfl ?_
   refine zl (z9u rfl (hN3.nodW.ext hx5) (by omega) (fun i hi=>by have:=hsm.2.1 i hi;omega) (by omega)) ?_
   rintro e w8 ⟨rfl,hx8⟩
   refine⟨zau D.1,rfl,?_⟩
   cases hr:zau D.1 with
   | true=>exact jr rfl ⟨hx8,he,rfl⟩
   | false=>exact zai rfl (zng rfl (hx8.get hd5 (by simp)) fun w9 hx9=>bad (fun h=>by rw [hr] at h;cases h.2) hx8 hx9)
  ·exact zai (by simp [he]) (zng rfl hd5 fun w7 hx7=>bad (fun h=>he h.1) (.refl _ _) hx7)
 ·rintro _ W ⟨hx,hok⟩
  refine qp rfl (hx.get hn5 (by simp)) rfl ?_
  refine stN D.1 xp xi rfl (hx.get hd5 (by simp)) zcN fun w11 hw11=>?_
  have hx11:Ext [H.size] W.heap w11.heap:=by rw [hw11];exact Ext.set _ (by simp)
  have hd11:w11.heap[H.size]?=some (.cells (zcx D.1 xp xi).toArray zh (0,0)):=by rw [hw11];exact qc (hx.get hd5 (by simp))
  refine qp rfl hd11 rfl ?_
  rw [hdec,if_pos hok]
  refine⟨xp,xi,rfl,?_,(hx05.trans hx).own hx11 (fun c hc hlt=>by simp at hc;omega)⟩
  have s2:=hx2.1
  exact (((hN3.ext hx5 (by simp)).ext hx (by simp)).ext hx11 (fun c hc=>by simp at hc;omega)).mono (by omega)
def znq (v:Option (List UInt8)) (k:List UInt8) (kind:Int):Nod×Int:=
 if Bl.got v k≠0 then (zd2,Bl.got v k) else if (zhg (v.getD [])).2≠0\/(zhg (v.getD [])).1.kind≠kind then (zd2,21) else ((zhg (v.getD [])).1,0)
set_option maxHeartbeats 4000000 in
theorem qe7 {w:World}{H:Heap}{fp:List Nat}{p:Nat}{q:Int}{r:Bl.SM}{c:Nat}{k:List UInt8}{kind:Int}(hw:w.heap=H) (hS:Bl.Store H fp p q r c) (hk:k.length=32) (hR:Bl.Rounds H) (hlen:∀ L,Bl.vw r k=some L->L.length < 1099511627776) :
  zy P zxm #[.pointer (some ⟨p,0,none⟩),arr k,.int .i64 kind] w fun e w'=>∃ xp xi,e=.returned (.tuple #[.agg (zcx (znq (Bl.vw r k) k kind).1 xp xi).toArray,.int .i64 (znq (Bl.vw r k) k kind).2])/\NodM w'.heap H.size (znq (Bl.vw r k) k kind).1 xp xi/\Ext [] H w'.heap:=by
 refine z2e ?_
 unfold zxd
 rw [show (arr k).cells=(byteCells k).toArray from rfl]
 refine jm hw fun w1 hw1=>?_
 have hx1:Ext [] H w1.heap:=by rw [hw1];exact .push _
 have hb1:w1.heap[H.size]?=some (.cells (byteCells k).toArray zf (0,0)):=by rw [hw1];exact zk
 have s1:=lt_of_get hb1
 refine jm rfl fun w2 hw2=>?_
 have hx2:Ext [] w1.heap w2.heap:=by rw [hw2];exact .push _
 have hd2:w2.heap[w1.heap.size]?=some (.cells (zc P zh) zh (0,0)):=by rw [hw2];exact zk
 have s2:=lt_of_get hd2
 have hx02:=hx1.trans hx2
 refine qp rfl (hx2.get hb1 (by simp)) (by simp [hk]) ?_
 refine zl (Bl.qe7 (k:=k) rfl (hS.ext hx02 (by simp)) hk (hR.ext hx02 (by simp)) hlen) ?_
 rintro e w3 ⟨x,rfl,hx3,hgot,hno⟩
 refine⟨(x,Bl.got (Bl.vw r k) k),rfl,?_⟩
 have hd3:=hx3.get hd2 (by simp)
 have hx03:=hx02.trans hx3
 refine zan (fun h=>?_) (fun h=>?_)
 ·have hv:znq (Bl.vw r k) k kind=(zd2,Bl.got (Bl.vw r k) k):=by unfold znq;rw [if_pos h]
  refine zng rfl hd3 fun w4 hx4=>?_
  rw [hv]
  exact⟨_,_,rfl,.bare rfl rfl,hx03.own hx4 (fun c hc hlt=>by simp at hc;omega)⟩
 have h:Bl.got (Bl.vw r k) k=0:=h
 obtain⟨L,hL,hm⟩:=hgot h
 have hv:znq (Bl.vw r k) k kind=if (zhg L).2≠0\/(zhg L).1.kind≠kind then (zd2,21) else ((zhg L).1,0):=by
  unfold znq;rw [if_neg (by simpa using h),hL];rfl
 have hxl:x.2.1=L.length:=by have:=hm.len;simp at this;omega
 refine zl (zz0 (L:=L) rfl hm.cells hxl (by have:=hlen L hL;omega)) ?_
 rintro e w5 ⟨xp,xi,rfl,hN5,hx5⟩
 refine⟨(.agg (zcx (zhg L).1 xp xi).toArray,(zhg L).2),rfl,?_⟩
 generalize zhg L=D at *
 have hd5:=hx5.get hd3 (by simp)
 have s3:=hx3.1
 have s5:=hx5.1
 refine qa8 D.1 xp xi rfl fun w7 hw7=>?_
 have hx7:Ext [] w5.heap w7.heap:=by rw [hw7];exact .push _
 have hn7:w7.heap[w5.heap.size]?=some (.cells (zcx D.1 xp xi).toArray zh (0,0)):=by rw [hw7];exact zk
 have hd7:=hx7.get hd5 (by simp)
 have hx07:=(hx03.trans hx5).trans hx7
 have bad:∀ {W':World},(D.2≠0\/D.1.kind≠kind)->Ext [w1.heap.size] w7.heap W'.heap->∃ xp xi,Ending.returned (.tuple #[.agg (zcx zd2 (none,0,0) (none,0,0)).toArray,.int .i64 21])=.returned (.tuple #[.agg (zcx (znq (Bl.vw r k) k kind).1 xp xi).toArray,.int .i64 (znq (Bl.vw r k) k kind).2])/\NodM W'.heap H.size (znq (Bl.vw r k) k kind).1 xp xi/\Ext [] H W'.heap:=by
  intro W' h hxb
  rw [hv,if_pos h]
  exact⟨_,_,rfl,.bare rfl rfl,hx07.own hxb (fun c hc hlt=>by simp at hc;omega)⟩
 refine Go.Fw.joinP_of (fun _ W=>W.heap=w7.heap/\¬(D.2≠0\/D.1.kind≠kind)) ?_ ?_
 ·refine zan (fun h1=>?_) (fun h1=>?_)
  ·exact zng rfl hd7 fun w8 hx8=>bad (.inl h1) hx8
  ·refine je (s:=.int .i64) (t:=D.1.kind) rfl hn7 rfl ?_
   refine zan (fun h2=>?_) (fun h2=>?_)
   ·exact zng rfl hd7 fun w8 hx8=>bad (.inr h2) hx8
   ·exact⟨rfl,fun h=>h.elim (fun h=>h h1) (fun h=>h h2)⟩
 ·rintro _ W ⟨hW,hok⟩
  rw [<-hW] at hn7 hd7
  have hxW:Ext [] H W.heap:=by rw [hW];exact hx07
  refine qp rfl hn7 rfl ?_
  refine stN D.1 xp xi rfl hd7 zcN fun w11 hw11=>?_
  have hx11:Ext [w1.heap.size] W.heap w11.heap:=by rw [hw11];exact Ext.set _ (by simp)
  have hd11:w11.heap[w1.heap.size]?=some (.cells (zcx D.1 xp xi).toArray zh (0,0)):=by rw [hw11];exact qc hd7
  refine qp rfl hd11 rfl ?_
  rw [hv,if_neg hok]
  refine⟨xp,xi,rfl,?_,hxW.own hx11 (fun c hc hlt=>by simp at hc;omega)⟩
  have k1:=hN5.ext hx7 (by simp)
  rw [<-hW] at k1
  exact (k1.ext hx11 (fun c hc=>by simp at hc;omega)).mono (by omega)
end Go.Proofs.YtbmegmbnlajbbaaGreatDoor
namespace Go.Proofs.YtbmegmbnlajbbaaGreatDoor
open Go Go.Fw Go.Proofs Go.Sort
theorem zq1 {v:Option (List UInt8)}{k:List UInt8}{kind:Int}:(znq v k kind).1.items.length<=65/\(∀ i∈(znq v k kind).1.items,i.name.length<=16)/\(znq v k kind).1.size<=1025/\0<=(znq v k kind).1.size/\(znq v k kind).1.parts.length<=65536:=by
 have hd:∀ L,(zhg L).1.items.length<=65/\(∀ i∈(zhg L).1.items,i.name.length<=16)/\(zhg L).1.size<=1025/\0<=(zhg L).1.size/\(zhg L).1.parts.length<=65536:=by
  intro L
  unfold zhg
  split
  ·have:=zl9 (s:=some L)
   refine⟨this.2.2,this.2.1,this.1,?_,?_⟩
   ·unfold zaq;repeat' split
    all_goals simp
   ·unfold zaq;repeat' split
    all_goals simp [zlh]
    all_goals omega
  ·simp [zd2]
 unfold znq
 split
 ·simp [zd2]
 ·split
  ·simp [zd2]
  ·exact hd _
theorem qdx {i:Itm}:(zb0 i).toArray.extract 2 34=(Bl.zat i.sum).toArray:=by
 apply Array.toList_inj.1
 have:=Bl.zab i.sum
 simp [zb0,List.take_of_length_le,this]
end Go.Proofs.YtbmegmbnlajbbaaGreatDoor
namespace Go.Proofs.YtbmegmbnlajbbaaGreatDoor
open Go Go.Fw Go.Proofs Go.Sort
end Go.Proofs.YtbmegmbnlajbbaaGreatDoor
namespace Go.Proofs.YtbmegmbnlajbbaaGreatDoor
open Go Go.Fw Go.Proofs Go.Sort
end Go.Proofs.YtbmegmbnlajbbaaGreatDoor
namespace Go.Fw
open Go Go.ChangeShapes Go.WideShapes Go.ChangeAt Go.RowKit
theorem zih {w:World}{b o:Nat}{s:Option _}{v:Value}(h:w.cell? ⟨b,o,s⟩=some v):s=none/\∃ c T fr,w.heap[b]?=some (.cells c T fr)/\c[o]?=some v:=by
 unfold World.cell? at h
 simp only at h
 split at h
 ·rename_i c T fr hc
  split at h
  ·cases h
  ·rename_i hs
   refine⟨by simpa using hs,c,T,fr,hc,h⟩
 ·cases h
theorem qbq {H:Type}{enc:TypeId×Value->H}{P:Program}{t e:TypeId}(ht:P.underlying t=some (.slice e)) (he:P.underlying e=some (.int .u8)) (hc:P.cellsOf e=1){W:World}{v:Value}{d:DataW H}{p:List MemPlace}
  (hv:∃ a l c,v=.slice a l c) (h0:DataW.Trod enc P W 0 (fun _=>true) true t v d p) :
  ∃ a l c L,v=.slice a l c/\Cells W.heap a (byteCells L)/\l=L.length/\l<=c/\((∀ n∈d.weights P t,n<=reachBytes)->P.bytesOf e=1->L.length<=reachBytes):=by
 obtain⟨a,l,c,rfl⟩:=hv
 obtain⟨fuel,hf⟩:=h0
 rcases open_ints ht he hc hf with⟨hcs,_⟩ | ⟨a',len',cap',zs,hcs,_,hl,hm,hz,hxd,hcell,hwz⟩
 ·simp [Value.cells] at hcs
  obtain⟨rfl,rfl,rfl⟩:=hcs
  exact⟨none,0,0,[],rfl,.inl rfl,rfl,Nat.le_refl _,fun _ _=>Nat.zero_le _⟩
 ·simp [Value.cells] at hcs
  obtain⟨rfl,rfl,rfl⟩:=hcs
  simp only [if_true] at hz
  have hby:∀ x∈zs,0<=x/\x < 256:=by
   intro x hx
   have h:=hwz x hx
   have h1:IntKind.u8.min=0:=rfl
   have h2:IntKind.u8.max=255:=rfl
   simp only [Lit.wf,Bool.and_eq_true,decide_eq_true_eq] at h
   omega
  refine⟨some a',l,c,(zs.take l).map fun x=>UInt8.ofNat x.toNat,rfl,?_,by simp;omega,hl,?_⟩
  rotate_left
  ·intro hw hb1
   simp only [Prod.mk.injEq] at hxd
   rw [hxd.1] at hw
   have:=hw _ (by simp only [DataW.weights,ht];exact List.mem_cons_self)
   simp [lits,hb1] at this
   simp
   omega
  have hbc:byteCells ((zs.take l).map fun x=>UInt8.ofNat x.toNat)=(zs.take l).map (Value.int .u8):=by
   simp only [byteCells,List.map_map]
   apply List.map_congr_left
   intro x hx
   have:=hby x (List.mem_of_mem_take hx)
   simp only [Function.comp,Value.int.injEq,true_and]
   simp only [UInt8.toNat_ofNat']
   omega
  rw [hbc]
  by_cases h0:l=0
  ·subst h0;exact .inl (by simp)
  ·obtain⟨b,o,s⟩:=a'
   have hs:s=none:=by
    obtain⟨hs,_⟩:=zih (hcell 0 (by omega))
    cases s with
    | none=>rfl
    | some x=>simp at hs
   subst hs
   have hcl:∀ i,i < zs.length->W.cell? ⟨b,o+i,none⟩=some (.int .u8 (zs.getD i 0)):=fun i hi=>by rw [<-vg];exact hcell i hi
   obtain⟨_,cc,T,fr,hb,_⟩:=zih (hcl 0 (by omega))
   have hcc:∀ i,i < zs.length->cc[o+i]?=some (.int .u8 (zs.getD i 0)):=by
    intro i hi
    obtain⟨_,c2,T2,f2,h1,h2⟩:=zih (hcl i hi)
    rw [hb] at h1;cases h1;exact h2
   refine .inr ⟨b,o,cc,T,fr,rfl,hb,?_,?_⟩
   ·have:=(Array.getElem?_eq_some_iff.1 (hcc (l-1) (by omega))).1
    simp;omega
   ·apply List.ext_getElem?
    intro i
    rw [Array.getElem?_toList,Array.getElem?_extract]
    simp only [List.length_map,List.length_take,List.getElem?_map,List.getElem?_take]
    by_cases hi:i < l
    ·have hiz:i < zs.length:=by omega
     have:=(Array.getElem?_eq_some_iff.1 (hcc i hiz)).1
     rw [if_pos (by omega),hcc i hiz,if_pos hi,List.getElem?_eq_getElem hiz]
     simp [List.getD_eq_getElem?_getD,List.getElem?_eq_getElem hiz]
    ·rw [if_neg (by omega),if_neg hi];rfl
theorem z5k {H:Type}{enc:TypeId×Value->H}{P:Program}{t e:TypeId}(ht:P.underlying t=some (.slice e)) (he:P.underlying e=some (.int .u8)) (hc:P.cellsOf e=1){W:World}{v:Value}{fuel:Nat}{x:DataW H×List MemPlace}
  (h:DataW.trod enc P W 0 (fun _=>true) true fuel t [v]=some x):∃ a l c L,v=.slice a l c/\Cells W.heap a (byteCells L)/\l=L.length/\l<=c/\((∀ n∈x.1.weights P t,n<=reachBytes)->P.bytesOf e=1->L.length<=reachBytes):=by
 have hs:∃ a l c,v=.slice a l c:=by
  rcases open_ints ht he hc h with⟨hcs,_⟩ | ⟨a',len',cap',zs,hcs,_⟩
  ·simp at hcs;exact⟨_,_,_,hcs⟩
  ·simp at hcs;exact⟨_,_,_,hcs⟩
 obtain⟨a,l,c,rfl⟩:=hs
 exact qbq ht he hc (v:=.slice a l c) ⟨a,l,c,rfl⟩ ⟨fuel,h⟩
theorem qfh {W W':World}(h:∀ i,i < W.heap.size->W'.heap[i]?=W.heap[i]?){p:MemPlace}(hp:p.block < W.heap.size):W.sameAt W' p:=by
 cases p with
 | cell b off=>simp only [World.sameAt,World.cell?];rw [h b hp]
 | map b=>exact h b hp
theorem zqd {H:Type}{enc:TypeId×Value->H}{P:Program}(hl:laidOutB P=true){W W':World}{sp':Nat->Bool}(h:∀ i,i < W.heap.size->W'.heap[i]?=W.heap[i]?) :
  ∀ {ts:List TypeId}{vs:List Value}{ds:List (DataW H)}{ps:List MemPlace},(∀ t∈ts,P.readableRec t=true/\t < P.types.size)->(∀ p∈ps,p.block < W.heap.size/\sp' p.block=true) ->
  DataW.TrodAll enc P W 0 (fun _=>true) true ts vs ds ps->DataW.TrodAll enc P W' 0 sp' true ts vs ds ps
 | [],vs,ds,ps,_,_,ht=>by
  obtain⟨rfl,rfl,rfl⟩:=trodAll_nil ht
  rfl
 | t :: ts,vs,ds,ps,hr,hp,ht=>by
  obtain⟨v,vs',d,ds',p,q,rfl,rfl,rfl,h1,h2⟩:=trodAll_cons ht
  refine⟨p,q,?_,zqd hl h (fun t ht=>hr t (by simp [ht])) (fun x hx=>hp x (by simp [hx])) h2,rfl⟩
  exact WideElems.Trod_stays hl (hr t (by simp)).1 (hr t (by simp)).2 h1 (fun x hx=>qfh h (hp x (by simp [hx])).1) fun x hx=>(hp x (by simp [hx])).2
theorem z8j {H:Type}{enc:TypeId×Value->H}{P:Program}{f:Func}{s:ChangeSpec}{apart fresh handsOn again:Bool}{W W':World}{args:Array Value}{v:Value}{ds gs:List (DataW H)}{before:List MemPlace}
  (hl:laidOutB P=true) (hpar:∀ t∈f.params.toList,P.readableRec t=true/\t < P.types.size) (hvars:s.vars=[])
  (hW:DataW.Whole enc P f.params.toList s.vars apart W args.toList ds gs before) (hfa:(s.fn H (ds++gs)).args=ds) (hfv:(s.fn H (ds++gs)).vars=[])
  (hres:∀ (b:Nat) (sp:Nat->Bool) (hd:Bool),DataW.TrodAll enc P W' b sp hd f.resultTypes.toList (v.resultList f.resultTypes.size) (s.fn H (ds++gs)).results [])
  (hx:Ext [] W.heap W'.heap) (hc:Calm W W')
  (hok:∀ (j:Nat) (t:TypeId) (r:Value),f.resultTypes[j]?=some t->(v.resultList f.resultTypes.size)[j]?=some r->Value.okWide P W' .any 0 t r) :
  s.post enc P f apart fresh handsOn again W args v W':=by
 have hsame:∀ i,i < W.heap.size->W'.heap[i]?=W.heap[i]?:=fun i hi=>hx.2 i hi (by simp)
 have hlt:∀ p∈before,p.block < W.heap.size:=fun p hp=>hW.lt p hp
 have hW0:=hW
 obtain⟨pa,pv,hA,hV,rfl,hz,hn⟩:=hW
 rw [hvars] at hV
 obtain⟨rfl,rfl⟩:=trodVars_none hV
 rw [List.append_nil] at hlt hz hn
 have hargs:∀ sp:Nat->Bool,(∀ p∈pa,sp p.block=true)->DataW.TrodAll enc P W' 0 sp true f.params.toList args.toList (s.fn H (ds++[])).args pa:=by
  intro sp hsp
  rw [hfa]
  exact zqd hl hsame hpar (fun p hp=>⟨hlt p hp,hsp p hp⟩) hA
 have hvs:∀ sp:Nat->Bool,DataW.TrodVars enc P W' sp s.vars (s.fn H (ds++[])).vars []:=by
  intro sp
  rw [hvars,hfv]
  rfl
 refine⟨ds,[],pa++[],[],pa,[],hW0,hres _ _ _,hargs _ (fun p hp=>by simpa using hlt p hp),hvs _,⟨hc.1,hc.2.1,fun i hi=>?_⟩,fun _=>⟨hok,_,_,([]++pa)++[],⟨[]++pa,[],trodAll_append (hargs _ (fun _ _=>rfl)) (hres _ _ _),hvs _,rfl,?_,?_⟩,?_⟩⟩
 ·rw [hsame i hi]
  cases W.heap[i]? with
  | none=>rfl
  | some o=>cases o <;> first | exact⟨rfl,rfl,rfl,fun _ _=>rfl⟩ | exact .inr ⟨rfl,rfl⟩ | rfl
 ·intro b off hp
  have hp:MemPlace.cell b off∈pa:=by simpa using hp
  have h1:=hz b off (by simpa using hp)
  have h2:=hsame b (hlt _ hp)
  unfold World.frozen? at h1 |-
  rw [h2]
  exact h1
 ·intro ha
  simpa using hn ha
 ·intro p hp _
  simpa using hp
section
variable {H:Type}{enc:TypeId×Value->H}{P:Program}{W:World}
theorem z90 {a:Addr}{n:Nat}{cs:List Value}(h0:0 < n) (h:W.cells? 0 a n=some cs):a.spot=none/\∃ c T fr,W.heap[a.block]?=some (.cells c T fr)/\a.off+n<=c.size/\cs=(c.toList.drop a.off).take n:=by
 obtain⟨b,o,s⟩:=a
 simp only [World.cells?,Nat.zero_le,if_true] at h
 have hl:cs.length=n:=by simpa using mapM_some_length h
 have hg:∀ i,i < n->W.cell? (Addr.add ⟨b,o,s⟩ i)=cs[i]?:=fun i hi=>mapM_some_get h i i (by simp [hi])
 have h1:=hg 0 h0
 rw [List.getElem?_eq_getElem (by omega)] at h1
 obtain⟨hs,c,T,fr,hb,_⟩:=zih h1
 have hs':s=none:=by
  cases s with
  | none=>rfl
  | some z=>simp at hs
 subst hs'
 have hc:∀ i,i < n->c[o+i]?=cs[i]?:=by
  intro i hi
  have h2:=hg i hi
  rw [List.getElem?_eq_getElem (by omega),vg] at h2
  obtain⟨_,c2,T2,f2,hb2,hc2⟩:=zih h2
  rw [hb] at hb2;cases hb2
  rw [hc2,List.getElem?_eq_getElem (by omega)]
 have hsz:o+n<=c.size:=by
  have h3:=hc (n-1) (by omega)
  rw [List.getElem?_eq_getElem (by omega)] at h3
  have:=(Array.getElem?_eq_some_iff.1 h3).1
  omega
 refine⟨rfl,c,T,fr,hb,hsz,?_⟩
 apply List.ext_getElem?
 intro i
 by_cases hi:i < n
 ·rw [<-hc i hi,List.getElem?_take,if_pos hi,List.getElem?_drop,Array.getElem?_toList]
 ·rw [List.getElem?_eq_none (by omega),List.getElem?_take,if_neg hi]
theorem qb3 {a:Addr}(h:(a.add 0).spot=none):a.spot=none:=by
 obtain⟨b,o,s⟩:=a
 cases s with
 | none=>rfl
 | some z=>simp [Addr.add] at h
theorem row_of {t e:TypeId}{sz:Nat}(ht:P.underlying t=some (.slice e)) (hc:P.cellsOf e=sz) (h0:0 < sz){v:Value}{fuel:Nat}{x:DataW H×List MemPlace}(h:DataW.trod enc P W 0 (fun _=>true) true fuel t [v]=some x) :
  ∃ (a:Option Addr) (n nc:Nat) (ys:List (DataW H)),v=.slice a n nc/\n<=nc/\ys.length=n/\((n=0/\ys=[]/\x.1=.nil)\/∃ rest,x.1=.slice ys rest) /\
   ∀ i (hi:i < ys.length),∃ (b o:Nat) (c:Array Value) (T:TypeId) (fr:Nat×Nat) (m:Nat) (ps:List MemPlace),a=some ⟨b,o,none⟩/\W.heap[b]?=some (.cells c T fr)/\o+i * sz+sz<=c.size/\DataW.trod enc P W 0 (fun _=>true) true m e ((c.toList.drop (o+i * sz)).take sz)=some (ys[i],ps):=by
 rcases DataW.trod_slice ht h with⟨hcs,rfl⟩ | ⟨a',len,cap,elems,rest,m,_,hcs,rfl,_,hle,_,hlen,hel,_⟩
 ·simp only [List.cons.injEq,and_true] at hcs
  exact⟨none,0,0,[],hcs,Nat.le_refl _,rfl,.inl ⟨rfl,rfl,rfl⟩,fun i hi=>absurd hi (by simp)⟩
 ·simp only [List.cons.injEq,and_true] at hcs
  refine⟨some a',len,cap,elems.map (·.1),hcs,hle,by simpa using hlen,.inr ⟨_,rfl⟩,fun i hi=>?_⟩
  have hil:i < len:=by simpa [hlen] using hi
  have h1:=hel i hil
  rw [List.getElem?_eq_getElem (by omega),hc] at h1
  simp only [Option.bind_eq_some_iff] at h1
  obtain⟨cs,h2,h3⟩:=h1
  obtain⟨hsp,c,T,fr,hb,hsz,rfl⟩:=z90 h0 h2
  have hsp':a'.spot=none:=by
   have h1:=hel 0 (by omega)
   rw [List.getElem?_eq_getElem (by omega),hc] at h1
   simp only [Option.bind_eq_some_iff,Nat.zero_mul] at h1
   obtain⟨cs,h2,_⟩:=h1
   exact qb3 (z90 h0 h2).1
  obtain⟨b,o,s⟩:=a'
  obtain rfl:s=none:=hsp'
  rw [vg] at hb hsz h3
  exact⟨b,o,c,T,fr,m,(elems[i]).2,rfl,hb,hsz,by simpa using h3⟩
def shapeOf (P:Program) (t:TypeId):Option (List (TypeId×Nat)):=match P.underlying t with | some (.struct fs)=>some (fs.toList.map fun f=>(f.type,f.offset)) | _=>none
theorem zty {t:TypeId}{L:List (TypeId×Nat)}(hs:shapeOf P t=some L){cs:List Value}{fuel:Nat}{x:DataW H×List MemPlace}(h:DataW.trod enc P W 0 (fun _=>true) true fuel t cs=some x) :
  ∃ ys:List (DataW H),x.1=.agg ys/\cs.length=P.cellsOf t/\ys.length=L.length/\∀ (i:Nat) (ti:TypeId) (off:Nat),L[i]?=some (ti,off)->∃ m ps y,ys[i]?=some y/\DataW.trod enc P W 0 (fun _=>true) true m ti ((cs.drop off).take (P.cellsOf ti))=some (y,ps):=by
 unfold shapeOf at hs
 split at hs
 ·rename_i fs hu
  injection hs with hs
  subst hs
  obtain⟨xs,n,_,rfl,hl,hlen,hf⟩:=DataW.trod_struct hu h
  refine⟨xs.map (·.1),rfl,hl,by simpa using hlen,fun i ti off hi=>?_⟩
  rw [List.getElem?_map,Option.map_eq_some_iff] at hi
  obtain⟨f,hfi,he⟩:=hi
  simp only [Prod.mk.injEq] at he
  obtain⟨rfl,rfl⟩:=he
  have h1:=hf i f (by simpa using hfi)
  have hil:i < xs.length:=by
   have:=(List.getElem?_eq_some_iff.1 hfi).1
   simp at this;omega
  rw [List.getElem?_eq_getElem hil] at h1
  exact⟨n,(xs[i]).2,(xs[i]).1,by simp [List.getElem?_eq_getElem hil],h1⟩
 ·cases hs
theorem zvp {t:TypeId}{k:IntKind}(ht:P.underlying t=some (.int k)){v:Value}{fuel:Nat}{x:DataW H×List MemPlace}(h:DataW.trod enc P W 0 (fun _=>true) true fuel t [v]=some x):∃ n,v=.int k n/\(Lit.int k n).wf=true:=by
 cases fuel with
 | zero=>simp [DataW.trod] at h
 | succ m=>
  unfold DataW.trod at h
  rw [ht] at h
  split at h <;> simp_all
theorem take_one {c:Array Value}{o:Nat}(h:o < c.size):(c.toList.drop o).take 1=[c[o]]:=by
 rw [List.drop_eq_getElem_cons (by simpa using h)]
 simp
theorem zze {c:Array Value}{o sz j:Nat}(hj:j < sz) (h:o+sz<=c.size):(((c.toList.drop o).take sz).drop j).take 1=[c[o+j]]:=by
 rw [List.drop_take,List.drop_drop,List.take_take,Nat.min_eq_left (by omega)]
 exact take_one (by omega)
def big:DataW H->Nat
 | .slice es _=>es.length
 | _=>0
theorem qg6 {t e:TypeId}(ht:P.underlying t=some (.slice e)) (he:P.underlying e=some (.int .u8)) (hc:P.cellsOf e=1){v:Value}{fuel:Nat}{x:DataW H×List MemPlace}(h:DataW.trod enc P W 0 (fun _=>true) true fuel t [v]=some x) :
  ∃ a l c L,v=.slice a l c/\Cells W.heap a (byteCells L)/\l=L.length/\l<=c/\L.length=big x.1:=by
 obtain⟨a,l,c,L,rfl,hC,hl,hlc,_⟩:=z5k ht he hc h
 obtain⟨a',n,nc,ys,he',_,hn,hx,_⟩:=row_of ht hc (by omega) h
 injection he' with h1 h2 h3
 subst h1 h2 h3
 refine⟨a,l,c,L,rfl,hC,hl,hlc,?_⟩
 rcases hx with⟨h1,h2,h3⟩ | ⟨rest,h3⟩
 ·rw [h3];simp only [big];omega
 ·rw [h3];simp only [big];omega
theorem qhq {t t1 e:TypeId}(ht:P.underlying t=some (.slice t1)) (ht1:P.underlying t1=some (.slice e)) (he:P.underlying e=some (.int .u8)) (hc:P.cellsOf e=1) (hc1:P.cellsOf t1=1){v:Value}{fuel:Nat}{x:DataW H×List MemPlace}(h:DataW.trod enc P W 0 (fun _=>true) true fuel t [v]=some x) :
  ∃ (a:Option Addr) (n nc:Nat) (Ls:List (List UInt8)) (ys:List (DataW H)),v=.slice a n nc/\n<=nc/\(n=Ls.length/\∀ i (h:i < Ls.length),∃ (b o:Nat) (c:Array Value) (T:TypeId) (fr:Nat×Nat) (x:Option Addr×Nat×Nat),a=some ⟨b,o,none⟩/\W.heap[b]?=some (.cells c T fr)/\c[o+i]?=some (.slice x.1 x.2.1 x.2.2)/\Cells W.heap x.1 (byteCells Ls[i])/\x.2.1=Ls[i].length/\x.2.1<=x.2.2) /\
   ys.length=n/\((n=0/\ys=[]/\x.1=.nil)\/∃ rest,x.1=.slice ys rest)/\∀ L∈Ls,∃ y∈ys,L.length=big y:=by
 obtain⟨a,n,nc,ys,rfl,hle,hn,hx,hel⟩:=row_of ht hc1 (by omega) h
 have key:∀ i (hi:i < ys.length),∃ L:List UInt8,(∃ (b o:Nat) (c:Array Value) (T:TypeId) (fr:Nat×Nat) (x:Option Addr×Nat×Nat),a=some ⟨b,o,none⟩/\W.heap[b]?=some (.cells c T fr)/\c[o+i]?=some (.slice x.1 x.2.1 x.2.2)/\Cells W.heap x.1 (byteCells L)/\x.2.1=L.length/\x.2.1<=x.2.2)/\L.length=big ys[i]:=by
  intro i hi
  obtain⟨b,o,c,T,fr,m,ps,rfl,hb,hsz,ht2⟩:=hel i hi
  rw [Nat.mul_one] at hsz ht2
  rw [take_one (by omega)] at ht2
  obtain⟨xa,xl,xc,L,hv,hC,hl,hlc,hbig⟩:=qg6 ht1 he hc ht2
  exact⟨L,⟨b,o,c,T,fr,(xa,xl,xc),rfl,hb,by rw [<-hv];exact Array.getElem?_eq_getElem _,hC,hl,hlc⟩,hbig⟩
 classical
 refine⟨a,n,nc,(List.range n).map fun i=>if h:i < ys.length then Classical.choose (key i h) else [],ys,rfl,hle,⟨by simp,fun i hi=>?_⟩,hn,hx,fun L hL=>?_⟩
 ·have hi':i < ys.length:=by simpa [hn] using hi
  have:=(Classical.choose_spec (key i hi')).1
  simpa [hi'] using this
 ·simp only [List.mem_map,List.mem_range] at hL
  obtain⟨i,hi,rfl⟩:=hL
  rw [dif_pos (by omega)]
  exact⟨ys[i]'(by omega),List.getElem_mem _,(Classical.choose_spec (key i (by omega))).2⟩
end
end Go.Fw
namespace Go.Proofs.YtbmegmbnlajbbaaGreatDoor
open Go Go.Fw Go.Proofs Go.ChangeShapes Go.WideShapes Go.ChangeAt Go.RowKit
variable {Hh:Type}{enc:TypeId×Value->Hh}{W:World}
theorem cStr:P.cellsOf jw=1:=by kernel_rfl
end Go.Proofs.YtbmegmbnlajbbaaGreatDoor
namespace Go.Proofs.YtbmegmbnlajbbaaGreatDoor.RowC
open Go.Proofs.YtbmegmbnlajbbaaGreatDoor.Bl Go Go.Fw Go.Proofs Go.ChangeShapes Go.WideShapes Go.ChangeAt Go.RowKit
theorem own:ownKnob Tryz.prog.godebug=none:=by kernel_rfl
theorem gTab:Tryz.prog.globalNamed "veneer/sha.rounds"=some 0:=by kernel_rfl
theorem qcu:(Tryz.prog.globals[0]?).map (·.type)=some zas:=by kernel_rfl
theorem u66:Tryz.prog.underlying zas=some (.array 64 zni):=by kernel_rfl
theorem u64':Tryz.prog.underlying zni=some (.int .u32):=by kernel_rfl
theorem qfb:Tryz.prog.cellsOf zas=64:=by kernel_rfl
theorem qfu:Tryz.prog.cellsOf zni=1:=by kernel_rfl
theorem laidOut:laidOutB Tryz.prog=true:=by kernel_rfl
def kz:List Int:=Sha.kc.map fun n:Nat=>(n:Int)
theorem qgm:(Rows.laid_veneer_sha_rounds:DataW Unit)=Lib.tabData .u32 kz:=by kernel_rfl
theorem table {W:World}(h:laidMetH Tryz.prog [("veneer/sha.rounds",Rows.laid_veneer_sha_rounds)] W):Lib.TabIs Tryz.prog W "veneer/sha.rounds" .u32 kz:=by
 have h':laidMet Tryz.prog [("veneer/sha.rounds",(Rows.laid_veneer_sha_rounds:DataW Unit))] W:=h
 rw [qgm] at h'
 exact Lib.tabIs_of_head (rest:=[]) gTab qcu u66 u64' qfu qfb h'
theorem qio:∀ i,i < 64->kz.getD i 0=((Sha.K i).toNat:Int):=by decide +kernel
theorem z92 {W:World}(h:Lib.TabIs Tryz.prog W "veneer/sha.rounds" .u32 kz):Rounds W.heap:=by
 have hc:∀ i,i < 64->W.cell? ⟨0,i,none⟩=some (.int .u32 ((Sha.K i).toNat:Int)):=by
  intro i hi
  rw [<-qio i hi]
  exact h.cell gTab i (by simpa [kz,Sha.kc] using hi)
 obtain⟨_,c,T,fr,hb,_⟩:=zih (hc 0 (by omega))
 refine⟨c,T,fr,hb,fun i hi=>?_⟩
 obtain⟨_,c2,T2,fr2,hb2,h2⟩:=zih (hc i hi)
 rw [hb] at hb2
 cases hb2
 rw [Nat.zero_add]
 exact h2
noncomputable def laidWorld (os:Os):World:=
 { World.holding Tryz.prog os ⟨#[],#[],[]⟩ with heap:=(World.holding Tryz.prog os ⟨#[],#[],[]⟩).heap.modify 0 fun
   | .cells _ t frozen=>.cells (W32 Sha.K 64) t frozen
   | o=>o }
end Go.Proofs.YtbmegmbnlajbbaaGreatDoor.RowC
namespace Go.Proofs.YtbmegmbnlajbbaaGreatDoor
open Go Go.Fw Go.Proofs Go.Sort
def fY:Fil:=⟨[47,103],false,[104,111]⟩
theorem qld:zdz fY.path=([[103]],0):=by decide +kernel
theorem nmY:nm fY=[[103]]:=by unfold nm;rw [qld]
def LY:List Fil:=[fY]
theorem qjb:zq8 LY=[fY]:=by decide +kernel
theorem qh2:zcp LY=0:=by decide +kernel
theorem qkt:¬z2h LY:=by
 rintro ⟨i,hi,h⟩
 match i,hi with
 | 0,_=>simp [LY,nmY] at h
theorem qku:¬qa9 LY:=by
 rintro ⟨f,hf,h1,h2⟩
 simp only [LY,List.mem_cons,List.not_mem_nil,or_false] at hf
 subst hf
 simp [nmY] at h1
theorem qih:¬zyy LY:=by
 rintro ⟨f,hf,g,hg,h1,h2⟩
 simp only [LY,List.mem_cons,List.not_mem_nil,or_false] at hf hg
 subst hf hg
 simp [nmY] at h1
theorem qkr:¬qba LY:=by
 rintro ⟨f,hf,h⟩
 have:(kids LY (nm f).dropLast).length<=1:=List.length_filter_le _ _
 omega
theorem qkg:zir LY=0:=by rw [zz7 qh2,z18 qkt qku qih qkr]
def nCY:Nod:=zr8 [104,111]
def nFY:Nod:=⟨2,[],2,[Sha.sum (zgk nCY)],[]⟩
def nRY:Nod:=⟨3,[],0,[],[⟨[103],2,Sha.sum (zgk nFY)⟩]⟩
theorem qhj:zhi fY.data=[zgk nCY,zgk nFY]/\zil fY.data=Sha.sum (zgk nFY):=⟨rfl,rfl⟩
theorem qin:kids [fY] []=[fY]:=by decide +kernel
theorem qgx:zvg LY=([zgk nCY,zgk nFY,zgk nRY],Sha.sum (zgk nRY)):=by
 rw [zkr,qjb]
 rw [show (9:Nat)=8+1 from rfl,zfs,qin,zm1,zhj]
 simp only [List.map_cons,List.map_nil,zmc,zkp,nmY,show fY.dir=false from rfl,Bool.false_eq_true,if_false,qhj.1,qhj.2,List.flatten_cons,List.flatten_nil,List.append_nil]
 rfl
def bCY:List UInt8:=[1,2,104,111]
def bFY:List UInt8:=[2,2,158,58,200,137,131,3,237,181,227,203,31,33,214,78,124,61,75,59,205,255,220,111,27,236,130,179,90,49,230,97,163,111]
def bRY:List UInt8:=[3,1,1,103,2,240,170,219,137,16,181,9,130,170,80,29,83,128,115,107,164,206,52,108,70,135,81,168,121,78,67,254,227,204,129,81,182]
def dCY:List UInt8:=[158,58,200,137,131,3,237,181,227,203,31,33,214,78,124,61,75,59,205,255,220,111,27,236,130,179,90,49,230,97,163,111]
def dFY:List UInt8:=[240,170,219,137,16,181,9,130,170,80,29,83,128,115,107,164,206,52,108,70,135,81,168,121,78,67,254,227,204,129,81,182]
def dRY:List UInt8:=[99,148,0,228,28,143,188,172,255,57,53,165,99,114,237,90,143,96,216,19,64,64,221,159,53,2,28,215,24,191,61,104]
theorem sCY:Sha.sum bCY=dCY:=by rw [Sha.sum_eq];kernel_rfl
theorem sFY:Sha.sum bFY=dFY:=by rw [Sha.sum_eq];kernel_rfl
theorem sRY:Sha.sum bRY=dRY:=by rw [Sha.sum_eq];kernel_rfl
theorem eCY:zgk nCY=bCY:=by kernel_rfl
theorem eFY:zgk nFY=bFY:=by
 rw [show nFY=⟨2,[],2,[dCY],[]⟩ from by unfold nFY;rw [eCY,sCY]];kernel_rfl
theorem eRY:zgk nRY=bRY:=by
 rw [show nRY=⟨3,[],0,[],[⟨[103],2,dFY⟩]⟩ from by unfold nRY;rw [eFY,sFY]];kernel_rfl
theorem qis:zvg LY=([bCY,bFY,bRY],dRY):=by rw [qgx,eCY,eFY,eRY,sRY]
theorem qd5:Bl.fresh [bCY,bFY,bRY]=[(dCY,bCY),(dFY,bFY),(dRY,bRY)]:=by
 have h1:(Bl.znl [] dCY).isSome=false:=by decide +kernel
 have h2:(Bl.znl [(dCY,bCY)] dFY).isSome=false:=by decide +kernel
 have h3:(Bl.znl [(dCY,bCY),(dFY,bFY)] dRY).isSome=false:=by decide +kernel
 simp only [Bl.fresh,List.foldl_cons,List.foldl_nil,Bl.zpy,sCY,sFY,sRY,h1,h2,h3,Bool.false_eq_true,if_false,List.nil_append,List.cons_append]
abbrev Pr:=List UInt8×Int
def zo3 (n:Nod):List Pr:=n.parts.map (fun p=>(p,1))++n.items.map fun i=>(i.sum,i.kind)
section
variable {σ:Type}(stp:σ->Pr->σ×List Pr×Int)
inductive Run:Nat->List Pr->σ->σ->Int->Prop
 | nil {s:σ}:Run 0 [] s s 0
 | stop {p:Pr}{todo:List Pr}{s:σ}:(stp s p).2.2≠0->Run 1 (p :: todo) s (stp s p).1 (stp s p).2.2
 | step {n:Nat}{p:Pr}{todo:List Pr}{s t:σ}{c:Int}:(stp s p).2.2=0->Run n ((stp s p).2.1++todo) (stp s p).1 t c->Run (n+1) (p :: todo) s t c
variable {stp}
theorem Run.split:∀ {n:Nat}{A B:List Pr}{s t:σ}{c:Int},Run stp n (A++B) s t c->(c≠0/\Run stp n A s t c)\/∃ n1 n2 m,n1+n2=n/\Run stp n1 A s m 0/\Run stp n2 B m t c:=by
 intro n
 induction n with
 | zero=>
  intro A B s t c h
  generalize hC:A++B=C at h
  cases h with
  | nil=>
   obtain⟨rfl,rfl⟩:=List.append_eq_nil_iff.1 hC
   exact .inr ⟨0,0,_,rfl,.nil,.nil⟩
 | succ n ih=>
  intro A B s t c h
  cases A with
  | nil=>exact .inr ⟨0,n+1,s,by omega,.nil,h⟩
  | cons p A=>
   rw [List.cons_append] at h
   cases h with
   | stop h0=>exact .inl ⟨h0,.stop h0⟩
   | step h0 h1=>
    rw [<-List.append_assoc] at h1
    rcases ih h1 with⟨h2,h3⟩ | ⟨n1,n2,m,h2,h3,h4⟩
    ·exact .inl ⟨h2,.step h0 h3⟩
    ·exact .inr ⟨n1+1,n2,m,by omega,.step h0 h3,h4⟩
theorem Run.ends (μ:σ->Nat) (K:Nat) (h:∀ s p,(stp s p).2.1.length<=K/\μ (stp s p).1<=μ s/\((stp s p).2.1≠[]->μ (stp s p).1 < μ s)):∀ (m l:Nat) (todo:List Pr) (s:σ),μ s<=m->todo.length<=l->∃ n t c,Run stp n todo s t c/\n<=l+(K+1) * m:=by
 intro m
 induction m with
 | zero=>
  intro l
  induction l with
  | zero=>
   intro todo s _ hl
   have:todo=[]:=List.eq_nil_of_length_eq_zero (by omega)
   subst this
   exact⟨0,s,0,.nil,by omega⟩
  | succ l ih=>
   intro todo s hm hl
   cases todo with
   | nil=>exact⟨0,s,0,.nil,by omega⟩
   | cons p todo=>
    by_cases h0:(stp s p).2.2=0
    ·obtain⟨_,h2,h3⟩:=h s p
     have h4:(stp s p).2.1=[]:=Decidable.byContradiction fun h5=>by have:=h3 h5;omega
     obtain⟨n,t,c,h5,h6⟩:=ih todo (stp s p).1 (by omega) (by simp at hl;omega)
     exact⟨n+1,t,c,.step h0 (by rw [h4];exact h5),by omega⟩
    ·exact⟨1,_,_,.stop h0,by omega⟩
 | succ m ihm=>
  intro l
  induction l with
  | zero=>
   intro todo s _ hl
   have:todo=[]:=List.eq_nil_of_length_eq_zero (by omega)
   subst this
   exact⟨0,s,0,.nil,by omega⟩
  | succ l ih=>
   intro todo s hm hl
   cases todo with
   | nil=>exact⟨0,s,0,.nil,by omega⟩
   | cons p todo=>
    by_cases h0:(stp s p).2.2=0
    ·obtain⟨h1,h2,h3⟩:=h s p
     by_cases h4:(stp s p).2.1=[]
     ·obtain⟨n,t,c,h5,h6⟩:=ih todo (stp s p).1 (by omega) (by simp at hl;omega)
      exact⟨n+1,t,c,.step h0 (by rw [h4];exact h5),by omega⟩
     ·have h5:=h3 h4
      obtain⟨n,t,c,h6,h7⟩:=ihm (K+l) ((stp s p).2.1++todo) (stp s p).1 (by omega) (by simp at hl |-;omega)
      refine⟨n+1,t,c,.step h0 h6,?_⟩
      have:(K+1) * (m+1)=(K+1) * m+(K+1):=by rw [Nat.mul_add,Nat.mul_one]
      omega
    ·exact⟨1,_,_,.stop h0,by have:0<=(K+1) * (m+1):=Nat.zero_le _;omega⟩
theorem Run.same:∀ {n n':Nat}{A:List Pr}{s t t':σ}{c c':Int},Run stp n A s t c->Run stp n' A s t' c'->n=n'/\t=t'/\c=c':=by
 intro n n' A s t t' c c' h
 induction h generalizing n' t' c' with
 | nil=>intro h';cases h';exact⟨rfl,rfl,rfl⟩
 | stop h0=>
  intro h'
  cases h' with
  | stop _=>exact⟨rfl,rfl,rfl⟩
  | step h1 _=>exact absurd h1 h0
 | step h0 _ ih=>
  intro h'
  cases h' with
  | stop h1=>exact absurd h0 h1
  | step _ h2=>
   obtain⟨a,b,c⟩:=ih h2
   exact⟨by rw [a],b,c⟩
end
structure LSt where
 seen:List Pr
 want:List Pr
 foul:Bool
def qhu (v:List UInt8->Option (List UInt8)) (s:LSt) (p:Pr):LSt×List Pr×Int:=
 if p∈s.seen then (s,[],0) else if Bl.got (v p.1) p.1≠0 then (⟨s.seen++[p],s.want++[p],s.foul⟩,[],0)
 else if (znq (v p.1) p.1 p.2).2≠0 then (⟨s.seen++[p],s.want,true⟩,[],0) else (⟨s.seen++[p],s.want,s.foul⟩,zo3 (znq (v p.1) p.1 p.2).1,0)
def zcb (v:List UInt8->Option (List UInt8)) (s:List Pr×List (List UInt8)) (p:Pr):(List Pr×List (List UInt8))×List Pr×Int:=
 if p∈s.1 then (s,[],0) else if (znq (v p.1) p.1 p.2).2≠0 then ((s.1++[p],s.2),[],(znq (v p.1) p.1 p.2).2)
 else ((s.1++[p],if p.1∈s.2 then s.2 else s.2++[p.1]),zo3 (znq (v p.1) p.1 p.2).1,0)
def unseen (r:Bl.SM) (seen:List Pr):Nat:=(r.filter fun x=>decide ((x.1,(zhg x.2.1.2).1.kind)∉seen)).length
theorem zpk {α:Type}{p q:α->Bool}{l:List α}(h:∀ x∈l,p x=true->q x=true):(l.filter p).length<=(l.filter q).length:=by
 induction l with
 | nil=>simp
 | cons a l ih=>
  have h1:=ih fun x hx=>h x (by simp [hx])
  have h2:=h a (by simp)
  rw [List.filter_cons,List.filter_cons]
  cases hp:p a <;> cases hq:q a <;> simp_all <;> omega
theorem zyg {α:Type}{p q:α->Bool}{l:List α}(h:∀ x∈l,p x=true->q x=true){a:α}(ha:a∈l) (hp:p a=false) (hq:q a=true):(l.filter p).length < (l.filter q).length:=by
 induction l with
 | nil=>cases ha
 | cons b l ih=>
  have h0:∀ x∈l,p x=true->q x=true:=fun x hx=>h x (by simp [hx])
  have h2:=h b (by simp)
  rw [List.filter_cons,List.filter_cons]
  rcases List.mem_cons.1 ha with rfl | ha
  ·have:=zpk h0
   simp [hp,hq];omega
  ·have:=ih h0 ha
   cases hp':p b <;> cases hq':q b <;> simp_all <;> omega
theorem z09 {r:Bl.SM}{seen:List Pr}{p:Pr}:unseen r (seen++[p])<=unseen r seen:=
 zpk fun x _ h=>by simp at h |-;exact h.1
theorem qaj {r:Bl.SM}{seen:List Pr}{p:Pr}(hp:p∉seen) (hg:(znq (Bl.vw r p.1) p.1 p.2).2=0):unseen r (seen++[p]) < unseen r seen:=by
 unfold znq at hg
 split at hg
 ·rename_i h;exact absurd hg h
 ·rename_i h1
  split at hg
  ·simp at hg
  ·rename_i h2
   cases hv:Bl.vw r p.1 with
   | none=>rw [hv] at h1;simp [Bl.got] at h1
   | some L=>
    rw [hv] at h2
    have h3:(zhg L).1.kind=p.2:=Decidable.byContradiction fun h=>h2 (.inr h)
    have h4:∃ x∈r,x.1=p.1/\x.2.1.2=L:=by
     unfold Bl.vw at hv
     cases hm:zbk r p.1 with
     | none=>rw [hm] at hv;cases hv
     | some y=>
      rw [hm] at hv
      obtain⟨c,hc⟩:=zcc hm
      exact⟨_,hc,rfl,by simpa using hv⟩
    obtain⟨x,hx,hx1,hx2⟩:=h4
    refine zyg (fun y _ h=>by simp at h |-;exact h.1) hx ?_ ?_
    ·simp [hx1,hx2,h3]
    ·simp [hx1,hx2,h3,hp]
theorem z8h {v:Option (List UInt8)}{k:List UInt8}{kind:Int}:(zo3 (znq v k kind).1).length<=70000:=by
 have:=zq1 (v:=v) (k:=k) (kind:=kind)
 simp [zo3];omega
theorem zwv {r:Bl.SM}(s:List Pr×List (List UInt8)) (p:Pr):(zcb (Bl.vw r) s p).2.1.length<=70000/\unseen r (zcb (Bl.vw r) s p).1.1<=unseen r s.1/\((zcb (Bl.vw r) s p).2.1≠[]->unseen r (zcb (Bl.vw r) s p).1.1 < unseen r s.1):=by
 unfold zcb
 split
 ·simp
 ·rename_i h1
  split
  ·exact⟨by simp,z09,by simp⟩
  ·rename_i h3
   exact⟨z8h,z09,fun _=>qaj h1 (by simpa using h3)⟩
theorem zxg (r:Bl.SM) (todo:List Pr) (s:List Pr×List (List UInt8)):∃ n t c,Run (zcb (Bl.vw r)) n todo s t c/\n<=todo.length+70001 * unseen r s.1:=
 Run.ends (fun s=>unseen r s.1) 70000 (fun s p=>zwv s p) _ _ todo s (Nat.le_refl _) (Nat.le_refl _)
def zef (p:Pr):List Value:=byteCells p.1++[.int .i64 p.2]
def prV (p:Pr):Value:=.agg (zef p).toArray
theorem fPr:(P.fieldsOf za8).toList.map (fun f=>(f.name,f.type,f.offset))=[("sum",zf,0),("kind",zbl,32)]:=by kernel_rfl
theorem uPr:P.underlying za8=some (.struct (P.fieldsOf za8)):=by kernel_rfl
theorem qhe:P.stoodInHeld za8=false:=by kernel_rfl
theorem qk6 (w:World):(isAgg zf).run P w=.ok true w:=by kernel_rfl
theorem qk8 (w:World):(sizeOf zf).run P w=.ok 32 w:=by kernel_rfl
theorem z8f {p:Pr}(h:p.1.length=32) (w:World):(part zf (zef p).toArray 0).run P w=.ok (arr p.1) w:=by
 have t32:(zef p).take 32=byteCells p.1:=List.take_left' (by simp [h])
 simp [part,qk6,qk8,arr,t32]
theorem z9z {p:Pr}(h:p.1.length=32) (w:World):(part zbl (zef p).toArray 32).run P w=.ok (.int .i64 p.2) w:=by
 refine qjg (by kernel_rfl) ?_
 simp [zef,<-h]
theorem zur {d:Nat}{t e:TypeId}{n:Nat}{w:World}(hu:P.underlying t=some (.array n e)) (he:P.underlying e=some (.int .u8)) (hc:P.cellsOf e=1){A B:List UInt8}(hA:A.length=n) (hB:B.length=n) :
  (Op.equalIn (d+1+1) t (arr A) (arr B)).run P w=.ok (decide (A=B)) w:=by
 obtain⟨i,hi⟩:∃ i,P.info? e=some i:=info_of_underlying he
 unfold arr
 rw [run_equalIn_array w (d+1) _ _ hu hi,zk8 (d:=d) he hc A B (List.range n) (by intro j hj;simp at hj;omega)]
 refine congrArg (fun z=>Result.ok z w) ?_
 rw [decide_eq_decide]
 simp only [List.mem_range]
 constructor
 ·intro h
  apply List.ext_getElem?
  intro j
  by_cases hj:j < n
  ·exact h j hj
  ·rw [List.getElem?_eq_none (by omega),List.getElem?_eq_none (by omega)]
 ·rintro rfl _ _;rfl
theorem z1a:∃ f0 f1:Field,P.fieldsOf za8=#[f0,f1]/\f0.name= "sum"/\f0.type=zf/\f0.offset=0/\f1.name= "kind"/\f1.type=zbl/\f1.offset=32:=by
 have hf:=fPr
 generalize P.fieldsOf za8=fs at hf
 obtain⟨fs⟩:=fs
 have hl:fs.length=2:=by simpa using congrArg List.length hf
 match fs,hl with
 | [a,b],_=>
  simp only [List.map_cons,List.map_nil,List.cons.injEq,Prod.mk.injEq,and_true] at hf
  exact⟨a,b,rfl,hf.1.1,hf.1.2.1,hf.1.2.2,hf.2.1,hf.2.2.1,hf.2.2.2⟩
theorem eqPr {a b:Pr}(ha:a.1.length=32) (hb:b.1.length=32) (w:World):(Op.equalIn 10000 za8 (prV a) (prV b)).run P w=.ok (decide (a=b)) w:=by
 unfold prV
 rw [run_equalIn_agg w 9999 za8 _ _ uPr qhe]
 obtain⟨f0,f1,hf,n0,t0,o0,n1,t1,o1⟩:=z1a
 rw [hf]
 have q0:(Op.equalIn 9999 f0.type (arr a.1) (arr b.1)).run P w=.ok (decide (a.1=b.1)) w:=by rw [t0];exact zur (d:=9997) Bl.u27 Bl.u5 Bl.c5 ha hb
 have q1:(Op.equalIn 9999 f1.type (.int .i64 a.2) (.int .i64 b.2)).run P w=.ok (decide (a.2=b.2)) w:=by
  rw [t1,run_equalIn_int w 9998 zbl .i64 .i64 _ _ (by kernel_rfl)];congr 1
 have e0:∀ {p:Pr},p.1.length=32->(part f0.type (zef p).toArray f0.offset).run P w=.ok (arr p.1) w:=fun h=>by rw [t0,o0];exact z8f h w
 have e1:∀ {p:Pr},p.1.length=32->(part f1.type (zef p).toArray f1.offset).run P w=.ok (.int .i64 p.2) w:=fun h=>by rw [t1,o1];exact z9z h w
 have hiff:(a=b) ↔ a.1=b.1/\a.2=b.2:=Prod.ext_iff
 have fin:∀ {c:Bool},(Op.eqFields 9999 (zef a).toArray (zef b).toArray [f0,f1]).run P w=.ok c w->c=decide (a=b)->(Op.eqFields 9999 (zef a).toArray (zef b).toArray [f0,f1]).run P w=.ok (decide (a=b)) w:=fun h e=>by rw [h,e]
 by_cases h0:a.1=b.1
 ·rw [decide_eq_true h0] at q0
  by_cases h1:a.2=b.2
  ·rw [decide_eq_true h1] at q1
   refine fin (c:=true) ?_ (by simp [hiff,h0,h1])
   simp only [Op.eqFields,n0,n1,ne_eq,String.reduceEq,not_false_eq_true,if_true,Sem.run_bind,e0 ha,e0 hb,e1 ha,e1 hb,Result.andThen_ok,q0,q1,Bool.not_true,Bool.false_eq_true,if_false,Sem.run_pure]
  ·rw [decide_eq_false h1] at q1
   refine fin (c:=false) ?_ (by simp [hiff,h1])
   simp only [Op.eqFields,n0,n1,ne_eq,String.reduceEq,not_false_eq_true,if_true,Sem.run_bind,e0 ha,e0 hb,e1 ha,e1 hb,Result.andThen_ok,q0,q1,Bool.not_true,Bool.not_false,Bool.false_eq_true,if_false,Sem.run_pure]
 ·rw [decide_eq_false h0] at q0
  refine fin (c:=false) ?_ (by simp [hiff,h0])
  simp only [Op.eqFields,n0,n1,ne_eq,String.reduceEq,not_false_eq_true,if_true,Sem.run_bind,e0 ha,e0 hb,Result.andThen_ok,q0,Bool.not_false,Bool.false_eq_true,if_false,Sem.run_pure]
theorem zr2:∀ (l:List Value),(∀ v∈l,Instr.sameBits 9999 v v=true)->(l.zip l).all (fun (x:Value×Value)=>Instr.sameBits 9999 x.1 x.2)=true
 | [],_=>rfl
 | v :: l,h=>by
  simp only [List.zip_cons_cons,List.all_cons,h v (by simp),Bool.true_and]
  exact zr2 l fun u hu=>h u (by simp [hu])
theorem zzk {d:Nat}{t e:TypeId}{n:Nat}{w:World}(hu:P.underlying t=some (.array n e)) (he:P.underlying e=some (.int .u8)) (hc:P.cellsOf e=1){A:List UInt8}(hA:A.length=n) (em:Bool) :
  (Instr.checkKey em (d+1+1) t (arr A)).run P w=.ok () w:=by
 obtain⟨i,hi⟩:∃ i,P.info? e=some i:=info_of_underlying he
 unfold arr
 rw [Instr.checkKey]
 simp only [Sem.run_bind,ql hu,Result.andThen_ok]
 simp only [Std.Legacy.Range.forIn_eq_forIn_range',Std.Legacy.Range.size,Nat.sub_zero,Nat.add_one_sub_one,Nat.div_one]
 have each:∀ j∈List.range' 0 n,j < A.length:=by intro j hj;simp [List.mem_range'] at hj;omega
 generalize List.range' 0 n=is at each
 induction is with
 | nil=>simp
 | cons j is ih=>
  have p1:(part e (byteCells A).toArray j).run P w=_:=zqp (info:=default) he A (each j (by simp))
  have p2:(Instr.checkKey em (d+1) e (.int .u8 ((A[j]'(each j (by simp))).toNat:Int))).run P w=.ok () w:=by
   rw [Instr.checkKey]
   simp only [Sem.run_bind,ql he,Result.andThen_ok,Sem.run_pure]
  simp only [List.forIn_cons,Sem.run_bind,run_sizeOf w hi,Result.andThen_ok,hc,Nat.mul_one,p1,p2,Sem.run_pure]
  exact ih fun y hy=>each y (by simp [hy])
theorem qft {p:Pr}(h:p.1.length=32) (em:Bool) (w:World):(Instr.checkKey em 10000 za8 (prV p)).run P w=.ok () w:=by
 obtain⟨f0,f1,hf,n0,t0,o0,n1,t1,o1⟩:=z1a
 have hu:=uPr
 rw [hf] at hu
 unfold prV
 rw [show (10000:Nat)=9997+1+1+1 from rfl,Instr.checkKey]
 simp only [Sem.run_bind,ql hu,Result.andThen_ok]
 have c0:(Instr.checkKey em (9997+1+1) zf (arr p.1)).run P w=.ok () w:=zzk Bl.u27 Bl.u5 Bl.c5 h em
 have c1:(Instr.checkKey em (9997+1+1) zbl (.int .i64 p.2)).run P w=.ok () w:=by
  rw [Instr.checkKey]
  simp only [Sem.run_bind,ql (show P.underlying zbl=some (.int .i64) by kernel_rfl),Result.andThen_ok,Sem.run_pure]
 simp [n0,n1,t0,t1,o0,o1,z8f h,z9z h,c0,c1]
theorem KPr:KeyOk P za8 Pr (fun p=>p.1.length=32) prV:=
 .wide (fun w a b ha hb=>by unfold Op.equal Op.maxDepth;exact eqPr ha hb w) (by rw [uPr]) (fun w p e hp=>qft hp e w) fun p hp=>by
  unfold prV
  rw [show (10000:Nat)=9999+1 from rfl,Instr.sameBits]
  simp only [beq_self_eq_true,Bool.true_and]
  refine zr2 _ fun v hv=>?_
  simp only [zef,byteCells,List.mem_append,List.mem_map,List.mem_singleton] at hv
  rcases hv with⟨b,_,rfl⟩ | rfl
  ·simp [Instr.sameBits]
  ·simp [Instr.sameBits]
theorem qla:(P.fieldsOf jf).toList.map (fun f=>(f.name,f.type,f.offset))=[("D",zf,0),("Kind",zbl,32)]:=by kernel_rfl
theorem qkd:P.underlying jf=some (.struct (P.fieldsOf jf)):=by kernel_rfl
theorem qeb:P.stoodInHeld jf=false:=by kernel_rfl
theorem qc9:P.eqGuardType P.depth jf=false:=by kernel_rfl
theorem z6i:∃ f0 f1:Field,P.fieldsOf jf=#[f0,f1]/\f0.name= "D"/\f0.type=zf/\f0.offset=0/\f1.name= "Kind"/\f1.type=zbl/\f1.offset=32:=by
 have hf:=qla
 generalize P.fieldsOf jf=fs at hf
 obtain⟨fs⟩:=fs
 have hl:fs.length=2:=by simpa using congrArg List.length hf
 match fs,hl with
 | [a,b],_=>
  simp only [List.map_cons,List.map_nil,List.cons.injEq,Prod.mk.injEq,and_true] at hf
  exact⟨a,b,rfl,hf.1.1,hf.1.2.1,hf.1.2.2,hf.2.1,hf.2.2.1,hf.2.2.2⟩
theorem qiq {a b:Pr}(ha:a.1.length=32) (hb:b.1.length=32) (w:World):(Op.equalIn 10000 jf (prV a) (prV b)).run P w=.ok (decide (a=b)) w:=by
 unfold prV
 rw [run_equalIn_agg w 9999 jf _ _ qkd qeb]
 obtain⟨f0,f1,hf,n0,t0,o0,n1,t1,o1⟩:=z6i
 rw [hf]
 have q0:(Op.equalIn 9999 f0.type (arr a.1) (arr b.1)).run P w=.ok (decide (a.1=b.1)) w:=by rw [t0];exact zur (d:=9997) Bl.u27 Bl.u5 Bl.c5 ha hb
 have q1:(Op.equalIn 9999 f1.type (.int .i64 a.2) (.int .i64 b.2)).run P w=.ok (decide (a.2=b.2)) w:=by
  rw [t1,run_equalIn_int w 9998 zbl .i64 .i64 _ _ (by kernel_rfl)];congr 1
 have e0:∀ {p:Pr},p.1.length=32->(part f0.type (zef p).toArray f0.offset).run P w=.ok (arr p.1) w:=fun h=>by rw [t0,o0];exact z8f h w
 have e1:∀ {p:Pr},p.1.length=32->(part f1.type (zef p).toArray f1.offset).run P w=.ok (.int .i64 p.2) w:=fun h=>by rw [t1,o1];exact z9z h w
 have hiff:(a=b) ↔ a.1=b.1/\a.2=b.2:=Prod.ext_iff
 have fin:∀ {c:Bool},(Op.eqFields 9999 (zef a).toArray (zef b).toArray [f0,f1]).run P w=.ok c w->c=decide (a=b)->(Op.eqFields 9999 (zef a).toArray (zef b).toArray [f0,f1]).run P w=.ok (decide (a=b)) w:=fun h e=>by rw [h,e]
 by_cases h0:a.1=b.1
 ·rw [decide_eq_true h0] at q0
  by_cases h1:a.2=b.2
  ·rw [decide_eq_true h1] at q1
   refine fin (c:=true) ?_ (by simp [hiff,h0,h1])
   simp only [Op.eqFields,n0,n1,ne_eq,String.reduceEq,not_false_eq_true,if_true,Sem.run_bind,e0 ha,e0 hb,e1 ha,e1 hb,Result.andThen_ok,q0,q1,Bool.not_true,Bool.false_eq_true,if_false,Sem.run_pure]
  ·rw [decide_eq_false h1] at q1
   refine fin (c:=false) ?_ (by simp [hiff,h1])
   simp only [Op.eqFields,n0,n1,ne_eq,String.reduceEq,not_false_eq_true,if_true,Sem.run_bind,e0 ha,e0 hb,e1 ha,e1 hb,Result.andThen_ok,q0,q1,Bool.not_true,Bool.not_false,Bool.false_eq_true,if_false,Sem.run_pure]
 ·rw [decide_eq_false h0] at q0
  refine fin (c:=false) ?_ (by simp [hiff,h0])
  simp only [Op.eqFields,n0,n1,ne_eq,String.reduceEq,not_false_eq_true,if_true,Sem.run_bind,e0 ha,e0 hb,Result.andThen_ok,q0,Bool.not_false,Bool.false_eq_true,if_false,Sem.run_pure]
theorem qho {x y:Operand}{a b:Pr}(ha:a.1.length=32) (hb:b.1.length=32){w:World}:(eqM .eql jf x y (prV a) (prV b)).run P w=.ok (.bool (decide (a=b))) w:=by
 have:=qiq ha hb w
 unfold prV at *
 simp only [eqM,Sem.run_bind,run_eqGuard_agg w .eql jf x y _ _ qc9,Result.andThen_ok,run_eql_struct w,this]
theorem zt1 {p:Pr}(h:p.1.length=32):(zef p).length=33:=by simp [zef,h]
def zk5 (p:Pr):List Value:=Bl.zat p.1++[.int .i64 p.2]
theorem zgy (p:Pr):(zk5 p).length=33:=by simp [zk5,Bl.zab]
theorem ztr {p:Pr}(h:p.1.length=32):zk5 p=zef p:=by rw [zk5,zef,Bl.za7 h]
theorem zye {p:Pr}:zcl (zk5 p):=by
 intro v hv
 rcases List.mem_append.1 hv with h | h
 ·exact Bl.zi4 v h
 ·simp at h;subst h;rfl
theorem qj8 (n:Int) (a0 a1 a2 a3 a4 a5 a6 a7 a8 a9 a10 a11 a12 a13 a14 a15 a16 a17 a18 a19 a20 a21 a22 a23 a24 a25 a26 a27 a28 a29 a30 a31:UInt8) (w:World):(Instr.build za8 #[(0,arr [a0,a1,a2,a3,a4,a5,a6,a7,a8,a9,a10,a11,a12,a13,a14,a15,a16,a17,a18,a19,a20,a21,a22,a23,a24,a25,a26,a27,a28,a29,a30,a31]),(1,.int .i64 n)]).run P w=.ok (prV ([a0,a1,a2,a3,a4,a5,a6,a7,a8,a9,a10,a11,a12,a13,a14,a15,a16,a17,a18,a19,a20,a21,a22,a23,a24,a25,a26,a27,a28,a29,a30,a31],n)) w:=by kernel_rfl
theorem bPr {k:List UInt8}(h:k.length=32) (n:Int) (w:World):(Instr.build za8 #[(0,arr k),(1,.int .i64 n)]).run P w=.ok (prV (k,n)) w:=by
 match k,h with
 | [a0,a1,a2,a3,a4,a5,a6,a7,a8,a9,a10,a11,a12,a13,a14,a15,a16,a17,a18,a19,a20,a21,a22,a23,a24,a25,a26,a27,a28,a29,a30,a31],_=>exact qj8 n a0 a1 a2 a3 a4 a5 a6 a7 a8 a9 a10 a11 a12 a13 a14 a15 a16 a17 a18 a19 a20 a21 a22 a23 a24 a25 a26 a27 a28 a29 a30 a31 w
theorem qle (n:Int) (a0 a1 a2 a3 a4 a5 a6 a7 a8 a9 a10 a11 a12 a13 a14 a15 a16 a17 a18 a19 a20 a21 a22 a23 a24 a25 a26 a27 a28 a29 a30 a31:UInt8) (w:World):(Instr.build jf #[(0,arr [a0,a1,a2,a3,a4,a5,a6,a7,a8,a9,a10,a11,a12,a13,a14,a15,a16,a17,a18,a19,a20,a21,a22,a23,a24,a25,a26,a27,a28,a29,a30,a31]),(1,.int .i64 n)]).run P w=.ok (prV ([a0,a1,a2,a3,a4,a5,a6,a7,a8,a9,a10,a11,a12,a13,a14,a15,a16,a17,a18,a19,a20,a21,a22,a23,a24,a25,a26,a27,a28,a29,a30,a31],n)) w:=by kernel_rfl
theorem bPq {k:List UInt8}(h:k.length=32) (n:Int) (w:World):(Instr.build jf #[(0,arr k),(1,.int .i64 n)]).run P w=.ok (prV (k,n)) w:=by
 match k,h with
 | [a0,a1,a2,a3,a4,a5,a6,a7,a8,a9,a10,a11,a12,a13,a14,a15,a16,a17,a18,a19,a20,a21,a22,a23,a24,a25,a26,a27,a28,a29,a30,a31],_=>exact qle n a0 a1 a2 a3 a4 a5 a6 a7 a8 a9 a10 a11 a12 a13 a14 a15 a16 a17 a18 a19 a20 a21 a22 a23 a24 a25 a26 a27 a28 a29 a30 a31 w
theorem qjs (a0 a1 a2 a3 a4 a5 a6 a7 a8 a9 a10 a11 a12 a13 a14 a15 a16 a17 a18 a19 a20 a21 a22 a23 a24 a25 a26 a27 a28 a29 a30 a31:UInt8) (w:World):(Instr.build zu #[(1,.int .i64 1),(2,arr [a0,a1,a2,a3,a4,a5,a6,a7,a8,a9,a10,a11,a12,a13,a14,a15,a16,a17,a18,a19,a20,a21,a22,a23,a24,a25,a26,a27,a28,a29,a30,a31])]).run P w=.ok (.agg ([Value.string .empty,Value.int .i64 1]++byteCells [a0,a1,a2,a3,a4,a5,a6,a7,a8,a9,a10,a11,a12,a13,a14,a15,a16,a17,a18,a19,a20,a21,a22,a23,a24,a25,a26,a27,a28,a29,a30,a31]).toArray) w:=by kernel_rfl
theorem qj3 {k:List UInt8}(h:k.length=32) (w:World):(Instr.build zu #[(1,.int .i64 1),(2,arr k)]).run P w=.ok (.agg (zb0 ⟨[],1,k⟩).toArray) w:=by
 have e:zb0 ⟨[],1,k⟩=[Value.string .empty,Value.int .i64 1]++byteCells k:=by unfold zb0;rw [Bl.za7 h];rfl
 rw [e]
 match k,h with
 | [a0,a1,a2,a3,a4,a5,a6,a7,a8,a9,a10,a11,a12,a13,a14,a15,a16,a17,a18,a19,a20,a21,a22,a23,a24,a25,a26,a27,a28,a29,a30,a31],_=>exact qjs a0 a1 a2 a3 a4 a5 a6 a7 a8 a9 a10 a11 a12 a13 a14 a15 a16 a17 a18 a19 a20 a21 a22 a23 a24 a25 a26 a27 a28 a29 a30 a31 w
def zsu (n:Nod):List Itm:=n.parts.map (fun p=>⟨[],1,p⟩)++n.items
theorem z5b {n:Nod}:zo3 n=(zsu n).map fun i=>(i.sum,i.kind):=by simp [zo3,zsu]
theorem z3s {H:Heap}{n:Nod}{xp xi:Option Addr×Nat×Nat}(h:NodW H n xp xi):∀ i∈zsu n,i.sum.length=32:=by
 intro i hi
 rcases List.mem_append.1 hi with h1 | h1
 ·obtain⟨p,hp,rfl⟩:=List.mem_map.1 h1
  exact h.p32 p hp
 ·exact h.i32 i h1
theorem qf6 (l:List Itm):(l.flatMap zb0).length=l.length * 34:=by rw [zq zb0 zac]
set_option maxHeartbeats 4000000 in
theorem qet {w:World}{H:Heap}{n:Nod}{xp xi:Option Addr×Nat×Nat}(hw:w.heap=H) (hN:NodW H n xp xi) (hpl:n.parts.length<=65536) (hil:n.items.length<=65) :
  zy P zoi #[.agg (zcx n xp xi).toArray] w fun e w'=>∃ x,e=.returned (zb2 x)/\Mine w'.heap H.size zu 34 x ((zsu n).flatMap zb0)/\Ext [] H w'.heap:=by
 refine z0n ?_
 unfold zvz
 refine jm hw fun w1 hw1=>?_
 have hx1:Ext [] H w1.heap:=by rw [hw1];exact .push _
 have hb1:w1.heap[H.size]?=some (.cells (zcx n xp xi).toArray zh (0,0)):=by rw [hw1];exact zk
 have s1:=lt_of_get hb1
 refine je (s:=.slc) (t:=xp) rfl hb1 rfl ?_
 have hxl:=hN.plen
 have hxil:=hN.ilen
 refine jg (fun (s:(Option Addr×Nat×Nat)×Int) W=>∃ i:Nat,s.2=(i:Int)/\i<=n.parts.length/\Ext [] w1.heap W.heap/\Mine W.heap w1.heap.size zu 34 s.1 (((n.parts.take i).map fun p=>(⟨[],1,p⟩:Itm)).flatMap zb0)) (fun s _=>(n.parts.length-s.2).toNat)
  ⟨0,rfl,Nat.zero_le _,.refl _ _,.inl ⟨rfl,rfl⟩⟩ ?_
 rintro ⟨o,_⟩ W ⟨i,rfl,hi,hx,hmo⟩
 simp only at hmo
 have sW:=hx.1
 refine zx (fun hlt=>?_) (fun hge=>?_)
 ·have hil:i < n.parts.length:=by simp only at hlt;omega
  have hget:=List.getElem?_eq_getElem hil
  have hk32:=hN.p32 _ (List.getElem_mem hil)
  have htake:(n.parts.take (i+1)).map (fun p=>(⟨[],1,p⟩:Itm))=(n.parts.take i).map (fun p=>(⟨[],1,p⟩:Itm))++[⟨[],1,n.parts[i]⟩]:=by rw [List.take_add_one,hget,List.map_append];rfl
  generalize n.parts[i]=k at hget hk32 htake
  refine zci (i:=i) Bl.zab (by omega) rfl (hN.parts.ext (hx1.trans hx) (by simp)) hxl hget rfl ?_
  rw [Bl.za7 hk32]
  refine qg8 hk32 rfl fun w4 hw4=>?_
  have hx4:Ext [] W.heap w4.heap:=by rw [hw4];exact .push _
  have hb4:w4.heap[W.heap.size]?=some (.cells (byteCells k).toArray zf (0,0)):=by rw [hw4];exact zk
  refine qp rfl hb4 (by simp [hk32]) ?_
  refine qm (s:=.any) _ (qj3 hk32 _) ?_
  refine zre rfl (hmo.ext hx4 (by simp)) (by have:=hx4.1;omega) (by simp;omega) fun x6 w6 hm6 hx6 hs6=>?_
  refine jd ((i+1:Nat):Int) (by simp) (by omega) (by omega) ?_
  have go:=qx hmo
  exact⟨⟨i+1,rfl,by omega,(hx.trans hx4).own hx6 (fun c hc hlt=>by have:=go c hc;omega),by rw [htake];exact hm6⟩,by simp only;omega⟩
 ·obtain rfl:i=n.parts.length:=by simp only at hge;omega
  rw [List.take_length] at hmo
  refine je (s:=.slc) (t:=xi) rfl (hx.get hb1 (by simp)) rfl ?_
  have hol:o.2.1=n.parts.length:=by have:=hmo.len;rw [qf6] at this;simp at this;omega
  refine zcj (bts:=56) (n:=n.items.length) (us:=n.items.flatMap zb0) ET (by omega) uST (zbg uST) rfl hmo sW (Src.slc rfl (hN.items.ext (hx1.trans hx) (by simp)) (by rw [qf6]) |> fun h=>by rw [hxil];exact h) (by
   intro v hv
   obtain⟨y,_,hy⟩:=List.mem_flatMap.1 hv
   exact ztm v hy) (by omega) fun x' w' hm' hl' hx' hs'=>?_
  have go:=qx hmo
  refine⟨x',rfl,?_,(hx1.trans hx).own hx' (fun c hc hlt=>by have:=go c hc;omega)⟩
  unfold zsu
  rw [List.flatMap_append]
  exact hm'.mono (by omega)
set_option maxHeartbeats 4000000 in
theorem qe5 {w:World}{H:Heap}{n:Nod}{xp xi:Option Addr×Nat×Nat}(hw:w.heap=H) (hN:NodW H n xp xi) (hpl:n.parts.length<=65536) (hil:n.items.length<=65) :
  zy P zrl #[.agg (zcx n xp xi).toArray] w fun e w'=>∃ x,e=.returned (zb2 x)/\Mine w'.heap H.size zu 34 x ((zsu n).flatMap zb0)/\Ext [] H w'.heap:=by
 refine z2u ?_
 unfold zxk
 refine jm hw fun w1 hw1=>?_
 have hx1:Ext [] H w1.heap:=by rw [hw1];exact .push _
 have hb1:w1.heap[H.size]?=some (.cells (zcx n xp xi).toArray zh (0,0)):=by rw [hw1];exact zk
 have s1:=lt_of_get hb1
 have hxl:=hN.plen
 have hxil:=hN.ilen
 refine jg (fun (s:(Option Addr×Nat×Nat)×Int) W=>∃ i:Nat,s.2=(i:Int)/\i<=n.parts.length/\Ext [] w1.heap W.heap/\Mine W.heap w1.heap.size zu 34 s.1 (((n.parts.take i).map fun p=>(⟨[],1,p⟩:Itm)).flatMap zb0)) (fun s _=>(n.parts.length-s.2).toNat)
  ⟨0,rfl,Nat.zero_le _,.refl _ _,.inl ⟨rfl,rfl⟩⟩ ?_
 rintro ⟨o,_⟩ W ⟨i,rfl,hi,hx,hmo⟩
 simp only at hmo
 have sW:=hx.1
 have hbW:=hx.get hb1 (by simp)
 refine je (s:=.slc) (t:=xp) rfl hbW rfl ?_
 refine zx (fun hlt=>?_) (fun hge=>?_)
 ·have hil:i < n.parts.length:=by simp only at hlt;omega
  have hget:=List.getElem?_eq_getElem hil
  have hk32:=hN.p32 _ (List.getElem_mem hil)
  have htake:(n.parts.take (i+1)).map (fun p=>(⟨[],1,p⟩:Itm))=(n.parts.take i).map (fun p=>(⟨[],1,p⟩:Itm))++[⟨[],1,n.parts[i]⟩]:=by rw [List.take_add_one,hget,List.map_append];rfl
  generalize n.parts[i]=k at hget hk32 htake
  refine je (s:=.slc) (t:=xp) rfl hbW rfl ?_
  refine zci (i:=i) Bl.zab (by omega) rfl (hN.parts.ext (hx1.trans hx) (by simp)) hxl hget rfl ?_
  rw [Bl.za7 hk32]
  refine qm (s:=.any) _ (qj3 hk32 _) ?_
  refine zre rfl hmo sW (by simp;omega) fun x6 w6 hm6 hx6 hs6=>?_
  refine jd ((i+1:Nat):Int) (by simp) (by omega) (by omega) ?_
  have go:=qx hmo
  exact⟨⟨i+1,rfl,by omega,hx.own hx6 (fun c hc hlt=>by have:=go c hc;omega),by rw [htake];exact hm6⟩,by simp only;omega⟩
 ·obtain rfl:i=n.parts.length:=by simp only at hge;omega
  rw [List.take_length] at hmo
  refine jg (fun (s:(Option Addr×Nat×Nat)×Int) W=>∃ j:Nat,s.2=(j:Int)/\j<=n.items.length/\Ext [] w1.heap W.heap/\Mine W.heap w1.heap.size zu 34 s.1 ((n.parts.map (fun p=>(⟨[],1,p⟩:Itm))++n.items.take j).flatMap zb0)) (fun s _=>(n.items.length-s.2).toNat)
   ⟨0,rfl,Nat.zero_le _,hx,by simpa using hmo⟩ ?_
  rintro ⟨o2,_⟩ W2 ⟨j,rfl,hj,hx2,hmo2⟩
  simp only at hmo2
  have sW2:=hx2.1
  have hbW2:=hx2.get hb1 (by simp)
  refine je (s:=.slc) (t:=xi) rfl hbW2 rfl ?_
  refine zx (fun hlt=>?_) (fun hge=>?_)
  ·have hjl:j < n.items.length:=by simp only at hlt;omega
   have hget:=List.getElem?_eq_getElem hjl
   have htake:n.items.take (j+1)=n.items.take j++[n.items[j]]:=by rw [List.take_add_one,hget];rfl
   generalize n.items[j]=it at hget htake
   refine je (s:=.slc) (t:=xi) rfl hbW2 rfl ?_
   refine zci (i:=j) zac (by omega) rfl (hN.items.ext (hx1.trans hx2) (by simp)) hxil hget rfl ?_
   refine zre rfl hmo2 sW2 (by simp;omega) fun x6 w6 hm6 hx6 hs6=>?_
   refine jd ((j+1:Nat):Int) (by simp) (by omega) (by omega) ?_
   have go:=qx hmo2
   exact⟨⟨j+1,rfl,by omega,hx2.own hx6 (fun c hc hlt=>by have:=go c hc;omega),by rw [htake,<-List.append_assoc];exact hm6⟩,by simp only;omega⟩
  ·obtain rfl:j=n.items.length:=by simp only at hge;omega
   rw [List.take_length] at hmo2
   exact⟨o2,rfl,hmo2.mono (by omega),hx1.trans hx2⟩
theorem uSq:P.underlying zad=some (.slice jf):=by kernel_rfl
theorem szq:(P.info? jf).map (·.size)=some 33:=by kernel_rfl
theorem Eq8:Elem P jf 33 40:=zmm (z:=.agg (byteCells (List.replicate 32 0)++[Value.int .i64 0]).toArray) (by kernel_rfl) rfl
theorem qeo (l:List Pr):(l.flatMap zk5).length=l.length * 33:=by rw [zq zk5 zgy]
theorem qgd {p:Pr}(h:p.1.length=32):prV p=.agg (zk5 p).toArray:=by unfold prV;rw [ztr h]
theorem qdv {w:World}{H:Heap}{B:Nat}{x:Option Addr×Nat×Nat}{L:List Pr}{p:Pr}(hp:p.1.length=32) (hw:w.heap=H) (hm:Mine H B jf 33 x (L.flatMap zk5)) (hBs:B<=H.size) (hlen:L.length<=1073741824){K:(Option Addr×Nat×Nat)->World->Prop}
  (hK:∀ x' w',Mine w'.heap B jf 33 x' ((L++[p]).flatMap zk5)->Ext (jk x) H w'.heap->(∀ c∈jk x',c∈jk x\/H.size<=c)->K x' w') :
  zaw P (Instr.buildSlice zad 1 #[(0,prV p)]) .slc w fun (t27:(Option Addr×Nat×Nat)) w_13=>
  zaw P (Builtin.append_ #[zad,zad] zad #[(Value.slice x.1 x.2.1 x.2.2),(Value.slice t27.1 t27.2.1 t27.2.2)]) .slc w_13 K:=by
 have hlx:x.2.1=L.length:=by have:=hm.len;rw [qeo] at this;omega
 rw [qgd hp]
 refine zah (s:=.slc) (some ⟨w.heap.size,0,none⟩,1,1) _ (zen Eq8 uSq (v:=.agg (zk5 p).toArray) (by simp [Value.cells,zgy]) (by omega) (by omega)) ?_
 subst hw
 have hxp:Ext [] w.heap (w.heap.push (.cells (Value.agg (zk5 p).toArray).cells jf)):=.push _
 refine zcj (bts:=40) (n:=1) (us:=zk5 p) (H:=w.heap.push (.cells (Value.agg (zk5 p).toArray).cells jf)) Eq8 (by omega) uSq (zbg uSq) rfl (hm.ext hxp (by simp)) (by simp;omega)
  (Src.slc rfl (.inr ⟨w.heap.size,0,_,_,_,rfl,zk,by simp [zft],by simp [zft,List.take_of_length_le]⟩) (by rw [zgy])) zye (by omega) ?_
 intro x' w4 hm4 hl4 hx4 hs4
 refine hK x' w4 (by rw [List.flatMap_append,List.flatMap_singleton];exact hm4) ((hxp.mono (by simp)).trans hx4) (fun c hc=>?_)
 rcases hs4 c hc with h | h
 ·exact .inl h
 ·right;have:=hxp.1;omega
theorem z8a {i:Itm}{c:Array Value}{o:Nat}(h32:i.sum.length=32) (hs:o+34<=c.size) (hc:∀ j,j < 34->c[o+j]?=(zb0 i)[j]?):c.extract (o+2) (o+2+32)=(byteCells i.sum).toArray:=by
 apply Array.ext_getElem?
 intro j
 rw [Array.getElem?_extract]
 have hl:(byteCells i.sum).length=32:=by simp [h32]
 by_cases hj:j < 32
 ·rw [if_pos (by omega),show o+2+j=o+(j+2) by omega,hc (j+2) (by omega)]
  simp [zb0,Bl.za7 h32]
 ·rw [if_neg (by omega),Array.getElem?_eq_none (by simp [hl];omega)]
set_option maxHeartbeats 4000000 in
theorem qeg {w:World}{H:Heap}{n:Nod}{xp xi:Option Addr×Nat×Nat}(hw:w.heap=H) (hN:NodW H n xp xi) (hpl:n.parts.length<=65536) (hil:n.items.length<=65) :
  zy P zo7 #[.agg (zcx n xp xi).toArray] w fun e w'=>∃ x,e=.returned (zb2 x)/\Mine w'.heap H.size jf 33 x ((zo3 n).flatMap zk5)/\Ext [] H w'.heap:=by
 refine z0f ?_
 unfold zu7
 refine jm hw fun w1 hw1=>?_
 have hx1:Ext [] H w1.heap:=by rw [hw1];exact .push _
 have hb1:w1.heap[H.size]?=some (.cells (zcx n xp xi).toArray zh (0,0)):=by rw [hw1];exact zk
 have s1:=lt_of_get hb1
 refine qp rfl hb1 rfl ?_
 refine zl (qe5 rfl (hN.ext hx1) hpl hil) ?_
 rintro e w2 ⟨x7,rfl,hm2,hx2⟩
 refine⟨x7,rfl,?_⟩
 have h32:=z3s hN
 have hkl:(zsu n).length<=65601:=by simp [zsu];omega
 rw [z5b]
 generalize zsu n=I at *
 have hxl:x7.2.1=I.length:=by have:=hm2.len;rw [qf6] at this;omega
 have hx02:=hx1.trans hx2
 have s2:=hx2.1
 refine jg (fun (s:(Option Addr×Nat×Nat)×Int) W=>∃ i:Nat,s.2=(i:Int)/\i<=I.length/\Ext [] w2.heap W.heap/\Mine W.heap w2.heap.size jf 33 s.1 (((I.take i).map fun i=>(i.sum,i.kind)).flatMap zk5)) (fun s _=>(I.length-s.2).toNat)
  ⟨0,rfl,Nat.zero_le _,.refl _ _,.inl ⟨rfl,rfl⟩⟩ ?_
 rintro ⟨o,_⟩ W ⟨i,rfl,hi,hx,hmo⟩
 simp only at hmo
 have sW:=hx.1
 refine zx (fun hlt=>?_) (fun hge=>?_)
 ·have hil:i < I.length:=by simp only at hlt;omega
  have hget:=List.getElem?_eq_getElem hil
  have hk32:=h32 _ (List.getElem_mem hil)
  have htake:(I.take (i+1)).map (fun i=>(i.sum,i.kind))=(I.take i).map (fun i=>(i.sum,i.kind))++[((I[i]).sum,(I[i]).kind)]:=by rw [List.take_add_one,hget,List.map_append];rfl
  generalize I[i]=it at hget hk32 htake
  refine jv rfl fun w4 hw4=>?_
  rw [<-hw4] at hx hmo sW
  have hmW:=hm2.ext hx (by simp)
  refine Bl.zd6 (i:=i) zac (by omega) hmW.cells hxl hget rfl fun ba oa ca Ta fra _ hba hsa hca _=>?_
  refine Bl.zd6 (i:=i) zac (by omega) hmW.cells hxl hget rfl fun b2 o2 c2 T2 fr2 _ hb2 hs2 hc2 _=>?_
  simp only [vg]
  refine zhc rfl hba (by omega) ?_
  rw [z8a hk32 hsa hca]
  refine je (s:=.int .i64) (t:=it.kind) rfl hb2 (hc2 1 (by omega)) ?_
  refine qm (s:=.any) _ (bPq hk32 it.kind _) ?_
  refine qdv (p:=(it.sum,it.kind)) hk32 rfl hmo sW (by simp;omega) fun x6 w6 hm6 hx6 hs6=>?_
  refine jd ((i+1:Nat):Int) (by simp) (by omega) (by omega) ?_
  have go:=qx hmo
  exact⟨⟨i+1,rfl,by omega,hx.own hx6 (fun c hc hlt=>by have:=go c hc;omega),by rw [htake];exact hm6⟩,by omega⟩
 ·obtain rfl:i=I.length:=by simp only at hge;omega
  rw [List.take_length] at hmo
  exact⟨o,rfl,hmo.mono (by omega),hx02.trans hx⟩
theorem qlg {p:Pr}{c:Array Value}{o:Nat}(h32:p.1.length=32) (hs:o+33<=c.size) (hc:∀ j,j < 33->c[o+j]?=(zk5 p)[j]?):c.extract o (o+33)=(zef p).toArray:=by
 rw [<-ztr h32]
 apply Array.ext_getElem?
 intro j
 rw [Array.getElem?_extract]
 by_cases hj:j < 33
 ·rw [if_pos (by omega),hc j hj];simp
 ·rw [if_neg (by omega),Array.getElem?_eq_none (by simp [zgy];omega)]
theorem qie {w:World}{H:Heap}{a:Option Addr}{l c:Nat}{L:List Pr}{p:Pr}(hw:w.heap=H) (hL:Cells H a (L.flatMap zk5)) (hl:l=L.length) (h32:∀ q∈L,q.1.length=32) (hp:p.1.length=32) (hlen:L.length<=1099511627776) :
  zy P zyz #[.slice a l c,prV p] w fun e w'=>e=.returned (.bool (decide (p∈L)))/\Ext [] H w'.heap:=by
 subst hl
 refine z7x ?_
 unfold z4n
 rw [show (prV p).cells=(zef p).toArray from rfl]
 refine jm hw fun w1 hw1=>?_
 have hx1:Ext [] H w1.heap:=by rw [hw1];exact .push _
 have hb1:w1.heap[H.size]?=some (.cells (zef p).toArray jf (0,0)):=by rw [hw1];exact zk
 refine jg (fun (s:Int) W=>∃ i:Nat,s=(i:Int)/\i<=L.length/\p∉L.take i/\W.heap=w1.heap) (fun s _=>(L.length-s).toNat) ⟨0,rfl,Nat.zero_le _,by simp,rfl⟩ ?_
 rintro _ W ⟨i,rfl,hi,hno,hW⟩
 have hxW:Ext [] H W.heap:=by rw [hW];exact hx1
 refine zx (fun hlt=>?_) (fun hge=>?_)
 ·have hil:i < L.length:=by omega
  have hget:=List.getElem?_eq_getElem hil
  have hmem:=List.getElem_mem hil
  generalize L[i]=q at hget hmem
  have hq:=h32 q hmem
  refine jv rfl fun w3 hw3=>?_
  have hx3:Ext [] H w3.heap:=by rw [hw3];exact hxW
  have hb3:w3.heap[H.size]?=some (.cells (zef p).toArray jf (0,0)):=by rw [hw3,hW];exact hb1
  refine Bl.zd6 (i:=i) zgy (by omega) (hL.ext hx3 (by simp)) rfl hget rfl fun ba oa ca Ta fra _ hba hsa hca _=>?_
  refine zhc rfl hba hsa ?_
  rw [qlg hq hsa hca]
  refine qp rfl hb3 (by simp [zt1 hp]) ?_
  refine qm (s:=.bool) _ (qho hq hp) ?_
  refine zdv (p:=q=p) (by simp) (fun h=>?_) (fun h=>?_)
  ·subst h
   exact⟨by rw [decide_eq_true hmem],hx3⟩
  ·refine jd ((i+1:Nat):Int) (by simp) (by omega) (by omega) ?_
   refine⟨⟨i+1,rfl,by omega,?_,by rw [hw3,hW]⟩,by omega⟩
   rw [List.take_add_one,hget]
   simp only [Option.toList_some,List.mem_append,List.mem_singleton]
   rintro (h' | h')
   ·exact hno h'
   ·exact h h'.symm
 ·rw [List.take_of_length_le (by omega)] at hno
  exact⟨by rw [decide_eq_false hno],hxW⟩
theorem qjq {k:List UInt8}{c:Array Value}{o:Nat}(h32:k.length=32) (hs:o+32<=c.size) (hc:∀ j,j < 32->c[o+j]?=(Bl.zat k)[j]?):c.extract o (o+32)=(byteCells k).toArray:=by
 rw [<-Bl.za7 h32]
 apply Array.ext_getElem?
 intro j
 rw [Array.getElem?_extract]
 by_cases hj:j < 32
 ·rw [if_pos (by omega),hc j hj];simp
 ·rw [if_neg (by omega),Array.getElem?_eq_none (by simp [Bl.zab];omega)]
theorem z8o {w:World}{H:Heap}{a:Option Addr}{l c:Nat}{L:List (List UInt8)}{k:List UInt8}(hw:w.heap=H) (hL:Cells H a (L.flatMap Bl.zat)) (hl:l=L.length) (h32:∀ q∈L,q.length=32) (hk:k.length=32) (hlen:L.length<=1099511627776) :
  zy P zpg #[.slice a l c,arr k] w fun e w'=>e=.returned (.bool (decide (k∈L)))/\Ext [] H w'.heap:=by
 subst hl
 refine z6l ?_
 unfold z0l
 rw [show (arr k).cells=(byteCells k).toArray from rfl]
 refine jm hw fun w1 hw1=>?_
 have hx1:Ext [] H w1.heap:=by rw [hw1];exact .push _
 have hb1:w1.heap[H.size]?=some (.cells (byteCells k).toArray zf (0,0)):=by rw [hw1];exact zk
 refine jg (fun (s:Int) W=>∃ i:Nat,s=(i:Int)/\i<=L.length/\k∉L.take i/\W.heap=w1.heap) (fun s _=>(L.length-s).toNat) ⟨0,rfl,Nat.zero_le _,by simp,rfl⟩ ?_
 rintro _ W ⟨i,rfl,hi,hno,hW⟩
 have hxW:Ext [] H W.heap:=by rw [hW];exact hx1
 refine zx (fun hlt=>?_) (fun hge=>?_)
 ·have hil:i < L.length:=by omega
  have hget:=List.getElem?_eq_getElem hil
  have hmem:=List.getElem_mem hil
  generalize L[i]=q at hget hmem
  have hq:=h32 q hmem
  refine jv rfl fun w3 hw3=>?_
  have hx3:Ext [] H w3.heap:=by rw [hw3];exact hxW
  have hb3:w3.heap[H.size]?=some (.cells (byteCells k).toArray zf (0,0)):=by rw [hw3,hW];exact hb1
  refine Bl.zd6 (i:=i) Bl.zab (by omega) (hL.ext hx3 (by simp)) rfl hget rfl fun ba oa ca Ta fra _ hba hsa hca _=>?_
  refine zhc rfl hba hsa ?_
  rw [qjq hq hsa hca]
  refine qp rfl hb3 (by simp [hk]) ?_
  refine qm (s:=.bool) _ (zym Bl.u27 Bl.u5 Bl.c5 Bl.g27 hq hk) ?_
  refine zdv (p:=q=k) (by simp) (fun h=>?_) (fun h=>?_)
  ·subst h
   exact⟨by rw [decide_eq_true hmem],hx3⟩
  ·refine jd ((i+1:Nat):Int) (by simp) (by omega) (by omega) ?_
   refine⟨⟨i+1,rfl,by omega,?_,by rw [hw3,hW]⟩,by omega⟩
   rw [List.take_add_one,hget]
   simp only [Option.toList_some,List.mem_append,List.mem_singleton]
   rintro (h' | h')
   ·exact hno h'
   ·exact h h'.symm
 ·rw [List.take_of_length_le (by omega)] at hno
  exact⟨by rw [decide_eq_false hno],hxW⟩
theorem qah {w:World}{H:Heap}{a b:Option Addr}{l c m d:Nat}{L M:List (List UInt8)}(hw:w.heap=H) (hL:Cells H a (L.flatMap Bl.zat)) (hl:l=L.length) (hM:Cells H b (M.flatMap Bl.zat)) (hm:m=M.length) (h32:∀ q∈L,q.length=32) (h32':∀ q∈M,q.length=32) (hlen:L.length<=1099511627776) :
  zy P zid #[.slice a l c,.slice b m d] w fun e w'=>e=.returned (.bool (decide (L=M)))/\w'.heap=H:=by
 subst hl hm
 refine zwj ?_
 unfold zp5
 refine zan (fun h=>⟨by rw [decide_eq_false (fun e=>h (by rw [e]))],hw⟩) (fun h=>?_)
 have h:L.length=M.length:=by omega
 refine jg (fun (s:Int) W=>∃ i:Nat,s=(i:Int)/\i<=L.length/\L.take i=M.take i/\W.heap=H) (fun s _=>(L.length-s).toNat) ⟨0,rfl,Nat.zero_le _,by simp,hw⟩ ?_
 rintro _ W ⟨i,rfl,hi,ht,hW⟩
 refine zx (fun hlt=>?_) (fun hge=>?_)
 ·have hil:i < L.length:=by omega
  have hget:=List.getElem?_eq_getElem hil
  have hget2:=List.getElem?_eq_getElem (show i < M.length by omega)
  have hf:=h32 _ (List.getElem_mem hil)
  have hg:=h32' _ (List.getElem_mem (show i < M.length by omega))
  generalize L[i]=f at hget hf
  generalize M[i]=g at hget2 hg
  refine jv hW fun W1 hW1=>?_
  refine Bl.zd6 (i:=i) Bl.zab (by omega) hL rfl hget rfl fun ba oa ca Ta fra _ hba hsa hca _=>?_
  refine Bl.zd6 (i:=i) Bl.zab (by omega) hM rfl hget2 rfl fun b2 o2 c2 T2 fr2 _ hb2 hs2 hc2 _=>?_
  refine zhc hW1 hba hsa ?_
  rw [qjq hf hsa hca]
  refine zhc hW1 hb2 hs2 ?_
  rw [qjq hg hs2 hc2]
  refine qm (s:=.bool) _ (ztb Bl.u27 Bl.u5 Bl.c5 Bl.g27 hf hg) ?_
  by_cases e:f=g
  ·refine jr (by simp [e]) ?_
   refine jd ((i+1:Nat):Int) (by simp) (by omega) (by omega) ?_
   exact⟨⟨i+1,rfl,by omega,by rw [List.take_add_one,List.take_add_one,ht,hget,hget2,e],hW1⟩,by omega⟩
  ·refine zai (by simp [e]) ⟨?_,hW1⟩
   rw [decide_eq_false fun h0=>e ?_]
   rw [h0,hget2] at hget
   exact (Option.some.inj hget).symm
 ·rw [List.take_of_length_le (by omega),List.take_of_length_le (by omega)] at ht
  exact⟨by rw [decide_eq_true ht],hW⟩
def zj7 (R:List UInt8) (i:Nat):List UInt8:=R.take i++List.replicate (32-i) 0
theorem zw7 {R:List UInt8}{i:Nat}(h:i<=R.length) (hi:i<=32):(zj7 R i).length=32:=by simp [zj7];omega
theorem z2f {R:List UInt8}{i:Nat}(h:i < R.length) (hi:i < 32):(zj7 R i).set i R[i]=zj7 R (i+1):=by
 apply List.ext_getElem?
 intro j
 rw [List.getElem?_set]
 have hl:(zj7 R i).length=32:=zw7 (by omega) (by omega)
 by_cases hj:i=j
 ·subst hj
  rw [if_pos rfl,if_pos (by omega)]
  simp only [zj7]
  rw [List.getElem?_append_left (by simp;omega),List.getElem?_take,if_pos (by omega),List.getElem?_eq_getElem h]
 ·rw [if_neg hj]
  simp only [zj7]
  by_cases hj2:j < i
  ·rw [List.getElem?_append_left (by simp;omega),List.getElem?_append_left (by simp;omega),List.getElem?_take,List.getElem?_take,if_pos (by omega),if_pos (by omega)]
  ·rw [List.getElem?_append_right (by simp;omega),List.getElem?_append_right (by simp;omega)]
   simp only [List.getElem?_replicate,List.length_take]
   by_cases h3:j < 32
   ·rw [if_pos (by omega),if_pos (by omega)]
   ·rw [if_neg (by omega),if_neg (by omega)]
set_option maxHeartbeats 4000000 in
theorem z9l {w:World}{H:Heap}{b:Nat}{F:List Nat}{s:Rest}(hw:w.heap=H) (hI:znt H b F s) (hF:∀ c∈F,c < H.size) :
  zy P zgh #[.pointer (some ⟨b,0,none⟩)] w fun e w'=>e=.returned (arr (dgS s).1)/\znt w'.heap b F (dgS s).2/\Ext [b] H w'.heap:=by
 have hbl:=hI.lt
 refine zs6 ?_
 unfold zmt
 refine jm hw fun w1 hw1=>?_
 have hx1:Ext [] H w1.heap:=by rw [hw1];exact .push _
 have hb1:w1.heap[H.size]?=some (.cells (zc P zf) zf (0,0)):=by rw [hw1];exact zk
 refine jm rfl fun w2 hw2=>?_
 have hx2:Ext [] w1.heap w2.heap:=by rw [hw2];exact .push _
 have hd2:w2.heap[w1.heap.size]?=some (.cells (zc P zf) zf (0,0)):=by rw [hw2];exact zk
 have hx02:=hx1.trans hx2
 have hb2:=hx2.get hb1 (by simp)
 have s1:=lt_of_get hb1
 have s2:=lt_of_get hd2
 have hI2:=hI.ext hx02 (by simp) (by simp)
 rw [qh7] at hb2 hd2
 simp only [qg,vg,Nat.zero_add]
 obtain⟨ec,hld,hec⟩:=hI2.err
 rw [Nat.zero_add] at hld
 refine hld rfl ?_
 cases s with
 | none=>
  refine zan (fun _=>?_) (fun h=>by have:=hec.1 h;simp at this)
  refine qp rfl hd2 (by simp [Bl.nought]) ?_
  refine z4l Bl.zbf rfl hb2 (by simp [Bl.nought]) fun w3 hw3=>?_
  have hx3:Ext [H.size] w2.heap w3.heap:=by rw [hw3];exact Ext.set _ (by simp)
  have hb3:w3.heap[H.size]?=some (.cells (byteCells Bl.nought).toArray zf (0,0)):=by rw [hw3];exact qc hb2
  refine qp rfl hb3 (by simp [Bl.nought]) ?_
  refine⟨rfl,hI2.ext hx3 (by simp;omega) (fun c hc h=>by simp at h;subst h;have:=hF _ hc;omega),(hx02.mono (by simp)).own hx3 (fun c hc hlt=>by simp at hc;omega)⟩
 | some R=>
 refine jr (by rw [hec.2 rfl];rfl) ?_
 refine zl (z9n rfl hI2) ?_
 rintro e w4 ⟨rfl,hw4⟩
 refine⟨(R.length:Int),rfl,?_⟩
 have hx4:Ext [] H w4.heap:=by rw [hw4];exact hx02
 have hI4:znt w4.heap b F (some R):=by rw [hw4];exact hI2
 have hb4:w4.heap[H.size]?=some (.cells (byteCells Bl.nought).toArray zf (0,0)):=by rw [hw4];exact hb2
 have hd4:w4.heap[w1.heap.size]?=some (.cells (byteCells Bl.nought).toArray zf (0,0)):=by rw [hw4];exact hd2
 refine zx (fun hlt=>?_) (fun hge=>?_)
 ·have he:dgS (some R)=(Bl.nought,none):=by unfold dgS;simp only;rw [if_neg (by omega)]
  refine zl (qay 20 rfl hI4 (by omega)) ?_
  rintro e w5 ⟨rfl,h5,hx5⟩
  refine⟨(),rfl,?_⟩
  have hd5:=hx5.get hd4 (by simp;omega)
  have hb5:=hx5.get hb4 (by simp;omega)
  refine qp rfl hd5 (by simp [Bl.nought]) ?_
  refine z4l Bl.zbf rfl hb5 (by simp [Bl.nought]) fun w6 hw6=>?_
  have hx6:Ext [H.size] w5.heap w6.heap:=by rw [hw6];exact Ext.set _ (by simp)
  have hb6:w6.heap[H.size]?=some (.cells (byteCells Bl.nought).toArray zf (0,0)):=by rw [hw6];exact qc hb5
  refine qp rfl hb6 (by simp [Bl.nought]) ?_
  rw [he]
  exact⟨rfl,h5.ext hx6 (by simp;omega) (fun c hc h=>by simp at h;subst h;have:=hF _ hc;omega),((hx4.mono (by simp)).trans hx5).own hx6 (fun c hc hlt=>by simp at hc;omega)⟩
 have hR32:32<=R.length:=by omega
 have he:dgS (some R)=(R.take 32,some (R.drop 32)):=by unfold dgS;simp only;rw [if_pos hR32]
 refine jg (fun (t:Int) W=>∃ i:Nat,t=(i:Int)/\i<=32/\znt W.heap b F (some R)/\Ext [w1.heap.size] w4.heap W.heap/\W.heap[w1.heap.size]?=some (.cells (byteCells (zj7 R i)).toArray zf (0,0))) (fun t _=>(32-t).toNat)
  ⟨0,rfl,by omega,hI4,.refl _ _,hd4⟩ ?_
 rintro _ W ⟨i,rfl,hi,hIW,hxW,hdW⟩
 refine zx (fun hlt=>?_) (fun hdone=>?_)
 ·have hi32:i < 32:=by omega
  refine jv rfl fun w8 hw8=>?_
  have hI8:znt w8.heap b F (some R):=by rw [hw8];exact hIW
  have hd8:w8.heap[w1.heap.size]?=some (.cells (byteCells (zj7 R i)).toArray zf (0,0)):=by rw [hw8];exact hdW
  have hx8:Ext [w1.heap.size] w4.heap w8.heap:=by rw [hw8];exact hxW
  obtain⟨x,j,ee,B,g1,g2,g3,g4,g5,g6,g7,g8,rfl,hR⟩:=id hI8
  refine je (s:=.slc) (t:=x) rfl g1 rfl ?_
  refine je (s:=.int .i64) (t:=(j:Int)) rfl g1 rfl ?_
  have hRl:R.length=B.length-j:=by rw [hR];simp
  refine jd ((j+i:Nat):Int) (by omega) (by omega) (by omega) ?_
  obtain⟨b9,o9,c9,T9,fr9,hx9,hb9,ho9,hby⟩:=g4.bytes (fun (h:B=[])=>absurd (congrArg List.length h) (by simp only [List.length_nil];omega))
  rw [hx9]
  refine zkk (j+i) rfl (by omega) ?_
  have hget:B.getD (j+i) 0=R[i]'(by omega):=by
   have h1:B[j+i]?=R[i]?:=by rw [hR,List.getElem?_drop]
   rw [List.getD_eq_getElem?_getD,h1,List.getElem?_eq_getElem (by omega)]
   rfl
  refine je (s:=.int .u8) (t:=((R[i]'(by omega)).toNat:Int)) rfl hb9 (by have:=hby (j+i) (by omega);simp only [hget] at this;exact this) ?_
  refine zeg i rfl (by omega) ?_
  refine zbd rfl hd8 (by simp [zw7 (show i<=R.length by omega) (show i<=32 by omega)];omega) fun w10 hw10=>?_
  have hset:(byteCells (zj7 R i)).toArray.setIfInBounds i (.int .u8 ((R[i]'(by omega)).toNat:Int))=(byteCells (zj7 R (i+1))).toArray:=by
   rw [<-z2f (show i < R.length by omega) hi32]
   simp [byteCells,List.map_set]
  rw [hset] at hw10
  have hx10:Ext [w1.heap.size] w8.heap w10.heap:=by rw [hw10];exact Ext.set _ (by simp)
  refine jd ((i+1:Nat):Int) (by simp) (by omega) (by omega) ?_
  exact⟨⟨i+1,rfl,by omega,hI8.ext hx10 (by simp;omega) (fun c hc h=>by simp at h;subst h;have:=hF _ hc;omega),hx8.trans hx10,by rw [hw10];exact qc hd8⟩,by omega⟩
 ·obtain rfl:i=32:=by omega
  obtain⟨x,j,ee,B,g1,g2,g3,g4,g5,g6,g7,g8,rfl,hR⟩:=id hIW
  have hRl:R.length=B.length-j:=by rw [hR];simp
  refine je (s:=.int .i64) (t:=(j:Int)) rfl g1 rfl ?_
  refine jd ((j+32:Nat):Int) (by omega) (by omega) (by omega) ?_
  refine zbd rfl g1 (by simp) fun w10 hw10=>?_
  have hx10:Ext [b] W.heap w10.heap:=by rw [hw10];exact Ext.set _ (by simp)
  have hI10:znt w10.heap b F (some (R.drop 32)):=⟨x,j+32,0,B,by rw [hw10];exact qc g1,g2,g3,zka g4 hx10 g3 (fun d hd h=>by simp at h;subst h;exact g2 hd),g5,g6,g7,by omega,rfl,by rw [hR,List.drop_drop]⟩
  have hd10:=hx10.get hdW (by simp;omega)
  have e32:zj7 R 32=R.take 32:=by simp [zj7]
  rw [e32] at hd10
  have hl32:(R.take 32).length=32:=by simp;omega
  refine qp rfl hd10 (by simp [hl32]) ?_
  have hb10:=hx10.get (hxW.get hb4 (by simp;omega)) (by simp;omega)
  refine z4l hl32 rfl hb10 (by simp [Bl.nought]) fun w11 hw11=>?_
  have hx11:Ext [H.size] w10.heap w11.heap:=by rw [hw11];exact Ext.set _ (by simp)
  have hb11:w11.heap[H.size]?=some (.cells (byteCells (R.take 32)).toArray zf (0,0)):=by rw [hw11];exact qc hb10
  refine qp rfl hb11 (by simp [hl32]) ?_
  rw [he]
  refine⟨rfl,hI10.ext hx11 (by simp;omega) (fun c hc h=>by simp at h;subst h;have:=hF _ hc;omega),?_⟩
  have h04:Ext [b] H W.heap:=(hx4.mono (by simp)).own hxW (fun c hc hlt=>by simp at hc;omega)
  exact (h04.trans hx10).own hx11 (fun c hc hlt=>by simp at hc;omega)
def zqm (T:List Itm) (i:Nat):List UInt8:=if i=0 then [] else ((T[i-1]?).map (·.name)).getD []
set_option maxHeartbeats 8000000 in
theorem z4y {w:World}{H:Heap}{n:Nod}{xp xi:Option Addr×Nat×Nat}(hw:w.heap=H) (hN:NodW H n xp xi) (hnn:∀ i∈n.items,i.name.length<=9223372036854775807) :
  zy P zll #[.agg (zcx n xp xi).toArray] w fun e w'=>e=.returned (.bool (zau n))/\Ext [] H w'.heap:=by
 obtain⟨g1,g2,g3,g4,g5,g6⟩:=hN
 refine z1l ?_
 unfold zt2
 refine jm hw fun w1 hw1=>?_
 have hx1:Ext [] H w1.heap:=by rw [hw1];exact .push _
 have hb1:w1.heap[H.size]?=some (.cells (zcx n xp xi).toArray zh (0,0)):=by rw [hw1];exact zk
 refine je (s:=.int .i64) (t:=n.kind) rfl hb1 rfl ?_
 have hle:∀ {k:Nat},(((k:Int)==0)=true) ↔ k=0:=by intro k;simp
 refine zbo (fun h1=>?_) (fun h1=>?_)
 ·have hf:∀ {p:Prop},(¬(0 < n.data.length/\n.data.length<=64/\n.size=0/\n.parts.length=0/\n.items.length=0))->(Ending.returned (.bool false)=.returned (.bool (zau n))/\Ext [] H w1.heap):=by
   intro p h
   exact⟨by rw [zau,if_pos h1,decide_eq_false h],hx1⟩
  refine je (s:=.str) (t:=strOf n.data) rfl hb1 rfl ?_
  refine zx (fun h2=>?_) (fun h2=>hf (p:=True) fun h=>h2 (by simp;omega))
  refine je (s:=.str) (t:=strOf n.data) rfl hb1 rfl ?_
  refine zx (fun h3=>?_) (fun h3=>hf (p:=True) fun h=>h3 (by simp;omega))
  refine je (s:=.int .i64) (t:=n.size) rfl hb1 rfl ?_
  refine zbo (fun h4=>?_) (fun h4=>hf (p:=True) fun h=>h4 h.2.2.1)
  refine je (s:=.slc) (t:=xp) rfl hb1 rfl ?_
  refine zbo (fun h5=>?_) (fun h5=>hf (p:=True) fun h=>h5 (by omega))
  refine je (s:=.slc) (t:=xi) rfl hb1 rfl ?_
  refine⟨?_,hx1⟩
  rw [zau,if_pos h1]
  congr 2
  rw [Bool.eq_iff_iff,hle,decide_eq_true_eq,g4]
  simp at h2 h3
  exact⟨fun h=>⟨by omega,by omega,h4,by omega,h⟩,fun h=>h.2.2.2.2⟩
 refine je (s:=.str) (t:=strOf n.data) rfl hb1 rfl ?_
 refine zdv (p:=¬n.data=[]) (by rw [Bool.not_eq_true',<-Bool.not_eq_true,zjg]) (fun h2=>⟨by
  have:zau n=false:=by
   unfold zau;rw [if_neg h1]
   split
   ·exact decide_eq_false fun h=>h2 h.1
   ·split
    ·rw [decide_eq_false fun h=>h2 h.1];rfl
    ·rfl
  rw [this],hx1⟩) (fun h2=>?_)
 have hdat:n.data=[]:=Decidable.byContradiction h2
 refine je (s:=.int .i64) (t:=n.kind) rfl hb1 rfl ?_
 refine zbo (fun h2=>?_) (fun h2=>?_)
 ·have hf:(¬(n.data=[]/\0<=n.size/\n.size<=1024/\(n.parts.length:Int)=zkf n.size/\n.items.length=0))->(Ending.returned (.bool false)=.returned (.bool (zau n))/\Ext [] H w1.heap):=by
   intro h
   exact⟨by rw [zau,if_neg h1,if_pos h2,decide_eq_false h],hx1⟩
  refine Go.Fw.joinP_of (fun _ W=>W=w1/\0<=n.size/\n.size<=1024/\n.items.length=0) ?_ ?_
  ·refine je (s:=.int .i64) (t:=n.size) rfl hb1 rfl ?_
   refine zx (fun h3=>hf fun h=>by omega) (fun h3=>?_)
   refine je (s:=.int .i64) (t:=n.size) rfl hb1 rfl ?_
   refine zx (fun h4=>hf fun h=>by omega) (fun h4=>?_)
   refine je (s:=.slc) (t:=xi) rfl hb1 rfl ?_
   refine zan (fun h5=>hf fun h=>h5 (by omega)) (fun h5=>⟨rfl,by omega,by omega,by omega⟩)
  rintro _ W ⟨hW,k1,k2,k3⟩
  subst hW
  refine je (s:=.int .i64) (t:=n.size) rfl hb1 rfl ?_
  refine jg (fun (s:Int×Int) W'=>∃ k:Nat,s=((k:Int),n.size-64 * k)/\(k:Int)<=zkf n.size/\W'=W) (fun s _=>(s.2+64).toNat) ⟨0,by simp,by unfold zkf;omega,rfl⟩ ?_
  rintro _ W' ⟨k,rfl,hk,hW'⟩
  subst hW'
  unfold zkf at hk
  refine zx (fun hlt=>?_) (fun hge=>?_)
  ·have hlt:n.size-64 * (k:Int) > 0:=hlt
   refine jd ((k+1:Nat):Int) (by simp) (by omega) (by omega) ?_
   refine zb3 (n.size-64 * ((k+1:Nat):Int)) (by simp only;omega) (by omega) (by omega) ?_
   exact⟨⟨k+1,rfl,by unfold zkf;omega,rfl⟩,by simp only;omega⟩
  ·have hge:¬n.size-64 * (k:Int) > 0:=hge
   refine je (s:=.slc) (t:=xp) rfl hb1 rfl ?_
   refine⟨?_,hx1⟩
   rw [zau,if_neg h1,if_pos h2]
   congr 2
   rw [Bool.eq_iff_iff,decide_eq_true_eq,g2]
   unfold zkf
   simp only [beq_iff_eq]
   constructor
   ·intro h;exact⟨hdat,k1,k2,by omega,k3⟩
   ·intro h;have:=h.2.2.2.1;omega
 refine Go.Fw.joinP_of (fun _ W=>W=w1/\n.kind=3/\n.size=0/\n.parts.length=0/\n.items.length<=64) ?_ ?_
 ·refine je (s:=.int .i64) (t:=n.kind) rfl hb1 rfl ?_
  refine zan (fun h3=>⟨by rw [zau,if_neg h1,if_neg h2,if_neg h3],hx1⟩) (fun h3=>?_)
  have hf:¬(n.data=[]/\n.size=0/\n.parts.length=0)->(Ending.returned (.bool false)=.returned (.bool (zau n))/\Ext [] H w1.heap):=by
   intro h
   exact⟨by rw [zau,if_neg h1,if_neg h2,if_pos h3,decide_eq_false h];rfl,hx1⟩
  refine je (s:=.int .i64) (t:=n.size) rfl hb1 rfl ?_
  refine zan (fun h4=>hf fun h=>h4 h.2.1) (fun h4=>?_)
  refine je (s:=.slc) (t:=xp) rfl hb1 rfl ?_
  refine zan (fun h5=>hf fun h=>h5 (by omega)) (fun h5=>?_)
  refine je (s:=.slc) (t:=xi) rfl hb1 rfl ?_
  refine zx (fun h6=>⟨?_,hx1⟩) (fun h6=>⟨rfl,h3,h4,by omega,by omega⟩)
  rw [zau,if_neg h1,if_neg h2,if_pos h3,zhy,decide_eq_false (show ¬n.items.length<=64 by omega)]
  simp
 rintro _ W0 ⟨hW0,h3,k4,k5,k6⟩
 subst hW0
 have hr0:zau n=ze6 [] n.items:=by
  rw [zau,if_neg h1,if_neg h2,if_pos h3,zhy,decide_eq_true (show n.data=[]/\n.size=0/\n.parts.length=0 from ⟨hdat,k4,k5⟩),decide_eq_true k6]
  simp
 rw [hr0]
 refine jg (fun (s:Int) W=>∃ i:Nat,s=(i:Int)/\i<=n.items.length/\ze6 [] n.items=ze6 (zqm n.items i) (n.items.drop i)/\Ext [] W0.heap W.heap) (fun s _=>(n.items.length-s).toNat)
  ⟨0,rfl,Nat.zero_le _,by simp [zqm],.refl _ _⟩ ?_
 rintro _ W ⟨i,rfl,hi,hr,hxW⟩
 have hbW:=hxW.get hb1 (by simp)
 have hx0W:=hx1.trans hxW
 refine je (s:=.slc) (t:=xi) rfl hbW rfl ?_
 refine zx (fun hlt=>?_) (fun hge=>?_)
 ·have hil:i < n.items.length:=by omega
  have hget:=List.getElem?_eq_getElem hil
  have hmem:n.items[i]∈n.items:=List.getElem_mem hil
  rw [List.drop_eq_getElem_cons hil] at hr
  have hpn:zqm n.items (i+1)=(n.items[i]).name:=by simp [zqm,hget]
  generalize n.items[i]=v at hget hmem hr hpn
  have hvn:=hnn v hmem
  have hfalse:∀ {W':World},Ext [] H W'.heap->ze6 (zqm n.items i) (v :: n.items.drop (i+1))=false->(Ending.returned (.bool false)=.returned (.bool (ze6 [] n.items))/\Ext [] H W'.heap):=by
   intro W' hx h
   exact⟨by rw [hr,h],hx⟩
  refine Go.Fw.joinP_of (fun _ W'=>Ext [] W0.heap W'.heap/\ze6 (zqm n.items i) (v :: n.items.drop (i+1))=ze6 v.name (n.items.drop (i+1))) ?_ ?_
  rotate_left
  ·rintro _ W' ⟨hx',he⟩
   refine jd ((i+1:Nat):Int) (by simp) (by omega) (by omega) ?_
   exact⟨⟨i+1,rfl,by omega,by rw [hpn,hr,he],hx'⟩,by omega⟩
  refine Go.Fw.joinP_of (fun _ W'=>Ext [] W0.heap W'.heap/\ze6 (zqm n.items i) (v :: n.items.drop (i+1))=ze6 v.name (n.items.drop (i+1))) ?_ (fun _ W' h=>h)
  refine je (s:=.slc) (t:=xi) rfl hbW rfl ?_
  refine zci (i:=i) zac (by omega) rfl (g3.ext hx0W (by simp)) g4 hget rfl ?_
  refine qdt v rfl fun w7 hw7=>?_
  have hx7:Ext [] W.heap w7.heap:=by rw [hw7];exact .push _
  have hb7:w7.heap[W.heap.size]?=some (.cells (zb0 v).toArray zu (0,0)):=by rw [hw7];exact zk
  refine jv rfl fun w8 hw8=>?_
  rw [<-hw8] at hx7 hb7
  have hx08:=hx0W.trans hx7
  have hbW8:=hx7.get hbW (by simp)
  refine je (s:=.str) (t:=strOf v.name) rfl hb7 rfl ?_
  refine zl (qfs v.name hvn) ?_
  rintro e w9 ⟨rfl,rfl⟩
  refine⟨zc0 v.name,rfl,?_⟩
  refine zdv (p:=¬zc0 v.name=true) (by simp) (fun h=>hfalse hx08 (by simp [ze6,h])) (fun h=>?_)
  have hok:zc0 v.name=true:=by simpa using h
  have hend:(v.kind=2\/v.kind=3)->xu (decide ((i:Int) > 0)) (
    zk3 .i64 (i:Int) 1 fun t123=>
    ld .slc (⟨H.size,4,none⟩:Addr) w9 fun (t121:(Option Addr×Nat×Nat))=>
    ixS t121.1 t121.2.1 34 t123 fun t124=>
    ld .str t124 w9 fun (t126:ByteArray)=>
    ld .str (⟨W.heap.size,0,none⟩:Addr) w9 fun (t128:ByteArray)=>
    xu (!(Op.bytesLess t126.toList t128.toList)) (
    Ending.returned (.bool false)=.returned (.bool (ze6 [] n.items))/\Ext [] H w9.heap) (
    Ext [] W0.heap w9.heap/\ze6 (zqm n.items i) (v :: n.items.drop (i+1))=ze6 v.name (n.items.drop (i+1)))) (
    Ext [] W0.heap w9.heap/\ze6 (zqm n.items i) (v :: n.items.drop (i+1))=ze6 v.name (n.items.drop (i+1))):=by
   intro hk
   have good:Lib.compareBytes (zqm n.items i) v.name < 0->Ext [] W0.heap w9.heap/\ze6 (zqm n.items i) (v :: n.items.drop (i+1))=ze6 v.name (n.items.drop (i+1)):=by
    intro hlt
    refine⟨hxW.trans hx7,?_⟩
    rcases hk with hk | hk <;> simp [ze6,hlt,hok,hk]
   refine zx (fun hpos=>?_) (fun hz=>?_)
   ·have hpos:0 < i:=by omega
    have hget2:=List.getElem?_eq_getElem (show i-1 < n.items.length by omega)
    have hpv:zqm n.items i=(n.items[i-1]).name:=by simp [zqm,hget2,show i≠0 by omega]
    generalize n.items[i-1]=u at hget2 hpv
    refine zb3 ((i-1:Nat):Int) (by omega) (by omega) (by omega) ?_
    refine je (s:=.slc) (t:=xi) rfl hbW8 rfl ?_
    refine Bl.zd6 (i:=i-1) zac (by omega) (g3.ext hx08 (by simp)) g4 hget2 rfl fun b2 o2 c2 T2 fr2 _ hb2 hs2 hc2 _=>?_
    refine je (s:=.str) (t:=strOf u.name) rfl hb2 (hc2 0 (by omega)) ?_
    refine je (s:=.str) (t:=strOf v.name) rfl hb7 rfl ?_
    refine zdv (p:=¬Lib.compareBytes u.name v.name < 0) (by rw [bytesLess_eq,zeb,zeb,zdg];simp) (fun h=>hfalse hx08 (by rw [hpv];simp [ze6,h])) (fun h=>good (by rw [hpv];exact Decidable.byContradiction h))
   ·obtain rfl:i=0:=by omega
    refine good ?_
    have:=(zd4.1 hok).1.1
    cases hl:v.name with
    | nil=>exact absurd hl this
    | cons a b=>simp [zqm,Lib.compareBytes]
  refine je (s:=.int .i64) (t:=v.kind) rfl hb7 rfl ?_
  refine zan (fun hk2=>?_) (fun hk2=>hend (.inl hk2))
  refine je (s:=.int .i64) (t:=v.kind) rfl hb7 rfl ?_
  refine zan (fun hk3=>hfalse hx08 (by simp [ze6,hk2,hk3])) (fun hk3=>hend (.inr hk3))
 ·obtain rfl:i=n.items.length:=by omega
  rw [List.drop_length] at hr
  exact⟨by rw [hr];rfl,hx0W⟩
theorem qko (x:Option Addr×Nat×Nat) (w:World):(Instr.build znb #[(0,.slice x.1 x.2.1 x.2.2)]).run P w=.ok (.agg #[zb2 x,.int .i64 0,.int .i64 0]) w:=by kernel_rfl
theorem zve:∀ {l:List Itm}{last:List UInt8},ze6 last l=true->∀ i∈l,i.kind=2\/i.kind=3
 | [],_,_=>by simp
 | i :: r,last,h=>by
  simp only [ze6,Bool.and_eq_true,Bool.or_eq_true,decide_eq_true_eq] at h
  intro j hj
  rcases List.mem_cons.1 hj with rfl | hj
  ·exact h.1.2
  ·exact zve h.2 j hj
theorem zw5 {s:Rest}{i:Nat}:∀ {M:Nat},i < M->(zs8 (zbu i s).2).1∈(zbu M s).1
 | 0,h=>by omega
 | M+1,h=>by
  rw [zbu]
  by_cases e:i=M
  ·subst e;simp
  ·exact List.mem_append.2 (.inl (zw5 (by omega)))
theorem qkp {s:Rest}(h1:min (nmS s).1 9=2) (h:1024 < (nmS (nmS s).2).1):zau (zaq s).1=false:=by
 unfold zaq
 rw [if_neg (by omega),if_pos h1]
 unfold zau
 rw [if_neg (show ¬((2:Int)=1) by decide),if_pos rfl]
 refine decide_eq_false fun h2=>?_
 have:=h2.2.2.1
 simp only at this
 omega
theorem qh9 {s:Rest}(h1:min (nmS s).1 9=3) (h:64 < (nmS (nmS s).2).1):zau (zaq s).1=false:=by
 unfold zaq
 rw [if_neg (by omega),if_neg (by omega),if_pos h1]
 unfold zau
 rw [if_neg (show ¬((3:Int)=1) by decide),if_neg (show ¬((3:Int)=2) by decide),if_pos rfl,zhy,decide_eq_false (show ¬(zbu (min (nmS (nmS s).2).1 65) (nmS (nmS s).2).2).1.length<=64 by rw [zj5];omega)]
 simp
theorem qii {s:Rest}(h1:min (nmS s).1 9=3){i:Nat}(hi:i < min (nmS (nmS s).2).1 65) (hk:3 < (zs8 (zbu i (nmS (nmS s).2).2).2).1.kind):zau (zaq s).1=false:=by
 rw [<-Bool.not_eq_true]
 intro h
 unfold zaq at h
 rw [if_neg (by omega),if_neg (by omega),if_pos h1] at h
 unfold zau at h
 rw [if_neg (show ¬((3:Int)=1) by decide),if_neg (show ¬((3:Int)=2) by decide),if_pos rfl] at h
 simp only [zhy,Bool.and_eq_true] at h
 have:=zve h.2.1 _ (zw5 hi)
 omega
theorem other {s:Rest}(h1:min (nmS s).1 9≠1) (h2:min (nmS s).1 9≠2) (h3:min (nmS s).1 9≠3):zau (zaq s).1=false:=by
 unfold zaq
 rw [if_neg h1,if_neg h2,if_neg h3]
 unfold zau
 simp only
 rw [if_neg (by omega),if_neg (by omega),if_neg (by omega)]
set_option maxHeartbeats 8000000 in
theorem z9y {w:World}{H:Heap}{a:Option Addr}{n nc:Nat}{L:List UInt8}(hw:w.heap=H) (hL:Cells H a (byteCells L)) (hn:n=L.length) (hcap:n<=nc) (hl:L.length<=1099511627776) :
  zy P zm3 #[.slice a n nc] w fun e w'=>∃ xp xi,e=.returned (.tuple #[.agg (zcx (zhg L).1 xp xi).toArray,.bool (decide ((zhg L).2=0))])/\NodM w'.heap H.size (zhg L).1 xp xi/\Ext [] H w'.heap:=by
 refine zys ?_
 unfold zso
 refine jm hw fun w1 hw1=>?_
 have hx1:Ext [] H w1.heap:=by rw [hw1];exact .push _
 have hd1:w1.heap[H.size]?=some (.cells (zc P zh) zh (0,0)):=by rw [hw1];exact zk
 have s1:=lt_of_get hd1
 refine qm (s:=.any) _ (qko (a,n,nc) _) ?_
 refine jm rfl fun w2 hw2=>?_
 have hx2:Ext [] w1.heap w2.heap:=by rw [hw2];exact .push _
 have hr2:w2.heap[w1.heap.size]?=some (.cells #[zb2 (a,n,nc),.int .i64 0,.int .i64 0] znb (0,0)):=by rw [hw2];exact zk
 have s2:=lt_of_get hr2
 refine qm (s:=.any) _ (bN0 _) ?_
 refine qa8 zd2 (none,0,0) (none,0,0) rfl fun w4 hw4=>?_
 have hx4:Ext [] w2.heap w4.heap:=by rw [hw4];exact .push _
 have hn4:w4.heap[w2.heap.size]?=some (.cells (zcx zd2 (none,0,0) (none,0,0)).toArray zh (0,0)):=by rw [hw4];exact zk
 have s4:=lt_of_get hn4
 have hx04:=(hx1.trans hx2).trans hx4
 have hd4:=(hx2.trans hx4).get hd1 (by simp)
 obtain⟨F,hI4,hF⟩:∃ F,znt w4.heap w1.heap.size F (some L)/\∀ c∈F,c < H.size:=by
  have hr4:=hx4.get hr2 (by simp)
  rcases id hL with h | ⟨b0,o,c,T,fr,ha,hb,_⟩
  ·have h0:L=[]:=by cases L with | nil=>rfl | cons _ _=>simp [byteCells] at h
   subst h0
   exact⟨[],⟨(a,n,nc),0,0,[],hr4,by simp,fun h=>absurd rfl h,.inl rfl,hn,hcap,by simp,by simp,rfl,rfl⟩,by simp⟩
  ·have hlt:=lt_of_get hb
   exact⟨[b0],⟨(a,n,nc),0,0,L,hr4,by simp;omega,fun _ c hc=>by simp [jk,ha] at hc;simp [hc],hL.ext hx04 (by simp),hn,hcap,hl,by simp,rfl,rfl⟩,by simp;exact hlt⟩
 generalize hbe:w1.heap.size=b at *
 generalize hce:w2.heap.size=c5 at *
 have bn:c5≠b:=by omega
 have fn:∀ c∈F,c5≠c:=fun c hc=>by have:=hF c hc;omega
 have hdec:zhg L=if (zaq (some L)).2=some []/\zau (zaq (some L)).1=true then ((zaq (some L)).1,0) else (zd2,21):=rfl
 have bad:∀ {W:World},¬((zaq (some L)).2=some []/\zau (zaq (some L)).1=true)->Ext [] H W.heap->W.heap[H.size]?=some (.cells (zc P zh) zh (0,0)) ->
   zba P (Instr.build zh #[]) .any W fun (t:Value)=>zb8 P (storeVar zh (⟨H.size,0,none⟩:Addr) t) W fun w2=>ldA P 5 (⟨H.size,0,none⟩:Addr) w2 fun t4=>
    ∃ xp xi,Ending.returned (.tuple #[.agg t4,.bool false])=.returned (.tuple #[.agg (zcx (zhg L).1 xp xi).toArray,.bool (decide ((zhg L).2=0))])/\NodM w2.heap H.size (zhg L).1 xp xi/\Ext [] H w2.heap:=by
  intro W h hx hd
  refine zng (R:=fun t4 w2=>∃ xp xi,Ending.returned (.tuple #[.agg t4,.bool false])=.returned (.tuple #[.agg (zcx (zhg L).1 xp xi).toArray,.bool (decide ((zhg L).2=0))])/\NodM w2.heap H.size (zhg L).1 xp xi/\Ext [] H w2.heap) rfl hd fun w' hx'=>?_
  rw [hdec,if_neg h]
  exact⟨_,_,rfl,.bare rfl rfl,hx.own hx' (fun c hc hlt=>by simp at hc;omega)⟩
 refine zl (zzm rfl hI4) ?_
 rintro e w5 ⟨rfl,hI5,hx5⟩
 refine⟨((nmS (some L)).1:Int),rfl,?_⟩
 have s5:=hx5.1
 have hn5:=hx5.get hn4 (by simp;exact bn)
 have hd5:=hx5.get hd4 (by simp;omega)
 have hx05:Ext [] H w5.heap:=hx04.own hx5 (fun c hc hlt=>by simp at hc;omega)
 have nil2:∀ {W:World},Mine W.heap w4.heap.size zf 32 (none,0,0) (([]:List (List UInt8)).flatMap Bl.zat)/\Mine W.heap w4.heap.size zu 34 (none,0,0) (([]:List Itm).flatMap zb0):=⟨.inl ⟨rfl,rfl⟩,.inl ⟨rfl,rfl⟩⟩
 refine Go.Fw.joinP_of (fun _ W=>∃ n' s' xp xi,W.heap[c5]?=some (.cells (zcx n' xp xi).toArray zh (0,0))/\(Mine W.heap w4.heap.size zf 32 xp (n'.parts.flatMap Bl.zat)/\Mine W.heap w4.heap.size zu 34 xi (n'.items.flatMap zb0))/\znt W.heap b F s'/\Ext [] H W.heap/\W.heap[H.size]?=some (.cells (zc P zh) zh (0,0)) /\
  ((n'=(zaq (some L)).1/\s'=(zaq (some L)).2)\/(n'=zd2/\zau (zaq (some L)).1=false))) ?_ ?_
 rotate_left
 ·rintro _ W ⟨n',s',xp,xi,h1,h2,h3,h4,hd,hval⟩
  have hNM:NodM W.heap w4.heap.size n' xp xi:=by
   rcases hval with⟨rfl,_⟩ | ⟨rfl,_⟩
   ·exact⟨h2.1,h2.2,zp7.1,zp7.2⟩
   ·exact⟨h2.1,h2.2,by simp [zd2],by simp [zd2]⟩
  have hnm:∀ i∈n'.items,i.name.length<=16:=by
   rcases hval with⟨rfl,_⟩ | ⟨rfl,_⟩
   ·exact zl9.2.1
   ·simp [zd2]
  have no0:zau zd2=false:=by decide
  have hno:¬(s'=some []/\zau n'=true)->¬((zaq (some L)).2=some []/\zau (zaq (some L)).1=true):=by
   rcases hval with⟨rfl,rfl⟩ | ⟨rfl,h⟩
   ·exact id
   ·intro _ h';rw [h] at h';cases h'.2
  refine Go.Fw.joinP_of (fun _ W'=>Ext [] W.heap W'.heap/\s'=some []/\zau n'=true) ?_ ?_
  ·obtain⟨ec,hld,hec⟩:=h3.err
   refine hld rfl ?_
   cases s' with
   | none=>exact zan (fun _=>bad (hno (by simp)) h4 hd) (fun h=>by have:=hec.1 h;simp at this)
   | some R=>
    refine jr (by rw [hec.2 rfl];rfl) ?_
    refine zl (z9n rfl h3) ?_
    rintro e w6 ⟨rfl,hw6⟩
    refine⟨(R.length:Int),rfl,?_⟩
    have h46:Ext [] H w6.heap:=by rw [hw6];exact h4
    have hx6:Ext [] W.heap w6.heap:=by rw [hw6];exact .refl _ _
    have hd6:=hx6.get hd (by simp)
    refine zan (fun h=>bad (hno fun h'=>by have:=h'.1;simp at this;subst this;simp at h) h46 hd6) (fun h=>?_)
    have hR0:R=[]:=List.eq_nil_of_length_eq_zero (by omega)
    refine qp rfl (hx6.get h1 (by simp)) rfl ?_
    refine zl (z4y rfl (hNM.nodW.ext hx6) (fun i hi=>by have:=hnm i hi;omega)) ?_
    rintro e w8 ⟨rfl,hx8⟩
    refine⟨zau n',rfl,?_⟩
    cases hr:zau n' with
    | true=>exact jr rfl ⟨hx6.trans hx8,by rw [hR0],rfl⟩
    | false=>exact zai rfl (bad (hno fun h'=>by rw [hr] at h';cases h'.2) (h46.trans hx8) (hx8.get hd6 (by simp)))
  ·rintro _ W' ⟨hx,hs',hok⟩
   have hn':n'=(zaq (some L)).1/\s'=(zaq (some L)).2:=by
    rcases hval with h | ⟨rfl,_⟩
    ·exact h
    ·rw [no0] at hok;cases hok
   obtain⟨rfl,rfl⟩:=hn'
   refine qp rfl (hx.get h1 (by simp)) rfl ?_
   refine stN _ xp xi rfl (hx.get hd (by simp)) zcN fun w11 hw11=>?_
   have hx11:Ext [H.size] W'.heap w11.heap:=by rw [hw11];exact Ext.set _ (by simp)
   have hd11:w11.heap[H.size]?=some (.cells (zcx (zaq (some L)).1 xp xi).toArray zh (0,0)):=by rw [hw11];exact qc (hx.get hd (by simp))
   refine qp rfl hd11 rfl ?_
   rw [hdec,if_pos ⟨hs',hok⟩]
   exact⟨xp,xi,rfl,(((hNM.ext hx (by simp)).ext hx11 (fun c hc=>by simp at hc;omega)).mono (by omega)),(h4.trans hx).own hx11 (fun c hc hlt=>by simp at hc;omega)⟩
 refine Go.Fw.joinP_of (fun _ W=>∃ n' s' xp xi,W.heap[c5]?=some (.cells (zcx n' xp xi).toArray zh (0,0))/\(Mine W.heap w4.heap.size zf 32 xp (n'.parts.flatMap Bl.zat)/\Mine W.heap w4.heap.size zu 34 xi (n'.items.flatMap zb0))/\znt W.heap b F s'/\Ext [] H W.heap/\W.heap[H.size]?=some (.cells (zc P zh) zh (0,0)) /\
  ((n'=(zaq (some L)).1/\s'=(zaq (some L)).2)\/(n'=zd2/\zau (zaq (some L)).1=false))) ?_ (fun _ _ h=>h)
 refine zbo (fun h1=>?_) (fun h1=>?_)
 ·have h1:min (nmS (some L)).1 9=1:=by omega
  have hr:zaq (some L)=(⟨1,(txS 64 (nmS (some L)).2).1,0,[],[]⟩,(txS 64 (nmS (some L)).2).2):=by unfold zaq;rw [if_pos h1]
  refine zbd rfl hn5 (by simp [zcx]) fun w6 hw6=>?_
  have hx6:Ext [c5] w5.heap w6.heap:=by rw [hw6];exact Ext.set _ (by simp)
  have hn6:w6.heap[c5]?=some (.cells (zcx ⟨1,[],0,[],[]⟩ (none,0,0) (none,0,0)).toArray zh (0,0)):=by rw [hw6];exact qc hn5
  have hI6:=hI5.ext hx6 (by simp;exact bn.symm) (fun c hc h=>by simp at h;exact fn c hc h.symm)
  refine zl (z9f (most:=64) rfl hI6 (by omega)) ?_
  rintro e w7 ⟨rfl,hI7,hx7⟩
  refine⟨strOf (txS 64 (nmS (some L)).2).1,rfl,?_⟩
  have hn7:=hx7.get hn6 (by simp;exact bn)
  refine zbd rfl hn7 (by simp [zcx]) fun w8 hw8=>?_
  have hx8:Ext [c5] w7.heap w8.heap:=by rw [hw8];exact Ext.set _ (by simp)
  rw [hr]
  refine⟨_,_,(none,0,0),(none,0,0),by rw [hw8];exact qc hn7,nil2,hI7.ext hx8 (by simp;exact bn.symm) (fun c hc h=>by simp at h;exact fn c hc h.symm),?_,?_,.inl ⟨rfl,rfl⟩⟩
  ·exact ((hx05.own hx6 (fun c hc hlt=>by simp at hc;omega)).own hx7 (fun c hc hlt=>by simp at hc;omega)).own hx8 (fun c hc hlt=>by simp at hc;omega)
  ·exact hx8.get (hx7.get (hx6.get hd5 (by simp;omega)) (by simp;omega)) (by simp;omega)
 refine zbo (fun h2=>?_) (fun h2=>?_)
 ·have h1:min (nmS (some L)).1 9≠1:=by omega
  have h2:min (nmS (some L)).1 9=2:=by omega
  have hbig:=qkp (s:=some L) h2
  have hr0:zaq (some L)=(⟨2,[],((min (nmS (nmS (some L)).2).1 1025:Nat):Int),(zdw ((min (nmS (nmS (some L)).2).1 1025+63) / 64) (nmS (nmS (some L)).2).2).1,[]⟩,(zdw ((min (nmS (nmS (some L)).2).1 1025+63) / 64) (nmS (nmS (some L)).2).2).2):=by unfold zaq;rw [if_neg h1,if_pos h2]
  refine zbd rfl hn5 (by simp [zcx]) fun w6 hw6=>?_
  have hx6:Ext [c5] w5.heap w6.heap:=by rw [hw6];exact Ext.set _ (by simp)
  have hn6:w6.heap[c5]?=some (.cells (zcx ⟨2,[],0,[],[]⟩ (none,0,0) (none,0,0)).toArray zh (0,0)):=by rw [hw6];exact qc hn5
  have hI6:=hI5.ext hx6 (by simp;exact bn.symm) (fun c hc h=>by simp at h;exact fn c hc h.symm)
  refine zl (zzm rfl hI6) ?_
  rintro e w7 ⟨rfl,hI7,hx7⟩
  refine⟨((nmS (nmS (some L)).2).1:Int),rfl,?_⟩
  generalize nmS (nmS (some L)).2=a2 at *
  have hn7:=hx7.get hn6 (by simp;exact bn)
  have hx07:=(hx05.own hx6 (fun c hc hlt=>by simp at hc;omega)).own hx7 (fun c hc hlt=>by simp at hc;omega)
  have hd7:=hx7.get (hx6.get hd5 (by simp;omega)) (by simp;omega)
  refine zx (fun hlt=>bad (fun h=>by rw [hbig (by omega)] at h;cases h.2) hx07 hd7) (fun hge=>?_)
  refine zhb (by omega) (by omega) ?_
  have hmin:min a2.1 1025=a2.1:=by omega
  rw [hmin] at hr0
  generalize hK:a2.1=K at *
  refine zbd rfl hn7 (by simp [zcx]) fun w8 hw8=>?_
  have hx8:Ext [c5] w7.heap w8.heap:=by rw [hw8];exact Ext.set _ (by simp)
  have hn8:w8.heap[c5]?=some (.cells (zcx ⟨2,[],(K:Int),[],[]⟩ (none,0,0) (none,0,0)).toArray zh (0,0)):=by rw [hw8];exact qc hn7
  have hI8:=hI7.ext hx8 (by simp;exact bn.symm) (fun c hc h=>by simp at h;exact fn c hc h.symm)
  have hx08:=hx07.own hx8 (fun c hc hlt=>by simp at hc;omega)
  have hd8:=hx8.get hd7 (by simp;omega)
  have s48:w4.heap.size<=w8.heap.size:=Nat.le_trans hx5.1 (Nat.le_trans hx6.1 (Nat.le_trans hx7.1 hx8.1))
  refine je (s:=.int .i64) (t:=(K:Int)) rfl hn8 rfl ?_
  refine jg (fun (t:Int) W=>∃ (i:Nat) (xp:Option Addr×Nat×Nat),t=(K:Int)-64 * (i:Int)/\i<=(K+63) / 64/\W.heap[c5]?=some (.cells (zcx ⟨2,[],(K:Int),(zdw i a2.2).1,[]⟩ xp (none,0,0)).toArray zh (0,0))/\Mine W.heap w4.heap.size zf 32 xp ((zdw i a2.2).1.flatMap Bl.zat) /\
   znt W.heap b F (zdw i a2.2).2/\Ext [] H W.heap/\W.heap[H.size]?=some (.cells (zc P zh) zh (0,0))/\w4.heap.size<=W.heap.size) (fun t _=>(t+64).toNat) ⟨0,(none,0,0),by simp,Nat.zero_le _,hn8,.inl ⟨rfl,rfl⟩,hI8,hx08,hd8,s48⟩ ?_
  rintro _ W ⟨i,xp,rfl,hi,g1,g2,g3,g4,g5,g6⟩
  refine zx (fun hlt=>?_) (fun hge=>?_)
  ·refine jv rfl fun w8 hw8=>?_
   rw [<-hw8] at g1 g2 g3 g4 g5 g6
   refine je (s:=.slc) (t:=xp) rfl g1 rfl ?_
   refine zl (z9l rfl g3 (fun c hc=>by have:=hF c hc;have:=g4.1;omega)) ?_
   rintro e w9 ⟨rfl,hI9,hx9⟩
   refine⟨arr (dgS (zdw i a2.2).2).1,rfl,?_⟩
   have k1:=hx9.get g1 (by simp;exact bn)
   have k2:=g2.ext hx9 (fun c hc h=>by simp at h;subst h;have:=qx g2 _ hc;omega)
   have s9:=hx9.1
   refine⟨je (s:=.slc) (o:=3) (t:=xp) (K:=fun z=>Value.slice z.1 z.2.1 z.2.2=Value.slice xp.1 xp.2.1 xp.2.2) rfl k1 rfl rfl,?_⟩
   refine zua rfl k2 (by omega) zma (by rw [zlh];omega) (fun w10 hx10=>je (s:=.slc) (o:=3) (t:=xp) (K:=fun z=>Value.slice z.1 z.2.1 z.2.2=Value.slice xp.1 xp.2.1 xp.2.2) rfl (hx10.get k1 (by simp)) rfl rfl) fun xp2 w11 hm11 hx11 hs11=>?_
   have own3:∀ {c:Nat},c < w4.heap.size->c∉jk xp:=fun h hc=>by have:=qx g2 _ hc;omega
   have k11:=hx11.get k1 (own3 s4)
   refine zbd rfl k11 (by simp [zcx]) fun w12 hw12=>?_
   have hx12:Ext [c5] w11.heap w12.heap:=by rw [hw12];exact Ext.set _ (by simp)
   have s11:=hx11.1
   have s12:=hx12.1
   refine zb3 ((K:Int)-64 * ((i+1:Nat):Int)) (by omega) (by omega) (by omega) ?_
   refine⟨⟨i+1,xp2,rfl,by omega,by rw [hw12];exact qc k11,hm11.ext hx12 (fun c hc h=>by simp at h;subst h;have:=qx hm11 _ hc;omega),?_,?_,?_,by omega⟩,by omega⟩
   ·refine (hI9.ext hx11 (own3 (by omega)) fun c hc=>own3 (by have:=hF c hc;omega)).ext hx12 (by simp;exact bn.symm) (fun c hc h=>by simp at h;exact fn c hc h.symm)
   ·exact ((g4.own hx9 (fun c hc hlt=>by simp at hc;omega)).own hx11 (fun c hc hlt=>by have:=qx g2 _ hc;omega)).own hx12 (fun c hc hlt=>by simp at hc;omega)
   ·exact hx12.get (hx11.get (hx9.get g5 (by simp;omega)) (own3 (by omega))) (by simp;omega)
  ·obtain rfl:i=(K+63) / 64:=by omega
   rw [hr0]
   exact⟨_,_,xp,(none,0,0),g1,⟨g2,.inl ⟨rfl,rfl⟩⟩,g3,g4,g5,.inl ⟨rfl,rfl⟩⟩
 refine zbo (fun h3=>?_) (fun h3=>?_)
 ·have h1:min (nmS (some L)).1 9≠1:=by omega
  have h2:min (nmS (some L)).1 9≠2:=by omega
  have h3:min (nmS (some L)).1 9=3:=by omega
  have hbig:=qh9 (s:=some L) h3
  have hkd:=@qii (some L) h3
  have hr0:zaq (some L)=(⟨3,[],0,[],(zbu (min (nmS (nmS (some L)).2).1 65) (nmS (nmS (some L)).2).2).1⟩,(zbu (min (nmS (nmS (some L)).2).1 65) (nmS (nmS (some L)).2).2).2):=by unfold zaq;rw [if_neg h1,if_neg h2,if_pos h3]
  refine zbd rfl hn5 (by simp [zcx]) fun w6 hw6=>?_
  have hx6:Ext [c5] w5.heap w6.heap:=by rw [hw6];exact Ext.set _ (by simp)
  have hn6:w6.heap[c5]?=some (.cells (zcx ⟨3,[],0,[],[]⟩ (none,0,0) (none,0,0)).toArray zh (0,0)):=by rw [hw6];exact qc hn5
  have hI6:=hI5.ext hx6 (by simp;exact bn.symm) (fun c hc h=>by simp at h;exact fn c hc h.symm)
  refine zl (zzm rfl hI6) ?_
  rintro e w7 ⟨rfl,hI7,hx7⟩
  refine⟨((nmS (nmS (some L)).2).1:Int),rfl,?_⟩
  generalize nmS (nmS (some L)).2=a2 at *
  have hn7:=hx7.get hn6 (by simp;exact bn)
  have hx07:=(hx05.own hx6 (fun c hc hlt=>by simp at hc;omega)).own hx7 (fun c hc hlt=>by simp at hc;omega)
  have hd7:=hx7.get (hx6.get hd5 (by simp;omega)) (by simp;omega)
  refine zx (fun hlt=>bad (fun h=>by rw [hbig (by omega)] at h;cases h.2) hx07 hd7) (fun hge=>?_)
  have hmin:min a2.1 65=a2.1:=by omega
  rw [hmin] at hr0
  have hkd:∀ {i:Nat},i < a2.1->3 < (zs8 (zbu i a2.2).2).1.kind->zau (zaq (some L)).1=false:=fun hi hk=>hkd (by omega) hk
  generalize hM:a2.1=M at *
  have s47:w4.heap.size<=w7.heap.size:=Nat.le_trans hx5.1 (Nat.le_trans hx6.1 hx7.1)
  refine jg (fun (t:Int) W=>∃ (i:Nat) (xi:Option Addr×Nat×Nat),t=(i:Int)/\i<=M/\W.heap[c5]?=some (.cells (zcx ⟨3,[],0,[],(zbu i a2.2).1⟩ (none,0,0) xi).toArray zh (0,0))/\Mine W.heap w4.heap.size zu 34 xi ((zbu i a2.2).1.flatMap zb0) /\
   znt W.heap b F (zbu i a2.2).2/\Ext [] H W.heap/\W.heap[H.size]?=some (.cells (zc P zh) zh (0,0))/\w4.heap.size<=W.heap.size) (fun t _=>(M-t).toNat) ⟨0,(none,0,0),rfl,Nat.zero_le _,hn7,.inl ⟨rfl,rfl⟩,hI7,hx07,hd7,s47⟩ ?_
  rintro _ W ⟨i,xi,rfl,hi,g1,g2,g3,g4,g5,g6⟩
  refine zhb (by omega) (by omega) ?_
  refine zx (fun hlt=>?_) (fun hge=>?_)
  ·have re:∀ {W':World},W'.heap[c5]?=some (.cells (zcx ⟨3,[],0,[],(zbu i a2.2).1⟩ (none,0,0) xi).toArray zh (0,0))->ld .slc (⟨c5,4,none⟩:Addr) W' fun z=>Value.slice z.1 z.2.1 z.2.2=Value.slice xi.1 xi.2.1 xi.2.2:=fun h=>je (s:=.slc) (o:=4) (t:=xi) (K:=fun z=>Value.slice z.1 z.2.1 z.2.2=Value.slice xi.1 xi.2.1 xi.2.2) rfl h rfl rfl
   have hkd:=hkd (i:=i) (by omega)
   refine zl (z9f (most:=16) rfl g3 (by omega)) ?_
   rintro e w9 ⟨rfl,hI9,hx9⟩
   refine⟨strOf (txS 16 (zbu i a2.2).2).1,rfl,?_⟩
   have k9:=hx9.get g1 (by simp;exact bn)
   refine zl (zzm rfl hI9) ?_
   rintro e w10 ⟨rfl,hI10,hx10⟩
   refine⟨((nmS (txS 16 (zbu i a2.2).2).2).1:Int),rfl,?_⟩
   have k10:=hx10.get k9 (by simp;exact bn)
   have s9:=hx9.1
   have s10:=hx10.1
   have s04:=g4.1
   have hx010:=(g4.own hx9 (fun c hc hlt=>by simp at hc;omega)).own hx10 (fun c hc hlt=>by simp at hc;omega)
   have hd10:=hx10.get (hx9.get g5 (by simp;omega)) (by simp;omega)
   have hkeq:(zs8 (zbu i a2.2).2).1.kind=((min (nmS (txS 16 (zbu i a2.2).2).2).1 9:Nat):Int):=rfl
   refine zx (fun hk=>bad (fun h=>by rw [hkd (by rw [hkeq];omega)] at h;cases h.2) hx010 hd10) (fun hk=>?_)
   refine jv rfl fun w26 hw26=>?_
   rw [<-hw26] at hI10 k10 hx010 hd10 hx10 s10
   refine zhb (by omega) (by omega) ?_
   refine je (s:=.slc) (t:=xi) rfl k10 rfl ?_
   refine zl (z9l rfl hI10 (fun c hc=>by have:=hF c hc;omega)) ?_
   rintro e w11 ⟨rfl,hI11,hx11⟩
   refine⟨arr (dgS (nmS (txS 16 (zbu i a2.2).2).2).2).1,rfl,?_⟩
   have k11:=hx11.get k10 (by simp;exact bn)
   refine⟨re k11,?_⟩
   have hmk:min (nmS (txS 16 (zbu i a2.2).2).2).1 9=(nmS (txS 16 (zbu i a2.2).2).2).1:=by omega
   refine qm (s:=.any) (.agg (zb0 (zs8 (zbu i a2.2).2).1).toArray) (by rw [bT3 _ _ zma];unfold zb0 zs8;rw [Bl.za7 zma,hmk];rfl) ?_
   have hx811:=(hx9.trans hx10).trans hx11
   have g2':=g2.ext hx811 (fun c hc h=>by simp at h;subst h;have:=qx g2 _ hc;omega)
   have s11:=hx11.1
   refine zzf (i:=(zs8 (zbu i a2.2).2).1) rfl g2' (by omega) (by rw [zj5];omega) (fun w12 hx12=>re (hx12.get k11 (by simp))) fun xi2 w13 hm13 hx13 hs13=>?_
   have own3:∀ {c:Nat},c < w4.heap.size->c∉jk xi:=fun h hc=>by have:=qx g2 _ hc;omega
   have k13:=hx13.get k11 (own3 s4)
   refine zbd rfl k13 (by simp [zcx]) fun w14 hw14=>?_
   have hx14:Ext [c5] w13.heap w14.heap:=by rw [hw14];exact Ext.set _ (by simp)
   have s13:=hx13.1
   have s14:=hx14.1
   refine jd ((i+1:Nat):Int) (by simp) (by omega) (by omega) ?_
   have hI:znt w11.heap b F (zbu (i+1) a2.2).2:=hI11
   refine⟨⟨i+1,xi2,rfl,by omega,by rw [hw14];exact qc k13,hm13.ext hx14 (fun c hc h=>by simp at h;subst h;have:=qx hm13 _ hc;omega),?_,?_,?_,by omega⟩,by omega⟩
   ·refine (hI.ext hx13 (own3 (by omega)) fun c hc=>own3 (by have:=hF c hc;omega)).ext hx14 (by simp;exact bn.symm) (fun c hc h=>by simp at h;exact fn c hc h.symm)
   ·exact ((hx010.own hx11 (fun c hc hlt=>by simp at hc;omega)).own hx13 (fun c hc hlt=>by have:=qx g2 _ hc;omega)).own hx14 (fun c hc hlt=>by simp at hc;omega)
   ·exact hx14.get (hx13.get (hx11.get hd10 (by simp;omega)) (own3 (by omega))) (by simp;omega)
  ·obtain rfl:i=M:=by omega
   rw [hr0]
   exact⟨_,_,(none,0,0),xi,g1,⟨.inl ⟨rfl,rfl⟩,g2⟩,g3,g4,g5,.inl ⟨rfl,rfl⟩⟩
 ·exact⟨zd2,(nmS (some L)).2,(none,0,0),(none,0,0),hn5,nil2,hI5,hx05,hd5,.inr ⟨rfl,other (by omega) (by omega) (by omega)⟩⟩
end Go.Proofs.YtbmegmbnlajbbaaGreatDoor
namespace Go.Proofs.YtbmegmbnlajbbaaGreatDoor
open Go Go.Fw Go.Proofs Go.Sort
section
variable {g:List UInt8->Int->Nod×Int}{ct:Nod->List UInt8×Int}
end
def z9e (L:List Fil):Prop:=(∀ f∈L,f.data.length<=1025)/\L.length<=512
theorem z9e.snoc {L:List Fil}{f:Fil}(h:z9e L) (hl:L.length≠512) (hf:f.data.length<=1025):z9e (L++[f]):=
 ⟨fun x hx=>by
  rcases List.mem_append.1 hx with hx | hx
  ·exact h.1 x hx
  ·simp at hx;subst hx;exact hf,by have:=h.2;simp;omega⟩
abbrev TQ:=(Option Addr×Nat×Nat)×(Path×Itm)
def qgj (y:TQ):List Value:=zb2 y.1 :: zb0 y.2.2
theorem z4i (y:TQ):(qgj y).length=35:=by simp [qgj,zac]
theorem uSQ:P.underlying zsd=some (.slice zrq):=by kernel_rfl
theorem szQ:(P.info? zrq).map (·.size)=some 35:=by kernel_rfl
def QOk (H:Heap) (y:TQ):Prop:=Mine H 0 jw 1 y.1 (strRow (y.2.1++[y.2.2.name]))/\y.2.2.sum.length=32
def zn6 (H:Heap) (x:Option Addr×Nat×Nat) (ps:List (Path×Itm)):Prop:=
 ∃ ys:List TQ,Cells H x.1 (ys.flatMap qgj)/\x.2.1=ys.length/\x.2.1<=x.2.2/\ys.map (·.2)=ps/\(∀ y∈ys,QOk H y)/\(ys≠[]->∀ c∈jk x,∃ cs fr,H[c]?=some (.cells cs zrq fr))
theorem zn6.len {H:Heap}{x:Option Addr×Nat×Nat}{ps:List (Path×Itm)}(h:zn6 H x ps):x.2.1=ps.length:=by
 obtain⟨ys,_,h2,_,h4,_⟩:=h
 rw [<-h4];simpa using h2
theorem zn6.nil {H:Heap}:zn6 H (none,0,0) []:=⟨[],.inl rfl,rfl,Nat.le_refl _,rfl,by simp,by simp⟩
theorem zn6.ext {H H':Heap}{x o:Option Addr×Nat×Nat}{ps:List (Path×Itm)}{B:Nat}{vs:List Value}(h:zn6 H x ps) (ho:Mine H B za1 3 o vs) (hx:Ext (jk o) H H'):zn6 H' x ps:=by
 obtain⟨ys,h1,h2,h3,h4,h5,h6⟩:=h
 have hno:ys≠[]->∀ c∈jk x,c∉jk o:=by
  intro hys c hc hco
  obtain⟨cs,fr,hg⟩:=h6 hys c hc
  rcases ho with⟨rfl,_⟩ | ⟨b2,c2,hx2,_,hg2,_⟩
  ·simp [jk] at hco
  ·simp [jk,hx2] at hco
   subst hco
   rw [hg] at hg2
   simp only [Option.some.injEq,Obj.cells.injEq] at hg2
   exact absurd hg2.2.1 (by decide)
 refine⟨ys,h1.ext hx (fun a ha hne=>hno (fun h=>hne (by rw [h];rfl)) _ (by simp [jk,ha])),h2,h3,h4,fun y hy=>⟨(h5 y hy).1.ext hx (zhz (h5 y hy).1 ho (by decide)),(h5 y hy).2⟩,fun hys c hc=>?_⟩
 obtain⟨cs,fr,hg⟩:=h6 hys c hc
 exact⟨cs,fr,hx.get hg (hno hys c hc)⟩
theorem qdl (ys:List TQ):(ys.flatMap qgj).length=ys.length * 35:=by rw [zq qgj z4i]
theorem zgu {H:Heap}{B sz:Nat}{T:TypeId}{x:Option Addr×Nat×Nat}{vs:List Value}(h:Mine H B T sz x vs):∀ c∈jk x,∃ cs fr,H[c]?=some (.cells cs T fr):=by
 intro c hc
 rcases h with⟨rfl,_⟩ | ⟨b,cs,hx,_,hg,_⟩
 ·simp [jk] at hc
 ·simp [jk,hx] at hc
  subst hc
  exact⟨cs,_,hg⟩
def iv (n:Int):Value:=.int .i64 n
theorem uMp:P.underlying zbb=some (.map za8 zbl):=by kernel_rfl
theorem qja (w:World):(zeroValue zbl).run P w=.ok (iv 0) w:=by kernel_rfl
def qfa (H:Heap) (cf:List Nat) (c pS:Nat) (st:LSt):Prop:=
 ∃ (m clk:Nat) (l:ML Pr Int) (x:Option Addr×Nat×Nat),H[c]?=some (.cells #[.pointer (some ⟨pS,0,none⟩),.map (some m),zb2 x,.bool st.foul] ztq (0,0))/\H[m]?=some (.map (ents prV (vl iv l)) clk)/\MOk (fun p:Pr=>p.1.length=32) l clk/\(∀ p,zbk l p=if p∈st.seen then some 1 else none) /\
  Mine H 0 za8 33 x (st.want.flatMap zk5)/\c∈cf/\m∈cf/\(∀ b∈jk x,b∈cf)/\∀ p∈st.want,p.1.length=32
theorem qfa.ext {H H':Heap}{cf M:List Nat}{c pS:Nat}{st:LSt}(h:qfa H cf c pS st) (hx:Ext M H H') (hM:∀ b∈cf,b∉M):qfa H' cf c pS st:=by
 obtain⟨m,clk,l,x,h1,h2,h3,h4,h5,h6,h7,h8,h9⟩:=h
 exact⟨m,clk,l,x,hx.get h1 (hM _ h6),hx.get h2 (hM _ h7),h3,h4,h5.ext hx (fun b hb=>hM b (h8 b hb)),h6,h7,h8,h9⟩
theorem zu9 {v:Option (List UInt8)}{k L:List UInt8}{kind:Int}(hv:v=some L) (h:Bl.got v k=0):znq v k kind=if (zhg L).2≠0\/(zhg L).1.kind≠kind then (zd2,21) else ((zhg L).1,0):=by
 unfold znq;rw [if_neg (by simpa using h),hv];rfl
theorem zz6 {v:Option (List UInt8)}{k:List UInt8}{kind:Int}(h:Bl.got v k≠0):znq v k kind=(zd2,Bl.got v k):=by
 unfold znq;rw [if_pos h]
theorem ziz {p:Pr}(h:p.1.length=32):(zef p).toArray.extract 0 (0+32)=(byteCells p.1).toArray:=by
 apply Array.toList_inj.1
 have:(zef p).take 32=byteCells p.1:=List.take_left' (by simp [h])
 simpa using this
theorem z1f {p:Pr}(h:p.1.length=32):(zef p).toArray[32]?=some (.int .i64 p.2):=by simp [zef,<-h]
theorem Run.cons_c {σ:Type}{stp:σ->Pr->σ×List Pr×Int}{n:Nat}{p:Pr}{todo:List Pr}{s t:σ}{c:Int}(h:Run stp n (p :: todo) s t c):(c≠0/\n=1/\t=(stp s p).1/\c=(stp s p).2.2)\/∃ n',n=n'+1/\(stp s p).2.2=0/\Run stp n' ((stp s p).2.1++todo) (stp s p).1 t c:=by
 cases h with
 | stop h=>exact .inl ⟨h,rfl,rfl,rfl⟩
 | step h0 h1=>exact .inr ⟨_,rfl,h0,h1⟩
theorem Run.nil_c {σ:Type}{stp:σ->Pr->σ×List Pr×Int}{n:Nat}{s t:σ}{c:Int}(h:Run stp n [] s t c):n=0/\t=s/\c=0:=by
 cases h;exact⟨rfl,rfl,rfl⟩
theorem z8q {α:Type}{enc:α->List Value}{sz:Nat}{T:TypeId}(hk:∀ x,(enc x).length=sz) (h0:0 < sz){H H':Heap}{B b i o:Nat}{x:Option Addr×Nat×Nat}{L:List α}{v:α}{c:Array Value}{T':TypeId}(hm:Mine H B T sz x (L.flatMap enc)) (hi:i < L.length) (hx:x.1.map (·.block)=some b) (hb:H[b]?=some (.cells c T' (0,0))) (ho:o=i * sz) (hw:H'=H.setIfInBounds b (.cells (setCells c o (enc v)) T' (0,0))) :
  Mine H' B T sz x ((L.set i v).flatMap enc):=by
 rcases hm with⟨rfl,h⟩ | ⟨b1,c1,e1,e2,e3,e4,e5,e6,e7⟩
 ·simp at hx
 rw [e1] at hx
 simp only [Option.map_some,Option.some.injEq] at hx
 subst hx
 rw [hb] at e3
 simp only [Option.some.injEq,Obj.cells.injEq] at e3
 obtain⟨rfl,rfl,_⟩:=e3
 rw [zq enc hk] at e5 e7
 have hll:x.2.1=L.length:=Nat.eq_of_mul_eq_mul_right h0 e5.symm
 have hlc:L.length * sz<=c.size:=by rw [e4];exact Nat.mul_le_mul_right _ (by omega)
 have hoi:i * sz+sz<=L.length * sz:=by rw [<-Nat.succ_mul];exact Nat.mul_le_mul_right _ hi
 subst ho
 refine .inr ⟨b1,_,e1,e2,by rw [hw];exact qc hb,by rw [<-e4,Go.Fw.size_setCells],by rw [zq enc hk];simpa using e5,e6,?_⟩
 rw [zq enc hk,List.length_set]
 have hsz:(setCells c (i * sz) (enc v)).size=c.size:=Go.Fw.size_setCells
 apply List.ext_getElem?
 intro j
 rw [Array.getElem?_toList,Array.getElem?_extract,Nat.zero_add,getElem_flatMap enc hk h0]
 by_cases hj:j < L.length * sz
 ·rw [if_pos (by omega),zdc (by rw [hk];omega),hk]
  have hold:c[j]?=(L[j / sz]?).bind fun v=>(enc v)[j % sz]?:=by
   have:=congrArg (fun l=>l[j]?) e7
   simp only [Array.getElem?_toList,Array.getElem?_extract,Nat.zero_add] at this
   rw [if_pos (by omega),getElem_flatMap enc hk h0] at this
   exact this
  have hdm:=Nat.div_add_mod j sz
  have hmod:=Nat.mod_lt j h0
  by_cases hin:i * sz<=j/\j < i * sz+sz
  ·rw [if_pos hin]
   have hd:j / sz=i:=by
    apply Nat.div_eq_of_lt_le
    ·rw [Nat.mul_comm];rw [Nat.mul_comm];exact hin.1
    ·rw [Nat.succ_mul];exact hin.2
   have hr:j % sz=j-i * sz:=by rw [hd,Nat.mul_comm] at hdm;omega
   rw [hd,List.getElem?_set_self hi]
   simp [hr]
  ·rw [if_neg hin,hold]
   have hd:i≠j / sz:=by
    rintro rfl
    apply hin
    rw [Nat.mul_comm]
    omega
   rw [List.getElem?_set_ne hd]
 ·rw [if_neg (by omega),List.getElem?_eq_none (l:=L.set i v)]
  ·rfl
  ·rw [List.length_set,Nat.le_div_iff_mul_le h0];omega
end Go.Proofs.YtbmegmbnlajbbaaGreatDoor
namespace Go.Proofs.YtbmegmbnlajbbaaGreatDoor
open Go Go.Fw Go.Proofs Go.Sort
structure Wf (s:LSt):Prop where
 nd:s.want.Nodup
 sub:∀ p∈s.want,p∈s.seen
inductive Mets (v:List UInt8->Option (List UInt8)) (n:Nod):List Pr->LSt->LSt->Prop
 | nil {s:LSt}:Mets v n [] s s
 | kid {N:Nat}{p:Pr}{ps:List Pr}{s t u:LSt}:p.2=n.kind->Run (qhu v) N (zo3 n) s t 0->Mets v n ps t u->Mets v n (p :: ps) s u
 | foul {p:Pr}{ps:List Pr}{s u:LSt}:p.2≠n.kind->Mets v n ps ⟨s.seen,s.want,true⟩ u->Mets v n (p :: ps) s u
inductive OfferRes (q:Int) (r:Bl.SM) (st:LSt) (L:List UInt8):Int->Bl.SM->LSt->Prop
 | foreign:(∀ p∈st.want,p.1≠Sha.sum L)->OfferRes q r st L 80 r st
 | form:(∃ p∈st.want,p.1=Sha.sum L)->((zhg L).2≠0\/(Sha.sum L,(zhg L).1.kind)∉st.want)->OfferRes q r st L 21 r st
 | full {pc:Int}{r':Bl.SM}:(∃ p∈st.want,p.1=Sha.sum L)->(zhg L).2=0->(Sha.sum L,(zhg L).1.kind)∈st.want->Bl.zl0 q r [L] pc r'->pc≠0->OfferRes q r st L pc r' st
 | ok {r':Bl.SM}{st':LSt}:(∃ p∈st.want,p.1=Sha.sum L)->(zhg L).2=0->(Sha.sum L,(zhg L).1.kind)∈st.want->Bl.zl0 q r [L] 0 r' ->
   Mets (Bl.vw r') (zhg L).1 (st.want.filter fun p=>decide (p.1=Sha.sum L)) ⟨st.seen,st.want.filter fun p=>decide (p.1≠Sha.sum L),st.foul⟩ st'->OfferRes q r st L 0 r' st'
theorem zt4 {α:Type} [DecidableEq α]:∀ {A B:List α},A.Nodup->(∀ x∈A,x∈B)->A.length<=B.length
 | [],B,_,_=>by simp
 | a :: A,B,hn,hs=>by
  obtain⟨h1,h2⟩:=List.nodup_cons.1 hn
  have ha:=hs a (by simp)
  have h3:=zt4 (A:=A) (B:=B.erase a) h2 fun x hx=>(List.mem_erase_of_ne (by rintro rfl;exact h1 hx)).2 (hs x (by simp [hx]))
  have h4:=List.length_erase_of_mem ha
  have h5:=List.length_pos_of_mem ha
  simp only [List.length_cons];omega
theorem qek {q:Int}{r r':Bl.SM}{c c':Nat}{L:List UInt8}{code:Int}(hr:MOk (fun L:List UInt8=>L.length=32) r c) (hr':MOk (fun L:List UInt8=>L.length=32) r' c') (h:Bl.zl0 q r [L] code r'):r'.length<=r.length+1:=by
 obtain⟨h1,h2,h3⟩:=h
 by_cases hl:Bl.long [L]
 ·rw [(h1 hl).2];omega
 by_cases hq:q < (Bl.total r:Int)+Bl.extra r (Bl.fresh [L])
 ·rw [(h2 hl hq).2];omega
 have hv:=(h3 hl hq).2
 have key:∀ k∈r'.map (·.1),k∈r.map (·.1)++[Sha.sum L]:=by
  intro k hk
  obtain⟨x,hx,rfl⟩:=List.mem_map.1 hk
  have hg:zbk r' x.1=some x.2.1:=zdu hr'.keys (c:=x.2.2) hx
  have hv':Bl.vw r' x.1=some x.2.1.2:=by unfold Bl.vw;rw [hg];rfl
  rw [hv] at hv'
  rw [List.mem_append]
  by_cases he:x.1=Sha.sum L
  ·right;simp [he]
  ·left
   have hf:Bl.znl (Bl.fresh [L]) x.1=none:=by
    rw [Bl.z9m]
    have:(Sha.sum L==x.1)=false:=beq_eq_false_iff_ne.2 fun e=>he e.symm
    simp [Bl.znl,List.find?_cons,this]
   rw [hf] at hv'
   have hv':Bl.vw r x.1=some x.2.1.2:=hv'
   unfold Bl.vw at hv'
   cases hm:zbk r x.1 with
   | none=>rw [hm] at hv';cases hv'
   | some y=>
    obtain⟨c,hc⟩:=zcc hm
    exact List.mem_map.2 ⟨_,hc,rfl⟩
 have:=zt4 hr'.keys key
 simpa using this
def fU:Fil:=⟨[47,102],false,[104,105]⟩
theorem qkw:zdz fU.path=([[102]],0):=by decide +kernel
theorem nmU:nm fU=[[102]]:=by unfold nm;rw [qkw]
def LU:List Fil:=[fU]
theorem qjc:zq8 LU=[fU]:=by decide +kernel
theorem qhc:zcp LU=0:=by decide +kernel
theorem qlb:¬z2h LU:=by
 rintro ⟨i,hi,h⟩
 match i,hi with
 | 0,_=>simp [LU,nmU] at h
theorem qkm:¬qa9 LU:=by
 rintro ⟨f,hf,h1,h2⟩
 simp only [LU,List.mem_cons,List.not_mem_nil,or_false] at hf
 subst hf
 simp [nmU] at h1
theorem qir:¬zyy LU:=by
 rintro ⟨f,hf,g,hg,h1,h2⟩
 simp only [LU,List.mem_cons,List.not_mem_nil,or_false] at hf hg
 subst hf hg
 simp [nmU] at h1
theorem qkn:¬qba LU:=by
 rintro ⟨f,hf,h⟩
 have:(kids LU (nm f).dropLast).length<=1:=List.length_filter_le _ _
 omega
theorem qk2:zir LU=0:=by rw [zz7 qhc,z18 qlb qkm qir qkn]
def nCU:Nod:=zr8 [104,105]
def nFU:Nod:=⟨2,[],2,[Sha.sum (zgk nCU)],[]⟩
def nRU:Nod:=⟨3,[],0,[],[⟨[102],2,Sha.sum (zgk nFU)⟩]⟩
theorem qg5:zhi fU.data=[zgk nCU,zgk nFU]/\zil fU.data=Sha.sum (zgk nFU):=⟨rfl,rfl⟩
theorem qi6:kids [fU] []=[fU]:=by decide +kernel
theorem qhx:zvg LU=([zgk nCU,zgk nFU,zgk nRU],Sha.sum (zgk nRU)):=by
 rw [zkr,qjc]
 rw [show (9:Nat)=8+1 from rfl,zfs,qi6,zm1,zhj]
 simp only [List.map_cons,List.map_nil,zmc,zkp,nmU,show fU.dir=false from rfl,Bool.false_eq_true,if_false,qg5.1,qg5.2,List.flatten_cons,List.flatten_nil,List.append_nil]
 rfl
def bCU:List UInt8:=[1,2,104,105]
def bFU:List UInt8:=[2,2,186,81,103,170,37,105,73,247,1,63,208,174,227,219,246,57,189,176,202,216,218,247,80,137,209,38,248,218,146,140,20,63]
def bRU:List UInt8:=[3,1,1,102,2,88,201,251,13,17,115,155,159,107,201,198,214,238,62,38,149,172,205,218,103,124,157,8,238,7,125,57,221,65,183,132,18]
def dCU:List UInt8:=[186,81,103,170,37,105,73,247,1,63,208,174,227,219,246,57,189,176,202,216,218,247,80,137,209,38,248,218,146,140,20,63]
def dFU:List UInt8:=[88,201,251,13,17,115,155,159,107,201,198,214,238,62,38,149,172,205,218,103,124,157,8,238,7,125,57,221,65,183,132,18]
def dRU:List UInt8:=[20,147,93,158,92,191,194,195,92,236,238,114,183,13,215,171,150,171,144,26,149,70,247,32,216,129,27,76,220,151,79,92]
theorem sCU:Sha.sum bCU=dCU:=by rw [Sha.sum_eq];kernel_rfl
theorem sFU:Sha.sum bFU=dFU:=by rw [Sha.sum_eq];kernel_rfl
theorem sRU:Sha.sum bRU=dRU:=by rw [Sha.sum_eq];kernel_rfl
theorem eCU:zgk nCU=bCU:=by kernel_rfl
theorem eFU:zgk nFU=bFU:=by
 rw [show nFU=⟨2,[],2,[dCU],[]⟩ from by unfold nFU;rw [eCU,sCU]];kernel_rfl
theorem eRU:zgk nRU=bRU:=by
 rw [show nRU=⟨3,[],0,[],[⟨[102],2,dFU⟩]⟩ from by unfold nRU;rw [eFU,sFU]];kernel_rfl
theorem qi8:zvg LU=([bCU,bFU,bRU],dRU):=by rw [qhx,eCU,eFU,eRU,sRU]
theorem vCU:zhg bCU=(⟨1,[104,105],0,[],[]⟩,0):=by kernel_rfl
theorem vFU:zhg bFU=(⟨2,[],2,[dCU],[]⟩,0):=by kernel_rfl
theorem vRU:zhg bRU=(⟨3,[],0,[],[⟨[102],2,dFU⟩]⟩,0):=by kernel_rfl
theorem qds:Bl.fresh [bCU,bFU,bRU]=[(dCU,bCU),(dFU,bFU),(dRU,bRU)]:=by
 have h1:(Bl.znl [] dCU).isSome=false:=by decide +kernel
 have h2:(Bl.znl [(dCU,bCU)] dFU).isSome=false:=by decide +kernel
 have h3:(Bl.znl [(dCU,bCU),(dFU,bFU)] dRU).isSome=false:=by decide +kernel
 simp only [Bl.fresh,List.foldl_cons,List.foldl_nil,Bl.zpy,sCU,sFU,sRU,h1,h2,h3,Bool.false_eq_true,if_false,List.nil_append,List.cons_append]
theorem qi4 {code:Int}{r':Bl.SM}(h:Bl.zl0 65536 [] [bCU,bFU,bRU] code r'):code=0/\∀ k,Bl.vw r' k=if k=dCU then some bCU else if k=dFU then some bFU else if k=dRU then some bRU else none:=by
 obtain⟨_,_,h3⟩:=h
 have hl:¬Bl.long [bCU,bFU,bRU]:=by
  rintro ⟨L,hL,h⟩
  simp only [List.mem_cons,List.not_mem_nil,or_false] at hL
  rcases hL with rfl | rfl | rfl <;> revert h <;> decide +kernel
 have hx:¬(65536:Int) < ((Bl.total []:Nat):Int)+((Bl.extra [] (Bl.fresh [bCU,bFU,bRU]):Nat):Int):=by
  rw [qds];decide +kernel
 obtain⟨h0,hv⟩:=h3 hl hx
 rw [qds] at hv
 refine⟨h0,fun k=>?_⟩
 rw [hv]
 by_cases k1:k=dCU
 ·subst k1;decide +kernel
 ·by_cases k2:k=dFU
  ·subst k2;decide +kernel
  ·by_cases k3:k=dRU
   ·subst k3;decide +kernel
   ·have g1:(dCU==k)=false:=beq_eq_false_iff_ne.2 fun e=>k1 e.symm
    have g2:(dFU==k)=false:=beq_eq_false_iff_ne.2 fun e=>k2 e.symm
    have g3:(dRU==k)=false:=beq_eq_false_iff_ne.2 fun e=>k3 e.symm
    simp [Bl.znl,List.find?_cons,g1,g2,g3,k1,k2,k3,Bl.zwo,Bl.vw,zbk]
theorem zn6.tail {H:Heap}{x:Option Addr×Nat×Nat}{p:Path×Itm}{ps:List (Path×Itm)}(h:zn6 H x (p :: ps)):∃ x',(∀ w,(Instr.sliceAt zsd (.slice x.1 x.2.1 x.2.2) (some (.int .i64 1)) none none).run P w=.ok (zb2 x') w)/\zn6 H x' ps:=by
 obtain⟨ys,h1,h2,h3,h4,h5,h6⟩:=h
 cases ys with
 | nil=>simp at h4
 | cons y ys=>
  simp only [List.map_cons,List.cons.injEq] at h4
  simp only [List.length_cons] at h2
  refine⟨(if x.2.2=1 then x.1 else x.1.map (·.add (1 * 35)),x.2.1-1,x.2.2-1),fun w=>za9 (a:=x.1) (len:=x.2.1) (cap:=x.2.2) (l:=1) (h:=x.2.1) uSQ szQ (.yes (k:=.i64) (i:=(1:Int)) rfl) .no (by omega) h3,ys,?_,by show x.2.1-1=_;omega,by show x.2.1-1<=x.2.2-1;omega,h4.2,fun z hz=>h5 z (by simp [hz]),fun _ c hc=>h6 (by simp) c ?_⟩
  ·by_cases hc:x.2.2=1
   ·have:ys=[]:=List.eq_nil_of_length_eq_zero (by omega)
    subst this
    exact .inl rfl
   ·simp only [if_neg hc]
    have:=h1.part 35 (ys.length * 35) (by rw [qdl];simp;omega)
    rw [List.flatMap_cons,List.drop_left' (by rw [z4i]),List.take_of_length_le (by rw [qdl];omega)] at this
    exact this
  ·by_cases hc':x.2.2=1
   ·simpa [jk,hc'] using hc
   ·simp only [jk,if_neg hc'] at hc |-
    cases hx:x.1 with
    | none=>rw [hx] at hc;simp at hc
    | some a=>rw [hx] at hc;simpa [Addr.add] using hc
end Go.Proofs.YtbmegmbnlajbbaaGreatDoor
namespace Go.Proofs.YtbmegmbnlajbbaaGreatDoor
open Go Go.Fw Go.Proofs Go.Sort
theorem qhk (s d:ByteArray) (w:World):(Instr.build za1 #[(0,.string s),(2,.string d)]).run P w=.ok (.agg #[.string s,.bool false,.string d]) w:=by kernel_rfl
end Go.Proofs.YtbmegmbnlajbbaaGreatDoor
namespace Go.Proofs.YtbmegmbnlajbbaaGreatDoor
open Go Go.Fw Go.Proofs Go.Sort
theorem qjz (f:Fil) (w:World):(Instr.buildSlice zmu 1 #[(0,.agg (zol f).toArray)]).run P w=.ok (.slice (some ⟨w.heap.size,0,none⟩) 1 1) { w with heap:=w.heap.push (.cells ([f].flatMap zol).toArray za1) }:=by kernel_rfl
end Go.Proofs.YtbmegmbnlajbbaaGreatDoor
