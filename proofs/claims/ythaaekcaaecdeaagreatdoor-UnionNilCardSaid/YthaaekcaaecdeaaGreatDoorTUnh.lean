/- Part 8 of the texts below the card, joined. -/
import Derived.Test.YthaaekcaaecdeaaGreatDoorTUng
import Derived.Test.YthaaekcaaecdeaaGreatDoorTUne
import Derived.Test.YthaaekcaaecdeaaGreatDoorTUnd
import Derived.Shelf.SlSortCmp.WholeK
import Derived.Shelf.Small.Bits
import Derived.Test.YthaaekcaaecdeaaGreatDoorProg
import Derived.Laws.StructEq
namespace Go.Proofs.YthaaekcaaecdeaaGreatDoor
open Go Go.Fw Go.Proofs Go.Sort
def zyh:List Fil->Fil->List Fil
 | [],f=>[f]
 | g :: L,f=>if zeb (nm g) (nm f) < 0 then g :: zyh L f else f :: g :: L
def zjl (L:List Fil):List Fil:=L.foldl zyh []
def zry (L:List Fil):Prop:=L.Pairwise fun a b=>zeb (nm a) (nm b) < 0
theorem zq2:∀ (L:List Fil) (f:Fil),(zyh L f).Perm (f :: L)
 | [],f=>.refl _
 | g :: L,f=>by
  unfold zyh
  split
  ·exact ((zq2 L f).cons g).trans (.swap f g L)
  ·exact .refl _
theorem z2x:∀ {L:List Fil}{f:Fil},zry L->(∀ g∈L,nm g≠nm f)->zry (zyh L f)
 | [],f,_,_=>by simp [zyh,zry]
 | g :: L,f,h,hn=>by
  obtain⟨h1,h2⟩:=List.pairwise_cons.1 h
  unfold zyh
  split
  ·rename_i hlt
   refine List.pairwise_cons.2 ⟨fun x hx=>?_,z2x h2 fun y hy=>hn y (by simp [hy])⟩
   rcases List.mem_cons.1 ((zq2 L f).mem_iff.1 hx) with rfl | hx
   ·exact hlt
   ·exact h1 x hx
  ·rename_i hge
   have hgt:zeb (nm f) (nm g) < 0:=by
    have h3:=zjr (p:=nm f) (q:=nm g)
    have h4:zeb (nm g) (nm f)≠0:=fun e=>hn g (by simp) (zds.1 e)
    omega
   refine List.pairwise_cons.2 ⟨fun x hx=>?_,h⟩
   rcases List.mem_cons.1 hx with rfl | hx
   ·exact hgt
   ·exact zlw hgt (h1 x hx)
theorem z1i:∀ (L A:List Fil),zry A->((A++L).map nm).Nodup->(L.foldl zyh A).Perm (A++L)/\zry (L.foldl zyh A)
 | [],A,hA,_=>by simp [hA]
 | f :: L,A,hA,hn=>by
  have hfA:∀ g∈A,nm g≠nm f:=by
   intro g hg e
   rw [List.map_append,List.nodup_append] at hn
   exact hn.2.2 _ (List.mem_map.2 ⟨g,hg,rfl⟩) _ (List.mem_map.2 ⟨f,by simp,rfl⟩) e
  have hp:=zq2 A f
  have h1:(zyh A f++L).Perm (A++f :: L):=(hp.append_right L).trans (List.perm_middle (a:=f) (l₁:=A) (l₂:=L)).symm
  obtain⟨g1,g2⟩:=z1i L (zyh A f) (z2x hA hfA) ((h1.map nm).nodup_iff.2 hn)
  exact⟨g1.trans h1,g2⟩
theorem zlt {L:List Fil}(hn:(L.map nm).Nodup):(zjl L).Perm L/\zry (zjl L):=by
 have:=z1i L [] List.Pairwise.nil (by simpa using hn)
 simpa [zjl] using this
theorem z0p:∀ {A B:List Fil},zry A->zry B->A.Perm B->A=B
 | [],B,_,_,hp=>by rw [hp.nil_eq]
 | a :: A,[],_,_,hp=>by have:=hp.length_eq;simp at this
 | a :: A,b :: B,hA,hB,hp=>by
  obtain⟨a1,a2⟩:=List.pairwise_cons.1 hA
  obtain⟨b1,b2⟩:=List.pairwise_cons.1 hB
  have hab:a=b:=by
   rcases List.mem_cons.1 (hp.mem_iff.1 (List.mem_cons_self (a:=a) (l:=A))) with h | h
   ·exact h
   ·rcases List.mem_cons.1 (hp.mem_iff.2 (List.mem_cons_self (a:=b) (l:=B))) with h' | h'
    ·exact h'.symm
    ·have h3:=b1 a h
     have h4:=a1 b h'
     have h5:=zjr (p:=nm a) (q:=nm b)
     omega
  subst hab
  rw [z0p a2 b2 ((List.perm_cons a).1 hp)]
def qay (p:Path) (f:Fil):Bool:=decide (nm f≠[]/\(nm f).dropLast=p)
def kids (S:List Fil) (p:Path):List Fil:=S.filter (qay p)
def zjm (p:Path):List UInt8:=p.getLast?.getD []
def zf9 (T:List Itm):Nod:=⟨3,[],0,[],T⟩
def zmq (rec:Path->List (List UInt8)×List UInt8) (acc:List (List UInt8)×List Itm) (f:Fil):List (List UInt8)×List Itm:=
 if f.dir then (acc.1++(rec (nm f)).1,acc.2++[⟨zjm (nm f),3,(rec (nm f)).2⟩]) else (acc.1++zix f.data,acc.2++[⟨zjm (nm f),2,zkh f.data⟩])
def zaq (rec:Path->List (List UInt8)×List UInt8) (K:List Fil):List (List UInt8)×List Itm:=K.foldl (zmq rec) ([],[])
def zf5 (S:List Fil):Nat->Path->List (List UInt8)×List UInt8
 | 0,_=>([],[])
 | n+1,p=>((zaq (zf5 S n) (kids S p)).1++[zjb (zf9 (zaq (zf5 S n) (kids S p)).2)],Sha.sum (zjb (zf9 (zaq (zf5 S n) (kids S p)).2)))
theorem z2v {rec:Path->List (List UInt8)×List UInt8}{K:List Fil}{f:Fil}:zaq rec (K++[f])=zmq rec (zaq rec K) f:=by simp [zaq]
theorem z8f {S:List Fil}{p:Path}:kids (S.map clean) p=(kids S p).map clean:=by
 unfold kids
 rw [List.filter_map]
 congr 1
 apply List.filter_congr
 intro f _
 simp [qay,zzg]
theorem zz1 {rec:Path->List (List UInt8)×List UInt8}{K:List Fil}:zaq rec (K.map clean)=zaq rec K:=by
 unfold zaq
 rw [List.foldl_map]
 congr 1
 funext acc f
 simp only [zmq,zzg]
 rfl
theorem z7h {S:List Fil}:∀ (n:Nat) (p:Path),zf5 (S.map clean) n p=zf5 S n p
 | 0,_=>rfl
 | n+1,p=>by
  have:zf5 (S.map clean) n=zf5 S n:=funext (z7h n)
  simp only [zf5,z8f,zz1,this]
def zll (rec:Path->List (List UInt8)×List UInt8) (f:Fil):Itm:=if f.dir then ⟨zjm (nm f),3,(rec (nm f)).2⟩ else ⟨zjm (nm f),2,zkh f.data⟩
def znr (rec:Path->List (List UInt8)×List UInt8) (f:Fil):List (List UInt8):=if f.dir then (rec (nm f)).1 else zix f.data
theorem z0i {rec:Path->List (List UInt8)×List UInt8}:∀ (K:List Fil) (acc:List (List UInt8)×List Itm),K.foldl (zmq rec) acc=(acc.1++(K.map (znr rec)).flatten,acc.2++K.map (zll rec))
 | [],acc=>by simp
 | f :: K,acc=>by
  rw [List.foldl_cons,z0i K]
  unfold zmq zll znr
  split <;> simp_all
theorem zit {rec:Path->List (List UInt8)×List UInt8}{K:List Fil}:(zaq rec K).2=K.map (zll rec):=by
 unfold zaq;rw [z0i];simp
theorem zok {rec:Path->List (List UInt8)×List UInt8}{K:List Fil}:(zaq rec K).1=(K.map (znr rec)).flatten:=by
 unfold zaq;rw [z0i];simp
theorem zqb {f:Fil}(h:nm f≠[]):nm f=(nm f).dropLast++[zjm (nm f)]:=by
 unfold zjm
 rw [List.getLast?_eq_some_getLast h]
 exact (List.dropLast_concat_getLast h).symm
theorem z9l {p:Path}{a b:List UInt8}:zeb (p++[a]) (p++[b])=Lib.compareBytes a b:=by
 rw [zn2 (i:=p.length) (by simp) (by simp) (by simp)]
 simp only [List.drop_left]
 unfold zeb
 have hr:=zlo (a:=a) (b:=b)
 split
 ·rfl
 ·rename_i h
  have h:Lib.compareBytes a b=0:=by simpa using h
  rw [h];rfl
theorem zjv {S:List Fil}{p:Path}{f:Fil}(h:f∈kids S p):f∈S/\nm f≠[]/\(nm f).dropLast=p:=by
 obtain⟨h1,h2⟩:=List.mem_filter.1 h
 exact⟨h1,by simpa [qay] using h2⟩
theorem qch {S:List Fil}(h:zry S){p:Path}:(kids S p).Pairwise fun a b=>Lib.compareBytes (zjm (nm a)) (zjm (nm b)) < 0:=by
 have h1:(kids S p).Pairwise fun a b=>zeb (nm a) (nm b) < 0:=h.sublist List.filter_sublist
 refine h1.imp_of_mem fun {a b} ha hb hab=>?_
 obtain⟨_,a1,a2⟩:=zjv ha
 obtain⟨_,b1,b2⟩:=zjv hb
 rw [zqb a1,zqb b1,a2,b2,z9l] at hab
 exact hab
theorem z3n {f:Fil}(h:nm f≠[]):zei (zjm (nm f))=true:=by
 have:=(zk3 f).1
 refine this _ ?_
 unfold zjm
 rw [List.getLast?_eq_some_getLast h]
 exact List.getLast_mem h
theorem zx5 {rec:Path->List (List UInt8)×List UInt8}:∀ {K:List Fil}{last:List UInt8},(K.Pairwise fun a b=>Lib.compareBytes (zjm (nm a)) (zjm (nm b)) < 0)->(∀ f∈K,nm f≠[])->(∀ f,K.head?=some f->Lib.compareBytes last (zjm (nm f)) < 0)->zq1 last (K.map (zll rec))=true
 | [],_,_,_,_=>rfl
 | f :: K,last,h,hn,hl=>by
  obtain⟨h1,h2⟩:=List.pairwise_cons.1 h
  have hi:(zll rec f).name=zjm (nm f)/\((zll rec f).kind=2\/(zll rec f).kind=3):=by
   unfold zll
   split
   ·exact⟨rfl,.inr rfl⟩
   ·exact⟨rfl,.inl rfl⟩
  rw [List.map_cons,zq1,hi.1]
  have ih:=zx5 (rec:=rec) (K:=K) (last:=zjm (nm f)) h2 (fun g hg=>hn g (by simp [hg])) (fun g hg=>h1 g (List.mem_of_mem_head? hg))
  simp only [Bool.and_eq_true,decide_eq_true_eq,Bool.or_eq_true]
  exact⟨⟨⟨hl f rfl,z3n (hn f (by simp))⟩,hi.2⟩,ih⟩
theorem qao {S:List Fil}(h:zry S){p:Path}{rec:Path->List (List UInt8)×List UInt8}(hm:(kids S p).length<=64):zdj (zf9 ((kids S p).map (zll rec)))=true:=by
 unfold zdj zf9
 rw [if_neg (show ¬((3:Int)=1) by decide),if_neg (show ¬((3:Int)=2) by decide),if_pos rfl]
 simp only [List.length_nil,and_self,decide_true,Bool.true_and,znw,Bool.and_eq_true,decide_eq_true_eq,List.length_map]
 refine⟨zx5 (qch h) (fun f hf=>(zjv hf).2.1) fun f hf=>?_,hm⟩
 have:=zej.1 (z3n (zjv (List.mem_of_mem_head? hf)).2.1)
 cases hl:zjm (nm f) with
 | nil=>exact absurd hl this.1.1
 | cons a b=>simp [Lib.compareBytes]
theorem znu {S:List Fil}{n:Nat}{p:Path}:(zf5 S (n+1) p).2.length=32:=zbm
def wt (S:List Fil) (p:Path):Nat:=(S.filter fun f=>zbq (nm f) p).length
theorem zvi {p:Path}:zbq p p=true:=within_iff.2 ⟨Nat.le_refl _,by simp⟩
theorem zlf {S:List Fil}{p:Fil->Bool}:((S.map fun f=>if p f then 1 else 0).sum)=(S.filter p).length:=by
 induction S with
 | nil=>rfl
 | cons f S ih=>
  rw [List.map_cons,List.sum_cons,ih,List.filter_cons]
  split <;> simp_all <;> omega
theorem qdr {α β:Type}(A:List α) (B:List β) (g:α->β->Nat):(A.map fun a=>(B.map fun b=>g a b).sum).sum=(B.map fun b=>(A.map fun a=>g a b).sum).sum:=by
 induction A with
 | nil=>induction B with
  | nil=>rfl
  | cons b B ih=>simpa using ih
 | cons a A ih=>
  rw [List.map_cons,List.sum_cons,ih]
  clear ih
  induction B with
  | nil=>simp
  | cons b B ih2=>
   simp only [List.map_cons,List.sum_cons] at *
   omega
theorem qfm {α:Type}{g g':α->Nat}:∀ {S:List α},(∀ f∈S,g f<=g' f)->(S.map g).sum<=(S.map g').sum
 | [],_=>by simp
 | f :: S,h=>by
  have h1:=h f (by simp)
  have h2:=qfm (S:=S) fun x hx=>h x (by simp [hx])
  simp only [List.map_cons,List.sum_cons]
  omega
theorem qgg {S:List Fil}(h:zry S){p:Path}:((kids S p).map fun e=>wt S (nm e)).sum<=(S.filter fun f=>zbq (nm f) p&&decide (p.length < (nm f).length)).length:=by
 have e1:((kids S p).map fun e=>wt S (nm e))=(kids S p).map fun e=>(S.map fun f=>if zbq (nm f) (nm e) then 1 else 0).sum:=by
  apply List.map_congr_left
  intro e _
  rw [zlf];rfl
 rw [e1,qdr,<-zlf]
 have key:∀ f∈S,((kids S p).map fun e=>if zbq (nm f) (nm e) then 1 else 0).sum<=(if zbq (nm f) p&&decide (p.length < (nm f).length) then 1 else 0):=by
  intro f _
  rw [zlf]
  have huniq:∀ {e},e∈kids S p->zbq (nm f) (nm e)=true->nm e=(nm f).take (p.length+1)/\p.length+1<=(nm f).length/\(nm f).take p.length=p:=by
   intro e he hw
   obtain⟨_,e1,e2⟩:=zjv he
   obtain⟨w1,w2⟩:=within_iff.1 hw
   have hl:(nm e).length=p.length+1:=by
    have:=congrArg List.length (zqb e1)
    rw [e2] at this;simpa using this
   refine⟨by rw [<-hl,w2],by omega,?_⟩
   have:=congrArg (List.take p.length) w2
   rw [List.take_take,Nat.min_eq_left (by omega)] at this
   rw [this,zqb e1,e2]
   simp
  have hle:((kids S p).filter fun e=>zbq (nm f) (nm e)).length<=1:=by
   have hr:((kids S p).filter fun e=>zbq (nm f) (nm e)).Pairwise fun a b=>zeb (nm a) (nm b) < 0:=(h.sublist List.filter_sublist).sublist List.filter_sublist
   match hm:(kids S p).filter fun e=>zbq (nm f) (nm e) with
   | []=>simp
   | [_]=>simp
   | a :: b :: r=>
    exfalso
    rw [hm] at hr
    have hab:=(List.pairwise_cons.1 hr).1 b (by simp)
    have ha:a∈(kids S p).filter fun e=>zbq (nm f) (nm e):=by rw [hm];simp
    have hb:b∈(kids S p).filter fun e=>zbq (nm f) (nm e):=by rw [hm];simp
    obtain⟨a1,a2⟩:=List.mem_filter.1 ha
    obtain⟨b1,b2⟩:=List.mem_filter.1 hb
    rw [(huniq a1 a2).1,(huniq b1 b2).1,zds.2 rfl] at hab
    omega
  split
  ·exact hle
  ·rename_i hno
   rw [Nat.le_zero,List.length_eq_zero_iff,List.filter_eq_nil_iff]
   intro e he hw
   obtain⟨u1,u2,u3⟩:=huniq he hw
   apply hno
   simp only [Bool.and_eq_true,decide_eq_true_eq]
   exact⟨within_iff.2 ⟨by omega,u3⟩,by omega⟩
 exact qfm key
theorem zzr {D:List UInt8}(h:D.length<=1024):(zix D).length<=17:=by
 simp [zix,zc9,npc];omega
theorem z6d {S:List Fil}(h:zry S) (hd:∀ f∈S,f.data.length<=1024):∀ (n:Nat) (p:Path),(zf5 S n p).1.length<=1+18 * (S.filter fun f=>zbq (nm f) p&&decide (p.length < (nm f).length)).length
 | 0,p=>by simp [zf5]
 | n+1,p=>by
  have h1:=qgg h (p:=p)
  have ih:=z6d h hd n
  have key:∀ K:List Fil,(∀ e∈K,e∈S)->((K.map (znr (zf5 S n))).flatten).length<=18 * (K.map fun e=>wt S (nm e)).sum:=by
   intro K
   induction K with
   | nil=>intro _;simp
   | cons e K ihK=>
    intro hK
    have h2:=ihK fun x hx=>hK x (by simp [hx])
    have heS:=hK e (by simp)
    have h3:(znr (zf5 S n) e).length<=18 * wt S (nm e):=by
     have hpos:1<=wt S (nm e):=List.length_pos_iff.2 (List.ne_nil_of_mem (List.mem_filter.2 ⟨heS,zvi⟩))
     unfold znr
     split
     ·have h4:=ih (nm e)
      have h5:(S.filter fun f=>zbq (nm f) (nm e)&&decide ((nm e).length < (nm f).length)).length+1<=wt S (nm e):=by
       unfold wt
       have:(S.filter fun f=>zbq (nm f) (nm e)&&decide ((nm e).length < (nm f).length))=(S.filter fun f=>zbq (nm f) (nm e)).filter fun f=>decide ((nm e).length < (nm f).length):=by
        rw [List.filter_filter]
        congr 1
        funext f
        rw [Bool.and_comm]
       rw [this]
       refine List.length_filter_lt_length_iff_exists.2 ⟨e,List.mem_filter.2 ⟨heS,zvi⟩,by simp⟩
      omega
     ·have:=zzr (hd e heS)
      omega
    simp only [List.map_cons,List.flatten_cons,List.length_append,List.sum_cons]
    omega
  have h6:=key (kids S p) fun e he=>(zjv he).1
  rw [zf5,zok]
  simp only [List.length_append,List.length_singleton]
  omega
theorem uST:P.underlying za6=some (.slice jl):=by kernel_rfl
theorem bT2 (s:ByteArray) (w:World):(Instr.build jl #[(0,.string s),(1,.int .i64 2)]).run P w=.ok (.agg ([Value.string s,Value.int .i64 2]++byteCells (List.replicate 32 0)).toArray) w:=by kernel_rfl
theorem ET:Elem P jl 34 56:=zii (z:=.agg ([Value.string .empty,Value.int .i64 0]++byteCells (List.replicate 32 0)).toArray) (by kernel_rfl) rfl
theorem qga {w:World}{H:Heap}{B:Nat}{x:Option Addr×Nat×Nat}{T:List Itm}{i:Itm}(hw:w.heap=H) (hm:Mine H B jl 34 x (T.flatMap zh3)) (hBs:B<=H.size) (hlen:T.length<=1073741824){K:(Option Addr×Nat×Nat)->World->Prop}
  (hK:∀ x' w',Mine w'.heap B jl 34 x' ((T++[i]).flatMap zh3)->Ext (jw x) H w'.heap->(∀ c∈jw x',c∈jw x\/H.size<=c)->K x' w') :
  za2 P (Instr.buildSlice za6 1 #[(0,.agg (zh3 i).toArray)]) .slc w fun (t27:(Option Addr×Nat×Nat)) w_13=>
  za2 P (Builtin.append_ #[za6,za6] za6 #[(Value.slice x.1 x.2.1 x.2.2),(Value.slice t27.1 t27.2.1 t27.2.2)]) .slc w_13 K:=by
 have hlx:x.2.1=T.length:=by
  have:=hm.len
  rw [xg zh3 zcc] at this
  omega
 refine zaf (s:=.slc) (some ⟨w.heap.size,0,none⟩,1,1) _ (zee ET uST (v:=.agg (zh3 i).toArray) (by simp [Value.cells,zcc]) (by omega) (by omega)) ?_
 subst hw
 have hxp:Ext [] w.heap (w.heap.push (.cells (Value.agg (zh3 i).toArray).cells jl)):=.push _
 refine zbx (bts:=56) (n:=1) (us:=zh3 i) (H:=w.heap.push (.cells (Value.agg (zh3 i).toArray).cells jl)) ET (by omega) uST (zar uST) rfl (hm.ext hxp (by simp)) (by simp;omega)
  (Src.slc rfl (.inr ⟨w.heap.size,0,_,_,_,rfl,zk,by simp [zis],by simp [zis,List.take_of_length_le]⟩) (by rw [zcc])) zy7 (by omega) ?_
 intro x' w4 hm4 hl4 hx4 hs4
 refine hK x' w4 (by rw [List.flatMap_append,List.flatMap_singleton];exact hm4) ((hxp.mono (by simp)).trans hx4) (fun c hc=>?_)
 rcases hs4 c hc with h | h
 ·exact .inl h
 ·right;have:=hxp.1;omega
theorem qd7 {n s:List UInt8}{k k':Int}:(zh3 ⟨n,k,s⟩).toArray.setIfInBounds 1 (.int .i64 k')=(zh3 ⟨n,k',s⟩).toArray:=by
 simp [zh3]
theorem z9y {n s s':List UInt8}{k:Int}(hs':s'.length=32):setCells (zh3 ⟨n,k,s⟩).toArray 2 (byteCells s')=(zh3 ⟨n,k,s'⟩).toArray:=by
 apply Array.ext_getElem?
 intro i
 rw [zk0 (by simp [zcc,hs'])]
 simp only [zam,hs']
 by_cases h:2<=i/\i < 2+32
 ·rw [if_pos h]
  obtain⟨j,rfl⟩:∃ j,i=j+2:=⟨i-2,by omega⟩
  simp only [List.getElem?_toArray,zh3,Bl.zhq hs',List.getElem?_cons_succ,Nat.add_sub_cancel]
 ·rw [if_neg h]
  simp only [List.getElem?_toArray]
  by_cases h2:i < 2
  ·match i,h2 with
   | 0,_=>rfl
   | 1,_=>rfl
  ·rw [List.getElem?_eq_none (by rw [zcc];omega),List.getElem?_eq_none (by rw [zcc];omega)]
theorem z0f {p:Path}{f:Fil}:qay p f=true ↔ (nm f).length=p.length+1/\zbq (nm f) p=true:=by
 unfold qay
 rw [decide_eq_true_eq,within_iff]
 constructor
 ·rintro ⟨h1,h2⟩
  have hl:(nm f).length=p.length+1:=by
   have:=congrArg List.length (zqb h1)
   rw [h2] at this;simpa using this
  exact⟨hl,by omega,by rw [<-h2,List.dropLast_eq_take];congr 1;simp⟩
 ·rintro ⟨h1,h2,h3⟩
  refine⟨by intro h;rw [h] at h1;simp at h1,?_⟩
  rw [List.dropLast_eq_take,h1,Nat.add_sub_cancel,h3]
theorem qbt {S:List Fil}{p:Path}{i:Nat}{f:Fil}(h:S[i]?=some f):kids (S.take (i+1)) p=if qay p f then kids (S.take i) p++[f] else kids (S.take i) p:=by
 unfold kids
 rw [List.take_add_one,h,List.filter_append]
 cases hk:qay p f <;> simp [hk]
theorem z96 {rec:Path->List (List UInt8)×List UInt8}{K:List Fil}:(zaq rec K).2.length=K.length:=by rw [zit];simp
theorem qik {S:List Fil}{p:Path}{n:Nat}(hn:p.length+(n+1)=9){K:List Fil}(hK:∀ f∈K,nm f≠[]/\(nm f).dropLast=p):∀ i∈(zaq (zf5 S n) K).2,i.sum.length=32:=by
 rw [zit]
 intro i hi
 obtain⟨f,hf,rfl⟩:=List.mem_map.1 hi
 obtain⟨h1,h2⟩:=hK f hf
 unfold zll
 split
 ·have h8:=(zk3 f).2
  have hl:(nm f).length=p.length+1:=by
   have:=congrArg List.length (zqb h1)
   rw [h2] at this;simpa using this
  obtain⟨m,rfl⟩:∃ m,n=m+1:=⟨n-1,by omega⟩
  exact znu
 ·exact zbm
theorem z9v {rec:Path->List (List UInt8)×List UInt8}{K:List Fil}(hK:∀ f∈K,nm f≠[]) (hl:K.length<=65536):SmallN (zf9 (zaq rec K).2):=by
 refine⟨by simp [zf9],by simp [zf9],by simp only [zf9];rw [z96];exact hl,?_⟩
 simp only [zf9]
 rw [zit]
 intro i hi
 obtain⟨f,hf,rfl⟩:=List.mem_map.1 hi
 have:=(zej.1 (z3n (hK f hf))).1.2.1
 unfold zll
 split <;> (simp only;omega)
theorem qdv {T:List Itm}(h:SmallN (zf9 T)) (h32:∀ i∈T,i.sum.length=32):(zjb (zf9 T)).length<=10000000000:=by
 have u:=@zgb 3
 have u2:=@zgb (T.length:Int)
 have h1:=zvf (l:=T) h.names h32
 have h2:T.length<=65536:=h.items
 unfold zjb zf9
 rw [if_neg (show ¬((3:Int)=1) by decide),if_neg (show ¬((3:Int)=2) by decide)]
 simp only [List.length_append]
 omega
theorem last_at {f:Fil}(h:nm f≠[]):(nm f)[(nm f).length-1]'(by have:=List.length_pos_iff.2 h;omega)=zjm (nm f):=by
 unfold zjm
 rw [List.getLast?_eq_some_getLast h,List.getLast_eq_getElem]
 rfl
theorem bN3 (w:World):(Instr.build zu #[(0,.int .i64 3)]).run P w=.ok (.agg #[.int .i64 3,.string .empty,.int .i64 0,.slice none 0 0,.slice none 0 0]) w:=by kernel_rfl
theorem zc8.row {H:Heap}{B:Nat}{x:Option Addr×Nat×Nat}{Ls:List (List UInt8)}(h:zc8 H B x Ls){B':Nat}{T:TypeId}{sz:Nat}{y:Option Addr×Nat×Nat}{vs:List Value}(hm:Mine H B' T sz y vs) (hT:T≠xk):∀ b∈jw y,b∉jw x:=by
 obtain⟨ys,g1,_⟩:=h
 exact zf0 hm g1 hT
structure ME where
 hdr:Option Addr×Nat×Nat
 f:Fil
def zjc (m:ME):List Value:=[zdr m.hdr,.string (strOf m.f.path),.bool m.f.dir,.string (strOf m.f.data)]
theorem zim (m:ME):(zjc m).length=4:=rfl
theorem zzb {m:ME}:zbo (zjc m):=by
 intro v hv
 simp only [zjc,List.mem_cons,List.not_mem_nil,or_false] at hv
 rcases hv with rfl | rfl | rfl | rfl <;> rfl
def zpn (H:Heap) (m:ME):Prop:=Mine H 0 qx 1 m.hdr (strRow (nm m.f))
theorem qmw:(zc P xq).size=4:=by kernel_rfl
theorem qml:P.cellsOf xq=4:=by kernel_rfl
theorem qi6 {w:World}{H:Heap}(m:ME) (hw:w.heap=H){K:Nat->World->Prop}(hK:∀ w',w'.heap=H.push (.cells (zjc m).toArray xq (0,0))->K H.size w') :
  zat (zc P xq) xq w fun b w1=>zah P (storeVar xq (⟨b,0,none⟩:Addr) (.agg (zjc m).toArray)) w1 fun w2=>K b w2:=
 zxp (v:=.agg (zjc m).toArray) qml qmw (by simp [Value.cells,zjc]) (by simpa [Value.cells] using zzb) hw hK
theorem Mine.keep {H H':Heap}{B:Nat}{T:TypeId}{sz:Nat}{x:Option Addr×Nat×Nat}{vs:List Value}{M:List Nat}(h:Mine H B T sz x vs) (hx:Ext M H H') (hM:∀ m∈M,∀ c fr,H[m]?=some (.cells c T fr)->False):Go.Fw.Mine H' B T sz x vs:=
 Go.Fw.Mine.ext h hx fun b hb hm=>by
  rcases h with⟨rfl,_⟩ | ⟨b1,c1,hx1,_,hg1,_⟩
  ·simp [jw] at hb
  ·simp [jw,hx1] at hb;subst hb
   exact hM _ hm _ _ hg1
theorem uME:P.underlying zab=some (.map qx zaz):=by kernel_rfl
theorem zME (w:World):(zeroValue zaz).run P w=.ok (.slice none 0 0) w:=by kernel_rfl
abbrev KM:=ML (List UInt8) ((Option Addr×Nat×Nat)×List ME)
def evK (v:(Option Addr×Nat×Nat)×List ME):Value:=zdr v.1
def z9t (H:Heap) (mk:Nat) (S:List Fil):Prop:=∃ (M:KM) (clk:Nat),H[mk]?=some (.map (ents keyS (vl evK M)) clk)/\MOk (fun _=>True) M clk /\
 ∀ p,okP p->match zc6 M (x9 p) with
  | none=>kids S p=[]
  | some v=>v.2.map (·.f)=kids S p/\Mine H 0 xq 4 v.1 (v.2.flatMap zjc)/\∀ m∈v.2,zpn H m
theorem z9t.keep {H H':Heap}{mk:Nat}{S:List Fil}{M:List Nat}(h:z9t H mk S) (hx:Ext M H H') (hM:∀ m∈M,m < H.size->∃ c T fr,H[m]?=some (.cells c T fr)/\T≠xq/\T≠qx):z9t H' mk S:=by
 obtain⟨K,clk,h1,h2,h3⟩:=h
 refine⟨K,clk,hx.get h1 fun hm=>?_,h2,fun p hp=>?_⟩
 ·obtain⟨c,T,fr,hc,_⟩:=hM _ hm (lt_of_get h1)
  rw [h1] at hc;cases hc
 ·have:=h3 p hp
  cases hg:zc6 K (x9 p) with
  | none=>rw [hg] at this;exact this
  | some v=>
   rw [hg] at this
   obtain⟨g1,g2,g3⟩:=this
   refine⟨g1,Mine.keep g2 hx fun m hm c fr hc=>?_,fun m hm=>Mine.keep (g3 m hm) hx fun m hm c fr hc=>?_⟩
   ·obtain⟨c',T,fr',hc',n1,n2⟩:=hM m hm (lt_of_get hc)
    rw [hc] at hc'
    simp only [Option.some.injEq,Obj.cells.injEq] at hc'
    exact n1 hc'.2.1.symm
   ·obtain⟨c',T,fr',hc',n1,n2⟩:=hM m hm (lt_of_get hc)
    rw [hc] at hc'
    simp only [Option.some.injEq,Obj.cells.injEq] at hc'
    exact n2 hc'.2.1.symm
def zuf (bk bd bb:Nat):Value:=.func (.func zin) #[] #[.pointer (some ⟨bk,0,none⟩),.pointer (some ⟨bd,0,none⟩),.pointer (some ⟨bb,0,none⟩)]
structure DirSt (H:Heap) (bk bd bb mk B:Nat) (S:List Fil) (x:Option Addr×Nat×Nat) (Ls:List (List UInt8)):Prop where
 k:H[bk]?=some (.cells #[.map (some mk)] zab (0,0))
 d:H[bd]?=some (.cells #[zuf bk bd bb] zcx (0,0))
 b:H[bb]?=some (.cells #[zdr x] zai (0,0))
 kids:z9t H mk S
 blobs:zc8 H B x Ls
 rounds:Bl.Rounds H
 r0:1≠bb
theorem DirSt.keep {H H':Heap}{bk bd bb mk B:Nat}{S:List Fil}{x x':Option Addr×Nat×Nat}{Ls Ls':List (List UInt8)}{M:List Nat}(h:DirSt H bk bd bb mk B S x Ls) (hx:Ext M H H') (hB0:1 < B) (hM:∀ m∈M,m < H.size->m≠1/\∃ c T fr,H[m]?=some (.cells c T fr)/\(T=zai\/T=xk\/T=jl\/T=zu\/T=zf))
  (hb:H'[bb]?=some (.cells #[zdr x'] zai (0,0))) (hB:zc8 H' B x' Ls'):DirSt H' bk bd bb mk B S x' Ls':=by
 have no:∀ {b:Nat}{c:Array Value}{T:TypeId}{fr:Nat×Nat},H[b]?=some (.cells c T fr)->T≠zai->T≠xk->T≠jl->T≠zu->T≠zf->b∉M:=by
  intro b c T fr hc n1 n2 n3 n4 n5 hm
  obtain⟨_,c',T',fr',hc',ht⟩:=hM b hm (lt_of_get hc)
  rw [hc] at hc'
  simp only [Option.some.injEq,Obj.cells.injEq] at hc'
  rcases ht with h | h | h | h | h <;> rw [<-hc'.2.1] at h
  ·exact n1 h
  ·exact n2 h
  ·exact n3 h
  ·exact n4 h
  ·exact n5 h
 refine⟨hx.get h.k (no h.k (by decide) (by decide) (by decide) (by decide) (by decide)),hx.get h.d (no h.d (by decide) (by decide) (by decide) (by decide) (by decide)),hb,h.kids.keep hx fun m hm hlt=>?_,hB,h.rounds.ext hx fun h0=>?_,h.r0⟩
 ·obtain⟨_,c,T,fr,hc,ht⟩:=hM m hm hlt
  refine⟨c,T,fr,hc,?_,?_⟩ <;> rcases ht with rfl | rfl | rfl | rfl | rfl <;> decide
 ·have hlt:1 < H.size:=by obtain⟨_,_,_,h,_⟩:=h.rounds;exact lt_of_get h
  exact (hM 1 h0 hlt).1 rfl
theorem z6o {rec:Path->List (List UInt8)×List UInt8}{K:List Fil}{i:Nat}:(zaq rec (K.take i)).1.length<=(zaq rec K).1.length:=by
 have h:=List.take_append_drop i K
 rw [zok,zok]
 conv=>rhs;rw [<-h]
 rw [List.map_append,List.flatten_append,List.length_append]
 omega
set_option maxHeartbeats 64000000 in
theorem qkt (S:List Fil) (hd:∀ f∈S,f.data.length<=1024) (hSR:zry S) (h64:∀ p,(kids S p).length<=64):∀ (n:Nat){w:World}{H:Heap}{bk bd bb mk B:Nat}{x:Option Addr×Nat×Nat}{Ls:List (List UInt8)}{p:Path},w.heap=H->DirSt H bk bd bb mk B S x Ls->1 < B->B<=H.size ->
  okP p->p.length+n=9->Ls.length+(zf5 S n p).1.length<=500000000 ->
  qj P zin #[.string (strOf (x9 p)),.pointer (some ⟨bk,0,none⟩),.pointer (some ⟨bd,0,none⟩),.pointer (some ⟨bb,0,none⟩)] w fun e w'=>∃ x',e=.returned (arr (zf5 S n p).2)/\DirSt w'.heap bk bd bb mk B S x' (Ls++(zf5 S n p).1)/\Ext (bb :: jw x) H w'.heap/\∀ c∈jw x',c∈jw x\/H.size<=c:=by
 intro n
 induction n with
 | zero=>
  intro w H bk bd bb mk B x Ls p _ _ _ _ hp hn _
  have:=hp.2
  omega
 | succ n ih=>
 intro w H bk bd bb mk B x Ls p hw hS hB0 hBs hp hn hlen
 obtain⟨K,clk,g1,g2,g3⟩:=hS.kids
 have g3:=g3 p hp
 have hxlt:=hS.blobs.lt
 have hbl:=lt_of_get hS.b
 refine zw0 ?_
 unfold zpj
 refine ji hw fun w1 hw1=>?_
 have hx1:Ext [] H w1.heap:=by rw [hw1];exact .push _
 have hd1:w1.heap[H.size]?=some (.cells (zc P zf) zf (0,0)):=by rw [hw1];exact zk
 refine qc (s:=.any) (.agg (zfb (zf9 []) (none,0,0) (none,0,0)).toArray) (bN3 _) ?_
 refine qe3 (zf9 []) _ _ rfl fun w3 hw3=>?_
 have hx3:Ext [] w1.heap w3.heap:=by rw [hw3];exact .push _
 have hn3:w3.heap[w1.heap.size]?=some (.cells (zfb (zf9 []) (none,0,0) (none,0,0)).toArray zu (0,0)):=by rw [hw3];exact zk
 have hx03:=hx1.trans hx3
 have s1:H.size < w1.heap.size:=lt_of_get hd1
 have s3:w1.heap.size < w3.heap.size:=lt_of_get hn3
 have hd3:=hx3.get hd1 (by simp)
 simp only [jc]
 refine jg (s:=.map) (t:=some mk) rfl (hx03.get hS.k (by simp)) rfl ?_
 obtain⟨r,hr1,hr2,hr3,hr4⟩:∃ r:(Option Addr×Nat×Nat)×List ME,((zc6 K (x9 p)).map evK).getD (.slice none 0 0)=zdr r.1/\r.2.map (·.f)=kids S p/\Mine H 0 xq 4 r.1 (r.2.flatMap zjc)/\∀ m∈r.2,zpn H m:=by
  cases hg:zc6 K (x9 p) with
  | none=>rw [hg] at g3;exact⟨((none,0,0),[]),rfl,g3.symm,.inl ⟨rfl,rfl⟩,by simp⟩
  | some v=>rw [hg] at g3;exact⟨v,rfl,g3⟩
 have hlk:=zw1 (w:=w3) (l:=K) z0j uME zME rfl (hx03.get g1 (by simp)) g2 (k:=x9 p) trivial
 rw [hr1] at hlk
 refine qc (s:=.slc) r.1 hlk ?_
 have hrl:r.1.2.1=r.2.length:=by have:=hr3.len;rw [xg zjc zim] at this;omega
 have hkl:r.2.length=(kids S p).length:=by rw [<-hr2];simp
 have hk64:=h64 p
 have hkm:∀ f∈kids S p,nm f≠[]/\(nm f).dropLast=p:=fun f hf=>(zjv hf).2
 have htot:Ls.length+(zaq (zf5 S n) (kids S p)).1.length+1<=500000000:=by
  have:=hlen
  simp only [zf5,List.length_append,List.length_singleton] at this
  omega
 have hS3:DirSt w3.heap bk bd bb mk B S x Ls:=hS.keep hx03 hB0 (by simp) (hx03.get hS.b (by simp)) (hS.blobs.ext hx03 (by simp))
 refine zae (fun (s:Int) W=>∃ (i:Nat) (x' xi:Option Addr×Nat×Nat),s=(i:Int)/\i<=r.2.length/\Ext (bb :: jw x) H W.heap/\w3.heap.size<=W.heap.size/\W.heap[w1.heap.size]?=some (.cells (zfb (zf9 (zaq (zf5 S n) ((kids S p).take i)).2) (none,0,0) xi).toArray zu (0,0)) /\
   W.heap[H.size]?=some (.cells (zc P zf) zf (0,0))/\DirSt W.heap bk bd bb mk B S x' (Ls++(zaq (zf5 S n) ((kids S p).take i)).1)/\(∀ c∈jw x',c∈jw x\/w3.heap.size<=c)/\Mine W.heap w3.heap.size jl 34 xi ((zaq (zf5 S n) ((kids S p).take i)).2.flatMap zh3)) (fun s _=>(r.2.length-s).toNat)
  ⟨0,x,(none,0,0),rfl,Nat.zero_le _,hx03.mono (by simp),Nat.le_refl _,by simpa [zaq] using hn3,hd3,by simpa [zaq] using hS3,fun c hc=>.inl hc,.inl ⟨rfl,by simp [zaq]⟩⟩ ?_
 rintro _ W ⟨i,x',xi,rfl,hi,h1,h1s,h3,h3d,h4,h5,h6⟩
 have hH2:=h1.1
 have x'lt:=h4.blobs.lt
 have hbbW:=lt_of_get h4.b
 have hHx':∀ {m:Nat},H.size<=m->m < w3.heap.size->m∉jw x':=fun h h' hm=>by
  rcases h5 _ hm with h2 | h2
  ·have:=(hxlt _ h2).1;omega
  ·omega
 have hold:∀ {T:TypeId}{sz:Nat}{y:Option Addr×Nat×Nat}{vs:List Value},Mine H 0 T sz y vs->T≠zai->T≠xk->Mine W.heap 0 T sz y vs:=by
  intro T sz y vs hm n1 n2
  refine Mine.keep hm h1 fun m hmm c fr hc=>?_
  rcases List.mem_cons.1 hmm with rfl | hmm
  ·rw [hS.b] at hc
   simp only [Option.some.injEq,Obj.cells.injEq] at hc
   exact n1 hc.2.1.symm
  ·obtain⟨ys,q1,_⟩:=hS.blobs
   rcases q1 with⟨h,_⟩ | ⟨b',c2,hx1',_,hg,_⟩
   ·rw [h] at hmm;simp [jw] at hmm
   ·simp [jw,hx1'] at hmm;subst hmm
    rw [hc] at hg
    simp only [Option.some.injEq,Obj.cells.injEq] at hg
    exact n2 hg.2.1
 refine zy (fun hlt=>?_) (fun hge=>?_)
 ·have hil:i < r.2.length:=by omega
  have hget:=List.getElem?_eq_getElem hil
  have hmem:r.2[i]∈r.2:=List.getElem_mem hil
  have hfK:(kids S p)[i]?=some (r.2[i]).f:=by rw [<-hr2,List.getElem?_map,hget];rfl
  generalize r.2[i]=me at hget hmem hfK
  have hfS:me.f∈kids S p:=by rw [<-hr2];exact List.mem_map.2 ⟨me,hmem,rfl⟩
  have hdf:=hd me.f (zjv hfS).1
  obtain⟨hk1,hk2⟩:=hkm me.f hfS
  have hkl2:(nm me.f).length=p.length+1:=by
   have:=congrArg List.length (zqb hk1)
   rw [hk2] at this;simpa using this
  have h8:=(zk3 me.f).2
  have hsmall:=(zk3 me.f).small
  obtain⟨m,rfl⟩:∃ m,n=m+1:=⟨n-1,by omega⟩
  have htk:(kids S p).take (i+1)=(kids S p).take i++[me.f]:=by rw [List.take_add_one,hfK];rfl
  have hstep:(zaq (zf5 S (m+1)) ((kids S p).take (i+1)))=zmq (zf5 S (m+1)) (zaq (zf5 S (m+1)) ((kids S p).take i)) me.f:=by rw [htk,z2v]
  have hpre:=z6o (rec:=zf5 S (m+1)) (K:=kids S p) (i:=i)
  have hpre':=z6o (rec:=zf5 S (m+1)) (K:=kids S p) (i:=i+1)
  refine joinP_of (fun _ W'=>∃ (x2 xi2:Option Addr×Nat×Nat),Ext (bb :: jw x) H W'.heap/\w3.heap.size<=W'.heap.size/\W'.heap[w1.heap.size]?=some (.cells (zfb (zf9 (zaq (zf5 S (m+1)) ((kids S p).take (i+1))).2) (none,0,0) xi2).toArray zu (0,0)) /\
   W'.heap[H.size]?=some (.cells (zc P zf) zf (0,0))/\DirSt W'.heap bk bd bb mk B S x2 (Ls++(zaq (zf5 S (m+1)) ((kids S p).take (i+1))).1)/\(∀ c∈jw x2,c∈jw x\/w3.heap.size<=c)/\Mine W'.heap w3.heap.size jl 34 xi2 ((zaq (zf5 S (m+1)) ((kids S p).take (i+1))).2.flatMap zh3)) ?_ ?_
  rotate_left
  ·rintro _ W' ⟨x2,xi2,g⟩
   refine jr ((i+1:Nat):Int) (by omega) (by omega) (by omega) ?_
   exact⟨⟨i+1,x2,xi2,rfl,by omega,g⟩,by omega⟩
  refine jf ?_
  refine zff (i:=i) zim (by omega) rfl (hold hr3 (by decide) (by decide)).cells hrl hget rfl ?_
  refine qi6 me rfl fun w6 hw6=>?_
  have hx6:Ext [] W.heap w6.heap:=by rw [hw6];exact .push _
  have he6:w6.heap[W.heap.size]?=some (.cells (zjc me).toArray xq (0,0)):=by rw [hw6];exact zk
  have hnm:=(hold (hr4 me hmem) (by decide) (by decide)).ext hx6 (by simp)
  have hnl:me.hdr.2.1=(nm me.f).length:=by have:=hnm.len;simp at this;omega
  refine jg (s:=.slc) (t:=me.hdr) rfl he6 rfl ?_
  refine jg (s:=.slc) (t:=me.hdr) rfl he6 rfl ?_
  refine zdb ((me.hdr.2.1-1:Nat):Int) (by omega) (by omega) (by omega) ?_
  refine zsv (xs:=nm me.f) (i:=(nm me.f).length-1) rfl hnm.cells hnl (by omega) (by omega) ?_
  rw [last_at hk1]
  refine qc (s:=.any) (.agg (zh3 ⟨zjm (nm me.f),2,List.replicate 32 0⟩).toArray) (by rw [zh3,Bl.zhq (by simp)];exact bT2 _ _) ?_
  refine qj5 ⟨zjm (nm me.f),2,List.replicate 32 0⟩ rfl fun w8 hw8=>?_
  have hx8:Ext [] w6.heap w8.heap:=by rw [hw8];exact .push _
  have hb8:w8.heap[w6.heap.size]?=some (.cells (zh3 ⟨zjm (nm me.f),2,List.replicate 32 0⟩).toArray jl (0,0)):=by rw [hw8];exact zk
  have s6:W.heap.size < w6.heap.size:=lt_of_get he6
  have s8:w6.heap.size < w8.heap.size:=lt_of_get hb8
  have hx08:=hx6.trans hx8
  have he8:=hx8.get he6 (by simp)
  have hS8:DirSt w8.heap bk bd bb mk B S x' (Ls++(zaq (zf5 S (m+1)) ((kids S p).take i)).1):=h4.keep hx08 hB0 (by simp) (hx08.get h4.b (by simp)) (h4.blobs.ext hx08 (by simp))
  have hnm8:=hnm.ext hx8 (by simp)
  refine joinP_of (fun _ W'=>∃ x2:Option Addr×Nat×Nat,W'.heap[w6.heap.size]?=some (.cells (zh3 (zll (zf5 S (m+1)) me.f)).toArray jl (0,0))/\DirSt W'.heap bk bd bb mk B S x2 (Ls++(zaq (zf5 S (m+1)) ((kids S p).take (i+1))).1) /\
   Ext (w6.heap.size :: bb :: jw x') w8.heap W'.heap/\(∀ c∈jw x2,c∈jw x'\/w8.heap.size<=c)) ?_ ?_
  ·refine jg (s:=.bool) (t:=me.f.dir) rfl he8 rfl ?_
   cases hfd:me.f.dir with
   | true=>
    refine jh rfl ?_
    refine vw rfl fun w9 hw9=>?_
    have hx9:Ext [] w8.heap w9.heap:=by rw [hw9];exact .refl _ _
    have hS9:DirSt w9.heap bk bd bb mk B S x' (Ls++(zaq (zf5 S (m+1)) ((kids S p).take i)).1):=by rw [hw9];exact hS8
    refine jg (s:=.any) (t:=zuf bk bd bb) rfl hS9.d rfl ?_
    refine jg (s:=.slc) (t:=me.hdr) rfl (hx9.get he8 (by simp)) rfl ?_
    refine zh (zgg rfl (hnm8.ext hx9 (by simp)).cells hnl (zhi hnm) (by omega)) ?_
    rintro e w10 ⟨rfl,hx10⟩
    refine⟨strOf (x9 (nm me.f)),rfl,?_⟩
    have hx8_10:=hx9.trans hx10
    have hS10:DirSt w10.heap bk bd bb mk B S x' (Ls++(zaq (zf5 S (m+1)) ((kids S p).take i)).1):=hS8.keep hx8_10 hB0 (by simp) (hx8_10.get hS8.b (by simp)) (hS8.blobs.ext hx8_10 (by simp))
    refine⟨jg (s:=.any) (t:=zuf bk bd bb) rfl hS10.d rfl rfl,?_⟩
    have s10:=hx8_10.1
    have hlen2:(Ls++(zaq (zf5 S (m+1)) ((kids S p).take i)).1).length+(zf5 S (m+1) (nm me.f)).1.length<=500000000:=by
     have h:=hpre'
     rw [hstep] at h
     simp only [zmq,hfd,if_true,List.length_append] at h
     simp only [List.length_append]
     omega
    refine zon (args:=#[.string (strOf (x9 (nm me.f)))]) ?_
    refine (ih (w:=w10) (p:=nm me.f) rfl hS10 hB0 (by omega) (zk3 me.f) (by omega) hlen2).mono ?_
    rintro e w11 ⟨x2,rfl,hS11,hx11,hs11⟩
    refine⟨arr (zf5 S (m+1) (nm me.f)).2,rfl,?_⟩
    have hbN:w6.heap.size∉bb :: jw x':=fun h=>by
     rcases List.mem_cons.1 h with h | h
     ·omega
     ·have:=(x'lt _ h).1;omega
    have hb11:=hx11.get (hx8_10.get hb8 (by simp)) hbN
    refine zb8 rfl hb11 (by simp [zcc]) fun w12 hw12=>?_
    have hx12:Ext [w6.heap.size] w11.heap w12.heap:=by rw [hw12];exact Ext.set _ (by simp)
    have hb12:w12.heap[w6.heap.size]?=some (.cells (zh3 ⟨zjm (nm me.f),3,List.replicate 32 0⟩).toArray jl (0,0)):=by rw [hw12,<-qd7];exact qy hb11
    refine stD znu rfl hb12 (by simp [zcc]) fun w13 hw13=>?_
    rw [z9y znu] at hw13
    have hx13:Ext [w6.heap.size] w12.heap w13.heap:=by rw [hw13];exact Ext.set _ (by simp)
    have hit:zll (zf5 S (m+1)) me.f=⟨zjm (nm me.f),3,(zf5 S (m+1) (nm me.f)).2⟩:=by unfold zll;rw [hfd];rfl
    have hx1113:=hx12.trans hx13
    have hwne:w6.heap.size≠bb:=by omega
    refine⟨x2,by rw [hw13,hit];exact qy hb12,?_,?_,fun c hc=>?_⟩
    ·have hacc:Ls++(zaq (zf5 S (m+1)) ((kids S p).take (i+1))).1=Ls++(zaq (zf5 S (m+1)) ((kids S p).take i)).1++(zf5 S (m+1) (nm me.f)).1:=by
      rw [hstep]
      simp only [zmq,hfd,if_true,List.append_assoc]
     rw [hacc]
     have tag:∀ m'∈[w6.heap.size],m' < w11.heap.size->m'≠1/\∃ c T fr,w11.heap[m']?=some (.cells c T fr)/\(T=zai\/T=xk\/T=jl\/T=zu\/T=zf):=by
      intro m' hm _
      simp at hm;subst hm
      exact⟨by omega,_,_,_,hb11,.inr (.inr (.inl rfl))⟩
     refine hS11.keep hx1113 hB0 tag (hx1113.get hS11.b (by simp;omega)) (hS11.blobs.keep hx1113 fun m' hm c T fr hc=>?_)
     simp at hm;subst hm
     rw [hb11] at hc
     simp only [Option.some.injEq,Obj.cells.injEq] at hc
     rw [<-hc.2.1];exact⟨by decide,by decide⟩
    ·exact (hx8_10.mono (by simp)).trans ((hx11.mono fun c hc=>by simp at hc |-;right;exact hc).trans (hx1113.mono (by simp)))
    ·rcases hs11 c hc with h | h
     ·exact .inl h
     ·right;omega
   | false=>
    refine qp rfl ?_
    refine jg (s:=.slc) (t:=x') rfl hS8.b rfl ?_
    refine jg (s:=.str) (t:=strOf me.f.data) rfl he8 rfl ?_
    refine zh (qhx rfl hS8.blobs hB0 (by omega) hS8.rounds (by simp only [List.length_append];omega) hdf) ?_
    rintro e w14 ⟨x2,rfl,hB14,hx14,hs14⟩
    refine⟨(x2,arr (zkh me.f.data)),rfl,?_⟩
    have hbx':bb∉jw x':=by
     obtain⟨ys,q1,_⟩:=hS8.blobs
     intro h
     rcases q1 with⟨h',_⟩ | ⟨b',c2,hx1',_,hg,_⟩
     ·rw [h'] at h;simp [jw] at h
     ·simp [jw,hx1'] at h;subst h
      rw [hS8.b] at hg
      simp only [Option.some.injEq,Obj.cells.injEq] at hg
      exact absurd hg.2.1 (by decide)
    have hbb14:=hx14.get hS8.b hbx'
    refine zb8 rfl hbb14 (by simp) fun w15 hw15=>?_
    have hx15:Ext [bb] w14.heap w15.heap:=by rw [hw15];exact Ext.set _ (by simp)
    have hbb15:w15.heap[bb]?=some (.cells #[zdr x2] zai (0,0)):=by rw [hw15];exact qy hbb14
    have hwne:w6.heap.size≠bb:=by omega
    have hb15:=hx15.get (hx14.get hb8 (fun h=>by have:=(x'lt _ h).1;omega)) (by simp;omega)
    have hfs:(zkh me.f.data).length=32:=zbm
    refine stD hfs rfl hb15 (by simp [zcc]) fun w16 hw16=>?_
    rw [z9y hfs] at hw16
    have hx16:Ext [w6.heap.size] w15.heap w16.heap:=by rw [hw16];exact Ext.set _ (by simp)
    have hit:zll (zf5 S (m+1)) me.f=⟨zjm (nm me.f),2,zkh me.f.data⟩:=by unfold zll;rw [hfd];rfl
    have hxAll:Ext (w6.heap.size :: bb :: jw x') w8.heap w16.heap:=(hx14.mono fun c hc=>by simp [hc]).trans ((hx15.mono (by simp)).trans (hx16.mono (by simp)))
    refine⟨x2,by rw [hw16,hit];exact qy hb15,?_,hxAll,fun c hc=>?_⟩
    ·have hacc:Ls++(zaq (zf5 S (m+1)) ((kids S p).take (i+1))).1=Ls++(zaq (zf5 S (m+1)) ((kids S p).take i)).1++zix me.f.data:=by
      rw [hstep]
      simp only [zmq,hfd,Bool.false_eq_true,if_false,List.append_assoc]
     rw [hacc]
     refine hS8.keep hxAll hB0 (fun m' hm hlt=>?_) (hx16.get hbb15 (by simp;omega)) ?_
     ·rcases List.mem_cons.1 hm with rfl | hm
      ·exact⟨by omega,_,_,_,hb8,.inr (.inr (.inl rfl))⟩
      ·rcases List.mem_cons.1 hm with rfl | hm
       ·exact⟨fun h=>hS8.r0 h.symm,_,_,_,hS8.b,.inl rfl⟩
       ·refine⟨fun h=>by have:=hS8.blobs.ge _ hm;omega,?_⟩
        obtain⟨ys,q1,_⟩:=hS8.blobs
        rcases q1 with⟨h',_⟩ | ⟨b',c2,hx1',_,hg,_⟩
        ·rw [h'] at hm;simp [jw] at hm
        ·simp [jw,hx1'] at hm;subst hm
         exact⟨_,_,_,hg,.inr (.inl rfl)⟩
     ·refine (hB14.keep hx15 fun m' hm c T fr hc=>?_).keep hx16 fun m' hm c T fr hc=>?_
      ·simp at hm;subst hm
       rw [hbb14] at hc
       simp only [Option.some.injEq,Obj.cells.injEq] at hc
       rw [<-hc.2.1];exact⟨by decide,by decide⟩
      ·simp at hm;subst hm
       rw [hb15] at hc
       simp only [Option.some.injEq,Obj.cells.injEq] at hc
       rw [<-hc.2.1];exact⟨by decide,by decide⟩
    ·rcases hs14 c hc with h | h
     ·exact .inl h
     ·right;omega
  rintro _ W17 ⟨x2,hb17,hS17,hx17,hs17⟩
  have hni:∀ {k:Nat},H.size<=k->k < w3.heap.size->k∉w6.heap.size :: bb :: jw x':=fun hk hk' h=>by
   rcases List.mem_cons.1 h with h | h
   ·omega
   ·rcases List.mem_cons.1 h with h | h
    ·omega
    ·exact hHx' hk hk' h
  have hn17:=hx17.get (hx08.get h3 (by simp)) (hni (by omega) (by omega))
  refine jg (s:=.slc) (t:=xi) rfl hn17 rfl ?_
  refine xw rfl hb17 (by simp [zcc]) ?_
  have hm17:Mine W17.heap w3.heap.size jl 34 xi ((zaq (zf5 S (m+1)) ((kids S p).take i)).2.flatMap zh3):=(h6.ext hx08 (by simp)).ext hx17 (fun b hb h=>by
   rcases List.mem_cons.1 h with h | h
   ·have:=(zgt h6 b hb).1;omega
   ·rcases List.mem_cons.1 h with h | h
    ·have:=jo h6 b hb;omega
    ·exact h4.blobs.row h6 (by decide) b hb h)
  have s17:=hx17.1
  refine qga (i:=zll (zf5 S (m+1)) me.f) rfl hm17 (by omega) (by rw [z96];simp;omega) fun xi2 w19 hm19 hx19 hs19=>?_
  have hn19:=hx19.get hn17 (fun h=>by have:=jo h6 _ h;omega)
  refine zb8 rfl hn19 (by simp [zfb]) fun w20 hw20=>?_
  have hx20:Ext [w1.heap.size] w19.heap w20.heap:=by rw [hw20];exact Ext.set _ (by simp)
  have s19:=hx19.1
  have s20:=hx20.1
  have hacc2:(zaq (zf5 S (m+1)) ((kids S p).take (i+1))).2=(zaq (zf5 S (m+1)) ((kids S p).take i)).2++[zll (zf5 S (m+1)) me.f]:=by
   rw [htk,zit,zit,List.map_append];rfl
  have hx1720:Ext (w1.heap.size :: jw xi) W17.heap w20.heap:=(hx19.mono fun c hc=>by simp [hc]).trans (hx20.mono (by simp))
  have tag:∀ m'∈w1.heap.size :: jw xi,m' < W17.heap.size->m'≠1/\∃ c T fr,W17.heap[m']?=some (.cells c T fr)/\(T=zai\/T=xk\/T=jl\/T=zu\/T=zf):=by
   intro m' hm _
   rcases List.mem_cons.1 hm with rfl | hm
   ·exact⟨by omega,_,_,_,hn17,.inr (.inr (.inr (.inl rfl)))⟩
   ·refine⟨fun h=>by have:=jo h6 _ hm;omega,?_⟩
    rcases hm17 with⟨h',_⟩ | ⟨b',c2,hx1',_,hg,_⟩
    ·rw [h'] at hm;simp [jw] at hm
    ·simp [jw,hx1'] at hm;subst hm
     exact⟨_,_,_,hg,.inr (.inr (.inl rfl))⟩
  have hbb20:=hx1720.get hS17.b (fun h=>by
   rcases List.mem_cons.1 h with h | h
   ·omega
   ·have:=jo h6 _ h;omega)
  refine⟨x2,xi2,?_,by omega,?_,?_,?_,fun c hc=>?_,?_⟩
  ·have a1:Ext (bb :: jw x) H w8.heap:=h1.trans (hx08.mono (by simp))
   have a2:Ext (bb :: jw x) H W17.heap:=a1.own hx17 (fun c hc hlt=>by
    rcases List.mem_cons.1 hc with h | h
    ·omega
    ·rcases List.mem_cons.1 h with h | h
     ·simp [h]
     ·rcases h5 c h with h | h
      ·simp [h]
      ·omega)
   exact a2.own hx1720 (fun c hc hlt=>by
    rcases List.mem_cons.1 hc with h | h
    ·omega
    ·have:=jo h6 c h;omega)
  ·rw [hw20,hacc2];exact qy hn19
  ·exact hx1720.get (hx17.get (hx08.get h3d (by simp)) (hni (Nat.le_refl _) (by omega))) (fun h=>by
    rcases List.mem_cons.1 h with h | h
    ·omega
    ·have:=jo h6 _ h;omega)
  ·refine hS17.keep hx1720 hB0 tag hbb20 (hS17.blobs.keep hx1720 fun m' hm c T fr hc=>?_)
   obtain⟨_,c',T',fr',hc',ht⟩:=tag m' hm (lt_of_get hc)
   rcases List.mem_cons.1 hm with rfl | hm
   ·rw [hn17] at hc
    simp only [Option.some.injEq,Obj.cells.injEq] at hc
    rw [<-hc.2.1];exact⟨by decide,by decide⟩
   ·rcases hm17 with⟨h',_⟩ | ⟨b',c2,hx1',_,hg,_⟩
    ·rw [h'] at hm;simp [jw] at hm
    ·simp [jw,hx1'] at hm;subst hm
     rw [hc] at hg
     simp only [Option.some.injEq,Obj.cells.injEq] at hg
     rw [hg.2.1];exact⟨by decide,by decide⟩
  ·rcases hs17 c hc with h | h
   ·exact h5 c h
   ·right;omega
  ·rw [hacc2]
   exact hm19.ext hx20 (fun b hb h=>by simp at h;subst h;have:=jo hm19 _ hb;omega)
 ·obtain rfl:i=r.2.length:=by omega
  have htk:(kids S p).take r.2.length=kids S p:=by rw [hkl,List.take_length]
  rw [htk] at h3 h4 h6
  have h32:=qik (S:=S) hn hkm
  have hsm:=z9v (rec:=zf5 S n) (fun f hf=>(hkm f hf).1) (show (kids S p).length<=65536 by omega)
  have hel:=qdv hsm h32
  have hright:zdj (zf9 (zaq (zf5 S n) (kids S p)).2)=true:=by rw [zit];exact qao hSR hk64
  refine ji rfl fun w23 hw23=>?_
  have hx23:Ext [] W.heap w23.heap:=by rw [hw23];exact .push _
  have hd23:w23.heap[W.heap.size]?=some (.cells (zc P zf) zf (0,0)):=by rw [hw23];exact zk
  have s23:W.heap.size < w23.heap.size:=lt_of_get hd23
  have hS23:DirSt w23.heap bk bd bb mk B S x' (Ls++(zaq (zf5 S n) (kids S p)).1):=h4.keep hx23 hB0 (by simp) (hx23.get h4.b (by simp)) (h4.blobs.ext hx23 (by simp))
  refine jg (s:=.slc) (t:=x') rfl hS23.b rfl ?_
  refine xw rfl (hx23.get h3 (by simp)) rfl ?_
  have hli:xi.2.1=(zaq (zf5 S n) (kids S p)).2.length:=by
   have:=h6.len
   rw [xg zh3 zcc] at this
   omega
  have hNW:NodW w23.heap (zf9 (zaq (zf5 S n) (kids S p)).2) (none,0,0) xi:=⟨.inl rfl,rfl,(h6.ext hx23 (by simp)).cells,hli,by simp [zf9],h32⟩
  refine zh (z3m rfl hS23.blobs hB0 (by omega) hNW hright hS23.rounds (by simp only [List.length_append];omega) (by omega)) ?_
  rintro e w24 ⟨x2,rfl,hB24,hx24,hs24⟩
  refine⟨(x2,arr (zf5 S (n+1) p).2),rfl,?_⟩
  have hbx':bb∉jw x':=by
   obtain⟨ys,q1,_⟩:=h4.blobs
   intro h
   rcases q1 with⟨h',_⟩ | ⟨b',c2,hx1',_,hg,_⟩
   ·rw [h'] at h;simp [jw] at h
   ·simp [jw,hx1'] at h;subst h
    rw [h4.b] at hg
    simp only [Option.some.injEq,Obj.cells.injEq] at hg
    exact absurd hg.2.1 (by decide)
  have hbb24:=hx24.get hS23.b hbx'
  refine zb8 rfl hbb24 (by simp) fun w25 hw25=>?_
  have hx25:Ext [bb] w24.heap w25.heap:=by rw [hw25];exact Ext.set _ (by simp)
  have hbb25:w25.heap[bb]?=some (.cells #[zdr x2] zai (0,0)):=by rw [hw25];exact qy hbb24
  have hd25:=hx25.get (hx24.get hd23 (fun h=>by have:=(x'lt _ h).1;omega)) (by simp;omega)
  refine qea znu rfl hd25 zcD fun w26 hw26=>?_
  have hx26:Ext [W.heap.size] w25.heap w26.heap:=by rw [hw26];exact Ext.set _ (by simp)
  have hd26:w26.heap[W.heap.size]?=some (.cells (byteCells (zf5 S (n+1) p).2).toArray zf (0,0)):=by rw [hw26];exact qy hd25
  refine xw rfl hd26 (by simp [znu]) ?_
  have hr26:=hx26.get (hx25.get (hx24.get (hx23.get h3d (by simp)) (hHx' (Nat.le_refl _) (by omega))) (by simp;omega)) (by simp;omega)
  refine qea (k:=(zf5 S (n+1) p).2) znu rfl hr26 zcD fun w27 hw27=>?_
  have hx27:Ext [H.size] w26.heap w27.heap:=by rw [hw27];exact Ext.set _ (by simp)
  have hr27:w27.heap[H.size]?=some (.cells (byteCells (zf5 S (n+1) p).2).toArray zf (0,0)):=by rw [hw27];exact qy hr26
  refine xw rfl hr27 (by simp [znu]) ?_
  have hx2327:Ext (W.heap.size :: H.size :: bb :: jw x') w23.heap w27.heap:=(hx24.mono fun c hc=>by simp [hc]).trans ((hx25.mono (by simp)).trans ((hx26.mono (by simp)).trans (hx27.mono (by simp))))
  have hbb27:=hx27.get (hx26.get hbb25 (by simp;omega)) (by simp;omega)
  refine⟨x2,rfl,?_,?_,fun c hc=>?_⟩
  ·refine hS23.keep hx2327 hB0 (fun m' hm hlt=>?_) hbb27 ?_
   ·simp only [List.mem_cons] at hm
    rcases hm with rfl | rfl | rfl | hm
    ·exact⟨by omega,_,_,_,hd23,.inr (.inr (.inr (.inr rfl)))⟩
    ·exact⟨by omega,_,_,_,hx23.get h3d (by simp),.inr (.inr (.inr (.inr rfl)))⟩
    ·exact⟨fun h=>h4.r0 h.symm,_,_,_,hS23.b,.inl rfl⟩
    ·refine⟨fun h=>by have:=h4.blobs.ge _ hm;omega,?_⟩
     obtain⟨ys,q1,_⟩:=hS23.blobs
     rcases q1 with⟨h',_⟩ | ⟨b',c2,hx1',_,hg,_⟩
     ·rw [h'] at hm;simp [jw] at hm
     ·simp [jw,hx1'] at hm;subst hm
      exact⟨_,_,_,hg,.inr (.inl rfl)⟩
   ·have hB27:=((hB24.keep hx25 fun m' hm c T fr hc=>by
     simp at hm;subst hm
     rw [hbb24] at hc
     simp only [Option.some.injEq,Obj.cells.injEq] at hc
     rw [<-hc.2.1];exact⟨by decide,by decide⟩).keep hx26 fun m' hm c T fr hc=>by
     simp at hm;subst hm
     rw [hd25] at hc
     simp only [Option.some.injEq,Obj.cells.injEq] at hc
     rw [<-hc.2.1];exact⟨by decide,by decide⟩).keep hx27 fun m' hm c T fr hc=>by
     simp at hm;subst hm
     rw [hr26] at hc
     simp only [Option.some.injEq,Obj.cells.injEq] at hc
     rw [<-hc.2.1];exact⟨by decide,by decide⟩
    rw [List.append_assoc] at hB27
    exact hB27
  ·have a1:Ext (bb :: jw x) H w23.heap:=h1.trans (hx23.mono (by simp))
   exact a1.own hx2327 (fun c hc hlt=>by
    simp only [List.mem_cons] at hc
    rcases hc with h | h | h | h
    ·omega
    ·omega
    ·simp [h]
    ·rcases h5 c h with h | h
     ·simp [h]
     ·omega)
  ·rcases hs24 c hc with h | h
   ·rcases h5 c h with h | h
    ·exact .inl h
    ·right;omega
   ·right;omega
def qhz (f:Fil):Bool:=decide ((vg f.path).2≠0)
def zhc (L:List Fil):Int:=match L.find? qhz with | some f=>(vg f.path).2 | none=>0
def z3i (f:Fil):Bool:=f.dir&&!decide (f.data=[])
def z7v (f:Fil):Bool:=decide (1024 < f.data.length)
def za3 (L:List Fil):Int:=if zhc L≠0 then zhc L else if L.any z3i then 1 else if L.any z7v then 134 else 0
theorem zvc {L:List Fil}{i:Nat}{f:Fil}(hi:L[i]?=some f) (hf:(vg f.path).2≠0) (hb:∀ g∈L.take i,(vg g.path).2=0):zhc L=(vg f.path).2:=by
 have hil:=(List.getElem?_eq_some_iff.1 hi).1
 have e:L=L.take i++f :: L.drop (i+1):=by
  conv=>lhs;rw [<-List.take_append_drop i L]
  rw [List.drop_eq_getElem_cons hil,(List.getElem?_eq_some_iff.1 hi).2]
 unfold zhc
 rw [e,List.find?_append,List.find?_eq_none.2 (fun g hg=>by simp [qhz,hb g hg]),Option.none_or,List.find?_cons]
 have:qhz f=true:=by simp [qhz,hf]
 rw [this]
theorem zrl {L:List Fil}(hb:∀ g∈L,(vg g.path).2=0):zhc L=0:=by
 unfold zhc
 rw [List.find?_eq_none.2 (fun g hg=>by simp [qhz,hb g hg])]
theorem zd2 {L:List Fil}{i:Nat}{f:Fil}(hi:L[i]?=some f){q:Fil->Prop}(h:∀ g∈L.take i,q g) (hf:q f):∀ g∈L.take (i+1),q g:=by
 intro g hg
 rw [List.take_add_one,hi] at hg
 rcases List.mem_append.1 hg with hg | hg
 ·exact h g hg
 ·simp at hg;rw [hg];exact hf
theorem z9q {w:World}{H:Heap}{a:Option Addr}{n nc F:Nat}{L:List Fil}{g:Fil->Bool}(hw:w.heap=H) (hL:Cells H a (L.flatMap zb6)) (hn:n=L.length) (hm:L.length<=1099511627776)
  (hg:∀ (f:Fil) (w:World),qj P F #[.agg (zb6 f).toArray] w fun e w'=>e=.returned (.bool (g f))/\Ext [] w.heap w'.heap) :
  qj P zas #[.slice a n nc,.func (.func F) #[] #[]] w fun e w'=>e=.returned (.bool (L.any g))/\Ext [] H w'.heap:=by
 subst hn
 refine ze6 ?_
 unfold zcp
 have h:qj P zbn #[.slice a L.length nc,.func (.func F) #[] #[]] w fun e w'=>∃ k:Int,e=.returned (.int .i64 k)/\(0<=k ↔ L.any g=true)/\Ext [] H w'.heap:=by
  refine zfs ?_
  unfold zc7
  refine zae (fun (s:Int) W=>∃ i:Nat,s=(i:Int)/\i<=L.length/\(∀ f∈L.take i,g f=false)/\Ext [] H W.heap) (fun s _=>(L.length-s).toNat) ⟨0,rfl,Nat.zero_le _,by simp,by rw [hw];exact .refl _ _⟩ ?_
  rintro _ W ⟨i,rfl,hi,hno,hxW⟩
  refine zy (fun hlt=>?_) (fun hge=>?_)
  ·have hil:i < L.length:=by omega
   have hget:=List.getElem?_eq_getElem hil
   have hmem:L[i]∈L:=List.getElem_mem hil
   generalize L[i]=f at hget hmem
   refine zff (i:=i) zdz (by omega) rfl (hL.ext hxW (by simp)) rfl hget rfl ?_
   refine zon (args:=#[.agg (zb6 f).toArray]) (cap:=#[]) ?_
   refine (hg f W).mono ?_
   rintro e w2 ⟨rfl,hx2⟩
   refine⟨g f,rfl,?_⟩
   cases hgf:g f with
   | true=>exact jh rfl ⟨_,rfl,⟨fun _=>List.any_eq_true.2 ⟨f,hmem,hgf⟩,fun _=>by omega⟩,hxW.trans hx2⟩
   | false=>
    refine qp rfl ?_
    refine jr ((i+1:Nat):Int) (by omega) (by omega) (by omega) ?_
    exact⟨⟨i+1,rfl,by omega,zd2 (q:=fun f=>g f=false) hget hno hgf,hxW.trans hx2⟩,by omega⟩
  ·obtain rfl:i=L.length:=by omega
   rw [List.take_length] at hno
   refine⟨_,rfl,⟨fun h=>by omega,fun h=>?_⟩,hxW⟩
   obtain⟨f,hf,hgf⟩:=List.any_eq_true.1 h
   rw [hno f hf] at hgf;cases hgf
 refine zh h ?_
 rintro e w1 ⟨k,rfl,hk,hx⟩
 refine⟨k,rfl,?_⟩
 refine⟨?_,hx⟩
 congr 2
 rw [Bool.eq_iff_iff,<-hk]
 simp
theorem qn5 (f:Fil) (w:World):qj P zle #[.agg (zb6 f).toArray] w fun e w'=>e=.returned (.bool (z3i f))/\Ext [] w.heap w'.heap:=by
 refine zvt ?_
 unfold zpc
 refine ji rfl fun w1 hw1=>?_
 have hx1:Ext [] w.heap w1.heap:=by rw [hw1];exact .push _
 have hb1:w1.heap[w.heap.size]?=some (.cells (zb6 f).toArray zn (0,0)):=by rw [hw1];exact zk
 refine jg (s:=.bool) (t:=f.dir) rfl hb1 rfl ?_
 cases hd:f.dir with
 | false=>exact qp rfl ⟨by simp [z3i,hd],hx1⟩
 | true=>
  refine jh rfl ?_
  refine jg (s:=.str) (t:=strOf f.data) rfl hb1 rfl ?_
  refine⟨?_,hx1⟩
  congr 2
  rw [z3i,hd,Bool.true_and]
  congr 1
  rw [Bool.eq_iff_iff,zg6,decide_eq_true_eq]
theorem qn3 (f:Fil) (w:World):qj P zlh #[.agg (zb6 f).toArray] w fun e w'=>e=.returned (.bool (z7v f))/\Ext [] w.heap w'.heap:=by
 refine zvy ?_
 unfold zpg
 refine ji rfl fun w1 hw1=>?_
 have hx1:Ext [] w.heap w1.heap:=by rw [hw1];exact .push _
 have hb1:w1.heap[w.heap.size]?=some (.cells (zb6 f).toArray zn (0,0)):=by rw [hw1];exact zk
 refine jg (s:=.str) (t:=strOf f.data) rfl hb1 rfl ?_
 refine⟨?_,hx1⟩
 congr 2
 unfold z7v
 rw [Bool.eq_iff_iff]
 simp
 omega
theorem uSE:P.underlying zaz=some (.slice xq):=by kernel_rfl
theorem EEn:Elem P xq 4 64:=zii (z:=.agg (zjc ⟨(none,0,0),⟨[],false,[]⟩⟩).toArray) (by kernel_rfl) rfl
theorem bE (x:Option Addr×Nat×Nat) (p d:ByteArray) (b:Bool) (w:World):(Instr.build xq #[(0,.slice x.1 x.2.1 x.2.2),(1,.agg #[.string p,.bool b,.string d])]).run P w=.ok (.agg #[.slice x.1 x.2.1 x.2.2,.string p,.bool b,.string d]) w:=by kernel_rfl
theorem z9z {w:World}{H:Heap}{B:Nat}{x:Option Addr×Nat×Nat}{T:List ME}{i:ME}(hw:w.heap=H) (hm:Mine H B xq 4 x (T.flatMap zjc)) (hBs:B<=H.size) (hlen:T.length<=1073741824){K:(Option Addr×Nat×Nat)->World->Prop}
  (hK:∀ x' w',Mine w'.heap B xq 4 x' ((T++[i]).flatMap zjc)->Ext (jw x) H w'.heap->(∀ c∈jw x',c∈jw x\/H.size<=c)->x'.2.1=T.length+1->K x' w') :
  za2 P (Instr.buildSlice zaz 1 #[(0,.agg (zjc i).toArray)]) .slc w fun (t27:(Option Addr×Nat×Nat)) w_13=>
  za2 P (Builtin.append_ #[zaz,zaz] zaz #[(Value.slice x.1 x.2.1 x.2.2),(Value.slice t27.1 t27.2.1 t27.2.2)]) .slc w_13 K:=by
 have hlx:x.2.1=T.length:=by
  have:=hm.len
  rw [xg zjc zim] at this
  omega
 refine zaf (s:=.slc) (some ⟨w.heap.size,0,none⟩,1,1) _ (zee EEn uSE (v:=.agg (zjc i).toArray) (by simp [Value.cells,zjc]) (by omega) (by omega)) ?_
 subst hw
 have hxp:Ext [] w.heap (w.heap.push (.cells (Value.agg (zjc i).toArray).cells xq)):=.push _
 refine zbx (bts:=64) (n:=1) (us:=zjc i) (H:=w.heap.push (.cells (Value.agg (zjc i).toArray).cells xq)) EEn (by omega) uSE (zar uSE) rfl (hm.ext hxp (by simp)) (by simp;omega)
  (Src.slc rfl (.inr ⟨w.heap.size,0,_,_,_,rfl,zk,by simp [zis],by simp [zis,List.take_of_length_le]⟩) (by rw [zim])) zzb (by omega) ?_
 intro x' w4 hm4 hl4 hx4 hs4
 have hm4':Mine w4.heap B xq 4 x' ((T++[i]).flatMap zjc):=by rw [List.flatMap_append,List.flatMap_singleton];exact hm4
 refine hK x' w4 hm4' ((hxp.mono (by simp)).trans hx4) (fun c hc=>?_) ?_
 ·rcases hs4 c hc with h | h
  ·exact .inl h
  ·right;have:=hxp.1;omega
 ·have:=hm4'.len
  rw [xg zjc zim] at this
  simp at this;omega
set_option maxHeartbeats 4000000 in
theorem qeo {w:World}{H:Heap}{a:Option Addr}{n nc:Nat}{L:List Fil}(hw:w.heap=H) (hL:Cells H a (L.flatMap zb6)) (hn:n=L.length) (hm:L.length<=65536) :
  qj P znv #[.slice a n nc] w fun e w'=>∃ x,e=.returned (.tuple #[zdr x,.int .i64 (za3 L)])/\Ext [] H w'.heap/\(za3 L=0->∃ ms:List ME,ms.map (·.f)=L/\Mine w'.heap H.size xq 4 x (ms.flatMap zjc)/\∀ m∈ms,zpn w'.heap m):=by
 subst hn
 refine zz6 ?_
 unfold ztu
 refine zae (fun (s:(Option Addr×Nat×Nat)×Int) W=>∃ (i:Nat) (ms:List ME),s.2=(i:Int)/\i<=L.length/\(∀ f∈L.take i,(vg f.path).2=0)/\Ext [] H W.heap/\ms.map (·.f)=L.take i/\Mine W.heap H.size xq 4 s.1 (ms.flatMap zjc)/\∀ m∈ms,zpn W.heap m) (fun s _=>(L.length-s.2).toNat)
  ⟨0,[],rfl,Nat.zero_le _,by simp,by rw [hw];exact .refl _ _,by simp,.inl ⟨rfl,rfl⟩,by simp⟩ ?_
 rintro ⟨x,_⟩ W ⟨i,ms,rfl,hi,hok,hxW,hms,hmW,hnW⟩
 have hml:ms.length=i:=by have:=congrArg List.length hms;simp at this;omega
 refine zy (fun hlt=>?_) (fun hge=>?_)
 ·have hil:i < L.length:=by simp only at hlt;omega
  have hget:=List.getElem?_eq_getElem hil
  generalize L[i]=f at hget
  refine zff (i:=i) zdz (by omega) rfl (hL.ext hxW (by simp)) rfl hget rfl ?_
  refine qhj f rfl fun w3 hw3=>?_
  have hx3:Ext [] W.heap w3.heap:=by rw [hw3];exact .push _
  have hb3:w3.heap[W.heap.size]?=some (.cells (zb6 f).toArray zn (0,0)):=by rw [hw3];exact zk
  refine jg (s:=.str) (t:=strOf f.path) rfl hb3 rfl ?_
  refine zh (zma f.path rfl) ?_
  rintro e w4 ⟨y,rfl,hm4,hx4⟩
  refine⟨(y,(vg f.path).2),rfl,?_⟩
  have hx04:=hx3.trans hx4
  refine zbr (fun hne=>?_) (fun hz=>?_)
  ·have hfb:=zvc hget hne hok
   have hpc:za3 L=(vg f.path).2:=by unfold za3;rw [hfb,if_pos hne]
   exact⟨(none,0,0),by rw [hpc];rfl,hxW.trans hx04,fun h=>absurd (by rw [<-hpc,h]) hne⟩
  ·have hz:(vg f.path).2=0:=hz
   refine xw rfl (hx4.get hb3 (by simp)) rfl ?_
   refine qc (s:=.any) (.agg (zjc ⟨y,f⟩).toArray) (bE _ _ _ _ _) ?_
   have s04:=hx04.1
   have s0W:=hxW.1
   refine z9z (i:=⟨y,f⟩) rfl (hmW.ext hx04 (by simp)) (by omega) (by omega) fun x' w6 hm6 hx6 hs6 _=>?_
   have hx06:Ext [] H w6.heap:=qgz (hxW.trans hx04) (hmW.ext hx04 (by simp)) (Nat.le_refl _) hx6
   refine jr ((i+1:Nat):Int) (by simp) (by omega) (by omega) ?_
   refine⟨⟨i+1,ms++[⟨y,f⟩],rfl,by omega,zd2 (q:=fun f=>(vg f.path).2=0) hget hok hz,hx06,?_,hm6,fun m hm=>?_⟩,by simp only;omega⟩
   ·rw [List.map_append,hms,List.take_add_one,hget];rfl
   ·have hxx:=hmW.ext hx04 (by simp)
    rcases List.mem_append.1 hm with hm | hm
    ·exact ((hnW m hm).ext hx04 (by simp)).ext hx6 (zf0 ((hnW m hm).ext hx04 (by simp)) hxx (by decide))
    ·simp only [List.mem_singleton] at hm
     subst hm
     exact (hm4.ext hx6 (zf0 hm4 hxx (by decide))).mono (Nat.zero_le _)
 ·obtain rfl:i=L.length:=by simp only at hge;omega
  rw [List.take_length] at hok hms
  have hfb:=zrl hok
  refine zh (z9q (g:=z3i) rfl (hL.ext hxW (by simp)) rfl (by omega) qn5) ?_
  rintro e w7 ⟨rfl,hx7⟩
  refine⟨L.any z3i,rfl,?_⟩
  cases h1:L.any z3i with
  | true=>
   have hpc:za3 L=1:=by unfold za3;rw [hfb,h1];rfl
   exact jh rfl ⟨(none,0,0),by rw [hpc];rfl,hxW.trans hx7,fun h=>by rw [hpc] at h;cases h⟩
  | false=>
   refine qp rfl ?_
   refine zh (z9q (g:=z7v) rfl (hL.ext (hxW.trans hx7) (by simp)) rfl (by omega) qn3) ?_
   rintro e w8 ⟨rfl,hx8⟩
   refine⟨L.any z7v,rfl,?_⟩
   cases h2:L.any z7v with
   | true=>
    have hpc:za3 L=134:=by unfold za3;rw [hfb,h1,h2];rfl
    exact jh rfl ⟨(none,0,0),by rw [hpc];rfl,(hxW.trans hx7).trans hx8,fun h=>by rw [hpc] at h;cases h⟩
   | false=>
    have hpc:za3 L=0:=by unfold za3;rw [hfb,h1,h2];rfl
    have hx78:=hx7.trans hx8
    exact qp rfl ⟨x,by rw [hpc];rfl,hxW.trans hx78,fun _=>⟨ms,hms,hmW.ext hx78 (by simp),fun m hm=>(hnW m hm).ext hx78 (by simp)⟩⟩
end Go.Proofs.YthaaekcaaecdeaaGreatDoor
namespace Go.Fw
open Go Go.Proofs Go.Shelf Go.RowKit Go.Lib Go.Sort
variable {P:Program}{ρ:Ren}{α:Type} [Inhabited α]
theorem qha (L:SlLaysF0.n6 P ρ){k:Nat}(aE:∀ w,(isAgg (ρ.t 24)).run P w=.ok true w) (zE:∀ w,(Go.sizeOf (ρ.t 24)).run P w=.ok k w) (enc:α->List Value) (hk:∀ x,(enc x).length=k) (h0:0 < k)
  (h1:∀ x,∀ v∈enc x,v.oneCell'=true) (cf:α->α->Int) (hO:SWO (ltOf cf)){g:Nat}(eg:∀ args w,(callFunc g args).run P w=.ok (.enter g args) w) (e6:∀ args w,(callFunc (ρ.f 6) args).run P w=.ok (.enter (ρ.f 6) args) w)
  {w:World}{H:Heap}(hw:w.heap=H){B:Nat}{T:TypeId}{x:Option Addr×Nat×Nat}{xs:List α}
  (hcmp:∀ (W:World) y z,Ext (jw x) H W.heap->qj P g #[.agg (enc y).toArray,.agg (enc z).toArray] W fun e W'=>e=.returned (.int .i64 (cf y z))/\Ext [] W.heap W'.heap) (hM:Mine H B T k x (xs.flatMap enc)) (hlen:xs.length < 4611686018427387904) :
  qj P (ρ.f 6) #[.slice x.1 x.2.1 x.2.2,.func (.func g) #[] #[]] w fun e w'=>e=.returned (.tuple #[])/\∃ ys:List α,ys.Perm xs/\ys.Pairwise (fun a b=>¬cf b a < 0)/\Mine w'.heap B T k x (ys.flatMap enc)/\Ext (jw x) H w'.heap:=by
 subst hw
 have hl:=hM.len
 rw [xg enc hk] at hl
 have hxl:x.2.1=xs.length:=(Nat.eq_of_mul_eq_mul_right h0 hl).symm
 refine⟨e6 _ _,?_⟩
 rcases hM with⟨rfl,hnil⟩ | ⟨b,c,hx1,hB,hb,hc,hl2,hle,he⟩
 ·clear hxl hl
  have hx0:xs=[]:=by
   have:=congrArg List.length hnil
   rw [xg enc hk,List.length_nil] at this
   rcases Nat.mul_eq_zero.1 this with h | h
   ·exact List.eq_nil_of_length_eq_zero h
   ·omega
  refine (AnyF.slices_SortFunc_none L none 0 _ w).mono ?_
  rintro e w' ⟨he,hw'⟩
  subst hw'
  exact⟨⟨he,[],by rw [hx0],.nil,.inl ⟨rfl,rfl⟩,.refl _ _⟩,.refl _⟩
 ·obtain⟨xa,xl,xc⟩:=x
  simp only at hx1 hxl hc hl2 hle
  subst hx1 hxl
  have hlt:b < w.heap.size:=lt_of_get hb
  have hcl:xs.length * k<=c.size:=by rw [hc];exact Nat.mul_le_mul_right k hle
  have hget:∀ t,t < xs.length * k->c[t]?=(xs.flatMap enc)[t]?:=by
   intro t ht
   rw [<-he,Array.getElem?_toList,Array.getElem?_extract]
   rw [if_pos (by rw [xg enc hk];omega)]
   simp
  have hH:HoldsK enc k w b 0 xs.toArray:=by
   intro j hj
   simp only [size_flatK,List.size_toArray] at hj
   have h2:=zsb enc hk h0 xs.toArray j (by simpa using hj)
   refine⟨?_,?_⟩
   ·rw [Nat.zero_add,zrf rfl hb,hget j hj]
    simpa using h2
   ·exact zq6 rfl hb
  have hgen:∀ (m:Nat) (os:Array Obj) (dk:Array α),(sortWorldK enc k w b 0 m dk os).heap=(w.heap.setIfInBounds b (.cells (putCells id 0 (flatK enc k dk) c) T (0,0)))++os:=by
   intro m os dk
   unfold sortWorldK grow putRowK putRow mapBlock
   simp only [Sort.ahead]
   congr 1
   apply Array.ext_getElem?
   intro i
   rw [Array.getElem?_modify]
   by_cases hib:b=i
   ·subst hib
    simp only [if_pos,Array.getElem?_setIfInBounds_self_of_lt hlt,hb,Option.map_some]
    rfl
   ·rw [if_neg hib,Array.getElem?_setIfInBounds_ne hib]
  have hextg:∀ (m:Nat) (os:Array Obj) (dk:Array α),Ext (jw (some ⟨b,0,none⟩,xs.length,xc)) w.heap (sortWorldK enc k w b 0 m dk os).heap:=by
   intro m os dk
   rw [hgen]
   refine⟨by simp,fun i hi hn=>?_⟩
   rw [Array.getElem?_append_left (by simpa using hi)]
   exact Array.getElem?_setIfInBounds_ne (by rintro rfl;exact hn (by simp [jw]))
  have hcon:=AnyQ.slices_SortFunc L k aE zE enc hk h1 cf hO g #[] b 0 xc xs.toArray w eg (fun m os dk _ x y=>?_) hH hlt (by simpa using hlen)
  ·simp only [List.size_toArray] at hcon
   refine hcon.mono ?_
   rintro e w' ⟨rfl,d',n,os,hp,hs,rfl⟩
   obtain⟨hps,_,hpp⟩:=hp
   have hps':d'.size=xs.length:=by simpa using hps
   have hperm:d'.toList.Perm xs:=by
    have h3:(d'.extract 0 xs.length).toList=d'.toList:=by
     simp only [Array.toList_extract,List.extract_eq_take_drop,List.drop_zero,Nat.sub_zero]
     exact List.take_of_length_le (by simp [hps'])
    have h4:((xs.toArray).extract 0 xs.length).toList=xs:=by simp
    rw [h3,h4] at hpp
    exact hpp
   have hsort:d'.toList.Pairwise (fun a b=>¬cf b a < 0):=by
    rw [List.pairwise_iff_getElem]
    intro i j hi hj hij
    have:=hs i j (Nat.zero_le _) hij (by simpa [hps'] using hj)
    simp only [ltOf,decide_eq_false_iff_not] at this
    rw [getElem!_pos d' j (by simpa using hj),getElem!_pos d' i (by simpa using hi)] at this
    simpa using this
   have hheap:(sortWorldK enc k w b 0 n d' os).heap=(w.heap.setIfInBounds b (.cells (putCells id 0 (flatK enc k d') c) T (0,0)))++os:=by
    unfold sortWorldK grow putRowK putRow mapBlock
    simp only [Sort.ahead]
    congr 1
    apply Array.ext_getElem?
    intro i
    rw [Array.getElem?_modify]
    by_cases hib:b=i
    ·subst hib
     simp only [if_pos,Array.getElem?_setIfInBounds_self_of_lt hlt,hb,Option.map_some]
     rfl
    ·rw [if_neg hib,Array.getElem?_setIfInBounds_ne hib]
   have hsz:(putCells id 0 (flatK enc k d') c).size=c.size:=by simp [putCells]
   have hext:Ext (jw (some ⟨b,0,none⟩,xs.length,xc)) w.heap (sortWorldK enc k w b 0 n d' os).heap:=by
    rw [hheap]
    refine⟨by simp,fun i hi hn=>?_⟩
    rw [Array.getElem?_append_left (by simpa using hi)]
    exact Array.getElem?_setIfInBounds_ne (by rintro rfl;exact hn (by simp [jw]))
   refine⟨⟨rfl,d'.toList,hperm,hsort,.inr ⟨b,_,rfl,hB,?_,hsz.trans hc,?_,hle,?_⟩,hext⟩,?_⟩
   ·rw [hheap,Array.getElem?_append_left (by simpa using hlt),Array.getElem?_setIfInBounds_self_of_lt hlt]
   ·rw [xg enc hk];simp [hps']
   ·apply List.ext_getElem?
    intro t
    rw [Array.getElem?_toList,Array.getElem?_extract,xg enc hk]
    simp only [Array.length_toList,hps']
    by_cases ht:t < xs.length * k
    ·rw [if_pos (by omega)]
     have h5:=zsb enc hk h0 d' t (by rw [hps'];exact ht)
     rw [h5]
     have h6:t < c.size:=by omega
     simp only [putCells,Nat.zero_add,Array.getElem?_mapIdx,Array.getElem?_eq_getElem h6,Option.map_some]
     rw [if_pos ⟨Nat.zero_le _,by simp [hps',ht]⟩]
     rfl
    ·rw [if_neg (by omega),List.getElem?_eq_none (by rw [xg enc hk];simp [hps'];omega)]
   ·unfold sortWorldK grow putRowK putRow mapBlock
    exact⟨rfl,rfl,rfl,by simp [Sort.ahead]⟩
  ·have h:=(hcmp (sortWorldK enc k w b 0 m dk os) x y (hextg m os dk)).2
   exact h.mono fun e W' ⟨⟨he,hx⟩,hc⟩=>⟨he,grown_of hx hc⟩
end Go.Fw
namespace Go.Proofs
open Go.Shelf
def Tryz.sortE_ren:Go.Shelf.Ren:=⟨fun | 6=>74 | 15=>127 | 14=>134 | 28=>179 | 29=>180 | 20=>185 | 21=>186 | 22=>187 | 23=>188 | 24=>189 | 25=>190 | 26=>191 | 27=>192 | 46=>223 | 47=>218 | 48=>219 | 49=>224 | 50=>225 | 57=>246 | n=>n,fun | 22=>91 | 24=>103 | 25=>171 | 3=>3 | 39=>155 | 0=>0 | 53=>298 | 55=>147 | 4=>4 | 46=>306 | 45=>305 | 50=>310 | 5=>5 | 9=>9 | 66=>339 | 70=>342 | 76=>359 | 77=>360 | n=>n,fun | n=>n⟩
theorem Tryz.sortE:Go.Proofs.SlLaysF0.n6 Tryz.prog Tryz.sortE_ren:={
 mixed:=by kernel_rfl
 f6:=⟨Tryz.f74.name,by decide,Tryz.func74.trans (congrArg some (by kernel_rfl))⟩
 f14:=⟨Tryz.f134.name,by decide,Tryz.func134.trans (congrArg some (by kernel_rfl))⟩
 f15:=Tryz.func127.trans (congrArg some (by kernel_rfl))
 f20:=⟨Tryz.f185.name,by decide,Tryz.func185.trans (congrArg some (by kernel_rfl))⟩
 f21:=⟨Tryz.f186.name,by decide,Tryz.func186.trans (congrArg some (by kernel_rfl))⟩
 f22:=⟨Tryz.f187.name,by decide,Tryz.func187.trans (congrArg some (by kernel_rfl))⟩
 f23:=⟨Tryz.f188.name,by decide,Tryz.func188.trans (congrArg some (by kernel_rfl))⟩
 f24:=⟨Tryz.f189.name,by decide,Tryz.func189.trans (congrArg some (by kernel_rfl))⟩
 f25:=⟨Tryz.f190.name,by decide,Tryz.func190.trans (congrArg some (by kernel_rfl))⟩
 f26:=⟨Tryz.f191.name,by decide,Tryz.func191.trans (congrArg some (by kernel_rfl))⟩
 f27:=⟨Tryz.f192.name,by decide,Tryz.func192.trans (congrArg some (by kernel_rfl))⟩
 f28:=Tryz.func179.trans (congrArg some (by kernel_rfl))
 f29:=Tryz.func180.trans (congrArg some (by kernel_rfl))
 f46:=⟨Tryz.f223.name,by decide,Tryz.func223.trans (congrArg some (by kernel_rfl))⟩
 f47:=Tryz.func218.trans (congrArg some (by kernel_rfl))
 f48:=Tryz.func219.trans (congrArg some (by kernel_rfl))
 f49:=⟨Tryz.f224.name,by decide,Tryz.func224.trans (congrArg some (by kernel_rfl))⟩
 f50:=⟨Tryz.f225.name,by decide,Tryz.func225.trans (congrArg some (by kernel_rfl))⟩
 f57:=⟨Tryz.f246.name,by decide,Tryz.func246.trans (congrArg some (by kernel_rfl))⟩
 t0:=Tryz.underlying0
 a0:=Tryz.isAgg0
 z0:=Tryz.sizeOf0
 v0:=Tryz.zeroValue0
 t3:=Tryz.underlying3
 a3:=Tryz.isAgg3
 z3:=Tryz.sizeOf3
 v3:=Tryz.zeroValue3
 t4:=Tryz.underlying4
 a4:=Tryz.isAgg4
 z4:=Tryz.sizeOf4
 v4:=Tryz.zeroValue4
 t5:=Tryz.underlying5
 a5:=Tryz.isAgg5
 z5:=Tryz.sizeOf5
 v5:=Tryz.zeroValue5
 t9:=Tryz.underlying9
 a9:=Tryz.isAgg9
 z9:=Tryz.sizeOf9
 v9:=Tryz.zeroValue9
 t22:=Tryz.underlying91
 a22:=Tryz.isAgg91
 z22:=Tryz.sizeOf91
 v22:=Tryz.zeroValue91
 t25:=Tryz.underlying171
 a25:=Tryz.isAgg171
 z25:=Tryz.sizeOf171
 v25:=Tryz.zeroValue171
 t39:=Tryz.underlying155
 a39:=Tryz.isAgg155
 z39:=Tryz.sizeOf155
 v39:=Tryz.zeroValue155
 t45:=Tryz.underlying305
 a45:=Tryz.isAgg305
 z45:=Tryz.sizeOf305
 v45:=Tryz.zeroValue305
 t46:=Tryz.underlying306
 a46:=Tryz.isAgg306
 z46:=Tryz.sizeOf306
 v46:=Tryz.zeroValue306
 t50:=Tryz.underlying310
 a50:=Tryz.isAgg310
 z50:=Tryz.sizeOf310
 v50:=Tryz.zeroValue310
 t53:=Tryz.underlying298
 a53:=Tryz.isAgg298
 z53:=Tryz.sizeOf298
 v53:=Tryz.zeroValue298
 t55:=Tryz.underlying147
 a55:=Tryz.isAgg147
 z55:=Tryz.sizeOf147
 v55:=Tryz.zeroValue147
 t66:=Tryz.underlying339
 a66:=Tryz.isAgg339
 z66:=Tryz.sizeOf339
 v66:=Tryz.zeroValue339
 t70:=Tryz.underlying342
 a70:=Tryz.isAgg342
 z70:=Tryz.sizeOf342
 v70:=Tryz.zeroValue342
 t76:=Tryz.underlying359
 a76:=Tryz.isAgg359
 z76:=Tryz.sizeOf359
 v76:=Tryz.zeroValue359
 t77:=Tryz.underlying360
 a77:=Tryz.isAgg360
 z77:=Tryz.sizeOf360
 v77:=Tryz.zeroValue360 }
end Go.Proofs
namespace Go.Proofs.YthaaekcaaecdeaaGreatDoor
open Go Go.Fw Go.Proofs Go.Sort
theorem qdq {W:World}{y z:ME}(hy:zpn W.heap y) (hz:zpn W.heap z):qj P zgc #[.agg (zjc y).toArray,.agg (zjc z).toArray] W fun e W'=>e=.returned (.int .i64 (zeb (nm y.f) (nm z.f)))/\Ext [] W.heap W'.heap:=by
 refine zwp ?_
 unfold zo9
 refine ji rfl fun w1 hw1=>?_
 have hx1:Ext [] W.heap w1.heap:=by rw [hw1];exact .push _
 have hb1:w1.heap[W.heap.size]?=some (.cells (zjc y).toArray xq (0,0)):=by rw [hw1];exact zk
 refine ji rfl fun w2 hw2=>?_
 have hx2:Ext [] w1.heap w2.heap:=by rw [hw2];exact .push _
 have hb2:w2.heap[w1.heap.size]?=some (.cells (zjc z).toArray xq (0,0)):=by rw [hw2];exact zk
 have hx:=hx1.trans hx2
 have hyl:y.hdr.2.1=(nm y.f).length:=by have:=Mine.len hy;simp at this;omega
 have hzl:z.hdr.2.1=(nm z.f).length:=by have:=Mine.len hz;simp at this;omega
 have h8:=(zk3 y.f).2
 refine jg (s:=.slc) (t:=y.hdr) rfl (hx2.get hb1 (by simp)) rfl ?_
 refine jg (s:=.slc) (t:=z.hdr) rfl hb2 rfl ?_
 refine zh (z0n rfl (Mine.ext hy hx (by simp)).cells hyl (Mine.ext hz hx (by simp)).cells hzl (by omega)) ?_
 rintro e w3 ⟨rfl,hw3⟩
 refine⟨zeb (nm y.f) (nm z.f),rfl,?_⟩
 exact⟨rfl,by rw [hw3];exact hx⟩
theorem qfy {w:World}{H:Heap}{B:Nat}{x:Option Addr×Nat×Nat}{ms:List ME}(hw:w.heap=H) (hM:Mine H B xq 4 x (ms.flatMap zjc)) (hn:∀ m∈ms,zpn H m) (hne:ms≠[]) (hlen:ms.length < 4611686018427387904) :
  qj P zco #[.slice x.1 x.2.1 x.2.2,.func (.func zgc) #[] #[]] w fun e w'=>e=.returned (.tuple #[])/\∃ ys:List ME,ys.Perm ms/\ys.Pairwise (fun a b=>¬zeb (nm b.f) (nm a.f) < 0)/\Mine w'.heap B xq 4 x (ys.flatMap zjc)/\Ext (jw x) H w'.heap:=by
 obtain⟨m0,hm0⟩:=List.exists_mem_of_ne_nil _ hne
 let α:={ m:ME // m∈ms }
 haveI:Inhabited α:=⟨⟨m0,hm0⟩⟩
 have hflat:ms.flatMap zjc=ms.attach.flatMap fun (m:α)=>zjc m.1:=by
  conv=>lhs;rw [<-List.attach_map_subtype_val ms]
  rw [List.flatMap_map]
 rw [hflat] at hM
 have h:=qha (α:=α) Tryz.sortE (k:=4) (fun w=>by kernel_rfl) (fun w=>by kernel_rfl) (fun m=>zjc m.1) (fun m=>zim m.1) (by omega) (fun m=>zzb) (fun a b=>zeb (nm a.1.f) (nm b.1.f)) (z5q (α:=α) (fun m=>nm m.1.f)) (g:=zgc) (fun args w=>by kernel_rfl) (fun args w=>by kernel_rfl)
  (w:=w) (H:=H) (x:=x) (xs:=ms.attach) hw (fun W y z hx=>by
   have hk:∀ m:α,zpn W.heap m.1:=fun m=>Mine.ext (hn m.1 m.2) hx (zf0 (hn m.1 m.2) hM (by decide))
   exact qdq (hk y) (hk z)) hM (by rw [List.length_attach];exact hlen)
 refine h.mono ?_
 rintro e w' ⟨rfl,ys,hp,hs,hm,hx⟩
 refine⟨rfl,ys.map Subtype.val,?_,?_,?_,hx⟩
 ·have:=hp.map Subtype.val
  rw [List.attach_map_subtype_val] at this
  exact this
 ·rw [List.pairwise_map];exact hs
 ·rw [List.flatMap_map];exact hm
def zzu (L:List Fil):Prop:=∃ i,∃ h:i < L.length,nm L[i]=[]\/∃ g∈L.take i,nm g=nm L[i]
def z9h (L:List Fil):Prop:=∃ f∈L,(nm f).dropLast≠[]/\∀ g∈L,nm g≠(nm f).dropLast
def zxx (L:List Fil):Prop:=∃ f∈L,∃ g∈L,nm g=(nm f).dropLast/\g.dir=false
def qcj (L:List Fil):Prop:=∃ f∈L,64 < (kids L (nm f).dropLast).length
open Classical in
noncomputable def zcn (L:List Fil):Int:=if zzu L then 5 else if z9h L then 4 else if zxx L then 70 else if qcj L then 8 else 0
theorem z4d {L:List Fil}(h:zzu L):zcn L=5:=by unfold zcn;rw [if_pos h]
theorem z3q {L:List Fil}(h5:¬zzu L) (h:z9h L):zcn L=4:=by unfold zcn;rw [if_neg h5,if_pos h]
theorem zy5 {L:List Fil}(h5:¬zzu L) (h4:¬z9h L) (h:zxx L):zcn L=70:=by unfold zcn;rw [if_neg h5,if_neg h4,if_pos h]
theorem z3y {L:List Fil}(h5:¬zzu L) (h4:¬z9h L) (h70:¬zxx L) (h:qcj L):zcn L=8:=by unfold zcn;rw [if_neg h5,if_neg h4,if_neg h70,if_pos h]
theorem zza {L:List Fil}(h5:¬zzu L) (h4:¬z9h L) (h70:¬zxx L) (h:¬qcj L):zcn L=0:=by unfold zcn;rw [if_neg h5,if_neg h4,if_neg h70,if_neg h]
theorem zm3 {L:List Fil}(h:¬zzu L):(L.map nm).Nodup/\∀ f∈L,nm f≠[]:=by
 constructor
 ·rw [List.nodup_iff_pairwise_ne,List.pairwise_map,List.pairwise_iff_getElem]
  intro i j hi hj hij e
  exact h ⟨j,hj,.inr ⟨L[i],List.mem_take_iff_getElem.2 ⟨i,by omega,rfl⟩,e⟩⟩
 ·intro f hf e
  obtain⟨i,hi,rfl⟩:=List.getElem_of_mem hf
  exact h ⟨i,hi,.inl e⟩
theorem zwg {A B:List Fil}(h:A.Perm B) (p:Path):(kids A p).Perm (kids B p):=h.filter _
theorem qdf {L:List Fil}(h5:¬zzu L) (h8:¬qcj L) (p:Path):(kids (zjl L) p).length<=64:=by
 rw [(zwg (zlt (zm3 h5).1).1 p).length_eq]
 by_cases hk:kids L p=[]
 ·rw [hk];simp
 ·obtain⟨f,hf⟩:=List.exists_mem_of_ne_nil _ hk
  obtain⟨h1,h2,h3⟩:=zjv hf
  rw [<-h3]
  exact Nat.le_of_not_lt fun h=>h8 ⟨f,h1,h⟩
theorem uMT:P.underlying zb2=some (.map qx xq):=by kernel_rfl
def z3b:ME:=⟨(none,0,0),⟨[],true,[]⟩⟩
def zeroE:ME:=⟨(none,0,0),⟨[],false,[]⟩⟩
def evE (m:ME):Value:=.agg (zjc m).toArray
theorem zET (w:World):(zeroValue xq).run P w=.ok (evE zeroE) w:=by kernel_rfl
theorem bF1 (w:World):(Instr.build zn #[(1,.bool true)]).run P w=.ok (.agg (zb6 ⟨[],true,[]⟩).toArray) w:=by kernel_rfl
abbrev PM:=ML (List UInt8) ME
def Places (M:PM) (ms:List ME):Prop:=∀ p,okP p->zc6 M (x9 p)=if p=[] then some z3b else ms.find? fun m=>decide (nm m.f=p)
theorem MOk.map_val {κ ν ν':Type} [DecidableEq κ] {ok:κ->Prop}{l:ML κ ν}{c:Nat}(h:MOk ok l c) (g:κ×ν×Nat->ν'):MOk ok (l.map fun x=>(x.1,g x,x.2.2)) c:=by
 refine⟨?_,?_,?_,?_⟩
 ·have:=h.keys;simp only [List.map_map];exact this
 ·have:=h.born;simp only [List.map_map];exact this
 ·intro x hx;obtain⟨y,hy,rfl⟩:=List.mem_map.1 hx;exact h.old y hy
 ·intro x hx;obtain⟨y,hy,rfl⟩:=List.mem_map.1 hx;exact h.fine y hy
def zs3 (p:Path) (m:ME):Bool:=decide ((nm m.f).dropLast=p)
structure RowsW (W:Heap) (B:Nat) (K:KM) (ms:List ME):Prop where
 key:∀ z∈K,∃ p,okP p/\z.1=x9 p
 get:∀ p,okP p->(match zc6 K (x9 p) with | none=>ms.filter (zs3 p)=[] | some v=>v.2=ms.filter (zs3 p)/\v.2≠[])
 row:∀ z∈K,Mine W B xq 4 z.2.1.1 (z.2.1.2.flatMap zjc)
 apart:∀ z∈K,∀ z'∈K,z.1≠z'.1->∀ b∈jw z.2.1.1,b∉jw z'.2.1.1
theorem RowsW.step {H H':Heap}{B clk:Nat}{K:KM}{ms:List ME}{m:ME}{v:(Option Addr×Nat×Nat)×List ME}{x':Option Addr×Nat×Nat}(h:RowsW H B K ms) (hM:MOk (fun _=>True) K clk) (hv:(zc6 K (x9 (nm m.f).dropLast)).getD ((none,0,0),[])=v)
  (hm:Mine H' B xq 4 x' ((v.2++[m]).flatMap zjc)) (hx:Ext (jw v.1) H H') (hs:∀ c∈jw x',c∈jw v.1\/H.size<=c):RowsW H' B (zl9 K (x9 (nm m.f).dropLast) (x',v.2++[m]) clk) (ms++[m]):=by
 have hokd:okP (nm m.f).dropLast:=by rw [List.dropLast_eq_take];exact (zk3 m.f).take _
 have hold:∀ z∈K,z.1≠x9 (nm m.f).dropLast->Mine H' B xq 4 z.2.1.1 (z.2.1.2.flatMap zjc)/\∀ b∈jw z.2.1.1,b∉jw x':=by
  intro z hz hne
  have hap:∀ b∈jw z.2.1.1,b∉jw v.1:=by
   cases hg:zc6 K (x9 (nm m.f).dropLast) with
   | none=>rw [hg] at hv;subst hv;simp [jw]
   | some u=>
    rw [hg] at hv
    obtain⟨c,hc⟩:=zet hg
    have hu:u=v:=hv
    subst hu
    exact h.apart z hz _ hc hne
  refine⟨(h.row z hz).ext hx hap,fun b hb hb'=>?_⟩
  rcases hs b hb' with h' | h'
  ·exact hap b hb h'
  ·have:=(zgt (h.row z hz) b hb).1;omega
 have hmem:∀ z∈zl9 K (x9 (nm m.f).dropLast) (x',v.2++[m]) clk,(z.1=x9 (nm m.f).dropLast/\z.2.1=(x',v.2++[m]))\/(z.1≠x9 (nm m.f).dropLast/\z∈K):=fun z hz=>zkc hz
 refine⟨fun z hz=>?_,fun p hp=>?_,fun z hz=>?_,fun z hz z' hz' hne b hb=>?_⟩
 ·rcases hmem z hz with⟨h1,_⟩ | ⟨_,h1⟩
  ·exact⟨_,hokd,h1⟩
  ·exact h.key z h1
 ·rw [zur]
  by_cases e:x9 p=x9 (nm m.f).dropLast
  ·rw [if_pos e]
   have hpe:=zkn hp hokd e
   subst hpe
   have hgp:=h.get _ hokd
   have h2:v.2=ms.filter (zs3 (nm m.f).dropLast):=by
    cases hg:zc6 K (x9 (nm m.f).dropLast) with
    | none=>rw [hg] at hgp hv;subst hv;exact hgp.symm
    | some u=>rw [hg] at hgp hv;have hu:u=v:=hv;subst hu;exact hgp.1
   simp only
   rw [List.filter_append,<-h2]
   exact⟨by simp [zs3],by simp⟩
  ·rw [if_neg e]
   have hne:(nm m.f).dropLast≠p:=by rintro rfl;exact e rfl
   have:=h.get p hp
   cases hg:zc6 K (x9 p) with
   | none=>
    rw [hg] at this
    simp only at this |-
    rw [List.filter_append,this]
    simp [zs3,hne]
   | some u=>
    rw [hg] at this
    simp only at this |-
    refine⟨?_,this.2⟩
    rw [List.filter_append,this.1]
    simp [zs3,hne]
 ·rcases hmem z hz with⟨_,h1⟩ | ⟨h0,h1⟩
  ·rw [h1];exact hm
  ·exact (hold z h1 h0).1
 ·rcases hmem z hz with⟨e1,h1⟩ | ⟨e1,h1⟩
  ·rcases hmem z' hz' with⟨e2,_⟩ | ⟨e2,h2⟩
   ·exact absurd (e1.trans e2.symm) hne
   ·rw [h1] at hb
    exact fun h3=>(hold z' h2 e2).2 b h3 hb
  ·rcases hmem z' hz' with⟨e2,h2⟩ | ⟨e2,h2⟩
   ·rw [h2];exact (hold z h1 e1).2 b hb
   ·intro h3;exact h.apart z h1 z' h2 hne b hb h3
theorem find_none_of {ms:List ME}{p:Path}:(ms.find? fun m=>decide (nm m.f=p))=none ↔ ∀ m∈ms,nm m.f≠p:=by
 rw [List.find?_eq_none]
 simp
theorem find_some_of {ms:List ME}{p:Path}{m:ME}(h:(ms.find? fun m=>decide (nm m.f=p))=some m):m∈ms/\nm m.f=p:=by
 have h1:=List.mem_of_find?_eq_some h
 have h2:=List.find?_some h
 exact⟨h1,by simpa using h2⟩
theorem z1h {α β:Type}{g:α->β}:∀ {L:List α},(L.map g).Nodup->∀ {a b:α},a∈L->b∈L->g a=g b->a=b
 | [],_,_,_,ha,_,_=>by simp at ha
 | x :: L,h,a,b,ha,hb,e=>by
  rw [List.map_cons,List.nodup_cons] at h
  rcases List.mem_cons.1 ha with h1 | h1 <;> rcases List.mem_cons.1 hb with h2 | h2
  ·rw [h1,h2]
  ·subst h1;exact absurd (List.mem_map.2 ⟨b,h2,e.symm⟩) h.1
  ·subst h2;exact absurd (List.mem_map.2 ⟨a,h1,e⟩) h.1
  ·exact z1h h.2 h1 h2 e
theorem zm5 {ms:List ME}{p:Path}(hne:∀ m∈ms,nm m.f≠[]):(ms.filter (zs3 p)).map (·.f)=kids (ms.map (·.f)) p:=by
 unfold kids
 rw [List.filter_map]
 congr 1
 apply List.filter_congr
 intro m hm
 simp [zs3,qay,hne m hm]
theorem z5g {ms:List ME}{i:Nat}:(ms.take i).map (·.f)=(ms.map (·.f)).take i:=List.map_take
structure Rows3 (W:Heap) (B:Nat) (K K3:KM) (seen:Array Nat):Prop where
 vls:vl evK K3=vl evK K
 from_:∀ z∈K3,∃ z0∈K,z0.1=z.1/\z0.2.1.1=z.2.1.1/\z.2.1.2.Perm z0.2.1.2
 row:∀ z∈K3,Mine W B xq 4 z.2.1.1 (z.2.1.2.flatMap zjc)
 done:∀ z∈K3,z.2.2∈seen->z.2.1.2.length<=64/\z.2.1.2.Pairwise fun a b=>¬zeb (nm b.f) (nm a.f) < 0
theorem z4p {es fs:List ME}{L:List Fil}{p:Path}(hp:es.Perm fs) (hfs:fs.map (·.f)=kids L p) (hnd:(L.map nm).Nodup) (hs:es.Pairwise fun a b=>¬zeb (nm b.f) (nm a.f) < 0):es.map (·.f)=kids (zjl L) p:=by
 have hsp:=zlt hnd
 have hperm:(es.map (·.f)).Perm (kids L p):=by rw [<-hfs];exact hp.map _
 have hnk:((kids L p).map nm).Nodup:=(List.filter_sublist.map nm).nodup hnd
 have hne:((es.map (·.f)).map nm).Nodup:=(hperm.map nm).nodup_iff.2 hnk
 refine z0p ?_ (hsp.2.sublist List.filter_sublist) (hperm.trans (zwg hsp.1 p).symm)
 unfold zry
 rw [List.pairwise_map]
 rw [List.nodup_iff_pairwise_ne,List.pairwise_map,List.pairwise_map] at hne
 refine (hs.and hne).imp fun {a b} h=>?_
 have h1:=zjr (p:=nm a.f) (q:=nm b.f)
 have h2:zeb (nm a.f) (nm b.f)≠0:=fun e=>h.2 (zds.1 e)
 have h3:=h.1
 omega
set_option maxHeartbeats 32000000 in
theorem qew {w:World}{H:Heap}{a:Option Addr}{n nc:Nat}{ms:List ME}(hw:w.heap=H) (hL:Cells H a (ms.flatMap zjc)) (hn:n=ms.length) (hm:ms.length<=65536) (hN:∀ m∈ms,zpn H m) :
  qj P zoa #[.slice a n nc] w fun e w'=>∃ v,e=.returned (.tuple #[.map v,.int .i64 (zcn (ms.map (·.f)))])/\Ext [] H w'.heap/\(zcn (ms.map (·.f))=0->∃ mk,v=some mk/\z9t w'.heap mk (zjl (ms.map (·.f)))):=by
 subst hn
 refine z0e ?_
 unfold zt4
 refine zaf (s:=.map) (some H.size) _ (zkd hw) ?_
 refine qc (s:=.any) _ (bF1 _) ?_
 refine qc (s:=.any) (evE z3b) (bE (none,0,0) _ _ _ _) ?_
 have hm1:(H.push (.map #[] 0))[H.size]?=some (.map (ents keyS (vl evE ([]:PM))) 0):=zk
 refine zm1 _ (zjn z0j uMT (w:={ w with heap:=H.push (.map #[] 0) }) rfl hm1 MOk.nil (k:=x9 []) trivial z3b rfl) ?_
 generalize hW0:({ w with heap:=(H.push (.map #[] 0)).setIfInBounds H.size (.map (ents keyS (vl evE (zl9 ([]:PM) (x9 []) z3b 0))) (zqn ([]:PM) (x9 []) 0)) }:World)=W0
 have hh0:W0.heap=(H.push (.map #[] 0)).setIfInBounds H.size (.map (ents keyS (vl evE (zl9 ([]:PM) (x9 []) z3b 0))) (zqn ([]:PM) (x9 []) 0)):=by rw [<-hW0]
 have hx0:Ext [] H W0.heap:=by rw [hh0];exact (Ext.push _).set_own (.inl (Nat.le_refl _))
 have hp0:W0.heap[H.size]?=some (.map (ents keyS (vl evE (zl9 ([]:PM) (x9 []) z3b 0))) (zqn ([]:PM) (x9 []) 0)):=by rw [hh0];exact qy hm1
 have hok0:MOk (fun _=>True) (zl9 ([]:PM) (x9 []) z3b 0) (zqn ([]:PM) (x9 []) 0):=MOk.nil.upd trivial _
 have hnil:okP []:=⟨by simp,by simp⟩
 have hpl0:Places (zl9 ([]:PM) (x9 []) z3b 0) []:=by
  intro p hp
  rw [zur]
  by_cases e:p=[]
  ·subst e;rw [if_pos rfl,if_pos rfl]
  ·rw [if_neg (fun h=>e (zkn hp hnil h)),if_neg e];rfl
 have hlm:(ms.map (·.f)).length=ms.length:=by simp
 have hHs0:H.size < W0.heap.size:=lt_of_get hp0
 refine zae (fun (s:Int) W=>∃ (i:Nat) (M:PM) (c:Nat),s=(i:Int)/\i<=ms.length/\Ext [] H W.heap/\W.heap[H.size]?=some (.map (ents keyS (vl evE M)) c)/\MOk (fun _=>True) M c/\Places M (ms.take i)/\(∀ j (h:j < (ms.map (·.f)).length),j < i->nm (ms.map (·.f))[j]≠[]/\∀ g∈(ms.map (·.f)).take j,nm g≠nm (ms.map (·.f))[j]))
  (fun s _=>(ms.length-s).toNat) ⟨0,_,_,rfl,Nat.zero_le _,hx0,hp0,hok0,by simpa using hpl0,fun j _ h=>by omega⟩ ?_
 rintro _ W ⟨i,M,c,rfl,hi,hxW,hpW,hoM,hPl,hgood⟩
 refine zy (fun hlt=>?_) (fun hge=>?_)
 ·have hil:i < ms.length:=by omega
  have hget:=List.getElem?_eq_getElem hil
  have hmem:ms[i]∈ms:=List.getElem_mem hil
  have hfi:(ms.map (·.f))[i]'(by simpa using hil)=(ms[i]).f:=by simp
  generalize ms[i]=m at hget hmem hfi
  have hsm:=(zk3 m.f).small
  refine zff (i:=i) zim (by omega) rfl (hL.ext hxW (by simp)) rfl hget rfl ?_
  refine qi6 m rfl fun w5 hw5=>?_
  have hx5:Ext [] W.heap w5.heap:=by rw [hw5];exact .push _
  have hb5:w5.heap[W.heap.size]?=some (.cells (zjc m).toArray xq (0,0)):=by rw [hw5];exact zk
  have hnm:=(hN m hmem)
  have hnl:m.hdr.2.1=(nm m.f).length:=by have:=Mine.len hnm;simp at this;omega
  have hcap:=zhi hnm
  refine jg (s:=.slc) (t:=m.hdr) rfl hb5 rfl ?_
  refine zh (zgg rfl (Mine.ext hnm (hxW.trans hx5) (by simp)).cells hnl hcap (by omega)) ?_
  rintro e w6 ⟨rfl,hx6⟩
  refine⟨strOf (x9 (nm m.f)),rfl,?_⟩
  have hx06:=hx5.trans hx6
  have hp6:=hx06.get hpW (by simp)
  have hlk:=zfv z0j uMT zET (w:=w6) rfl hp6 hoM (k:=x9 (nm m.f)) trivial
  have hval:((zc6 M (x9 (nm m.f))).map evE).getD (evE zeroE)=evE ((zc6 M (x9 (nm m.f))).getD zeroE):=by cases zc6 M (x9 (nm m.f)) <;> rfl
  rw [hval] at hlk
  refine zct (l:=[.any,.bool]) (evE ((zc6 M (x9 (nm m.f))).getD zeroE),(zc6 M (x9 (nm m.f))).isSome) hlk ?_
  refine qi6 ((zc6 M (x9 (nm m.f))).getD zeroE) rfl fun w8 hw8=>?_
  have hx8:Ext [] w6.heap w8.heap:=by rw [hw8];exact .push _
  have hx08:=hx06.trans hx8
  have hpm:=hPl (nm m.f) (zk3 m.f)
  cases hs:(zc6 M (x9 (nm m.f))).isSome with
  | true=>
   refine jh rfl ?_
   have h5:zzu (ms.map (·.f)):=by
    refine⟨i,by simpa using hil,?_⟩
    rw [hfi]
    by_cases e:nm m.f=[]
    ·exact .inl e
    ·right
     rw [hpm,if_neg e] at hs
     obtain⟨m',hm'⟩:=Option.isSome_iff_exists.1 hs
     obtain⟨h1,h2⟩:=find_some_of hm'
     exact⟨m'.f,by rw [<-z5g];exact List.mem_map.2 ⟨m',h1,rfl⟩,h2⟩
   exact⟨none,by rw [z4d h5],hxW.trans hx08,fun h=>by rw [z4d h5] at h;cases h⟩
  | false=>
   refine qp rfl ?_
   have hno:nm m.f≠[]/\∀ m'∈ms.take i,nm m'.f≠nm m.f:=by
    rw [hpm] at hs
    by_cases e:nm m.f=[]
    ·rw [if_pos e] at hs;simp at hs
    ·rw [if_neg e] at hs
     exact⟨e,find_none_of.1 (by simpa using hs)⟩
   refine vw rfl fun w9 hw9=>?_
   have hx9:Ext [] w8.heap w9.heap:=by rw [hw9];exact .refl _ _
   have hb9:=hx9.get (hx8.get (hx6.get hb5 (by simp)) (by simp)) (by simp)
   refine jg (s:=.slc) (t:=m.hdr) rfl hb9 rfl ?_
   refine xw rfl hb9 rfl ?_
   have hx09:=hx08.trans hx9
   refine zh (zgg rfl (Mine.ext hnm (hxW.trans hx09) (by simp)).cells hnl hcap (by omega)) ?_
   rintro e w10 ⟨rfl,hx10⟩
   refine⟨strOf (x9 (nm m.f)),rfl,?_⟩
   refine⟨xw rfl (hx10.get hb9 (by simp)) rfl rfl,?_⟩
   have hx010:=hx09.trans hx10
   have hp10:=hx010.get hpW (by simp)
   refine zm1 _ (zjn z0j uMT (w:=w10) rfl hp10 hoM (k:=x9 (nm m.f)) trivial m rfl) ?_
   refine jr ((i+1:Nat):Int) (by omega) (by omega) (by omega) ?_
   refine⟨⟨i+1,_,_,rfl,by omega,(hxW.trans hx010).set_own (.inl (Nat.le_refl _)),qy hp10,hoM.upd trivial _,fun p hp=>?_,fun j hj hji=>?_⟩,by omega⟩
   ·rw [zur,List.take_add_one,hget,Option.toList_some,List.find?_append]
    by_cases e:x9 p=x9 (nm m.f)
    ·have hpe:=zkn hp (zk3 m.f) e
     subst hpe
     rw [if_pos e,if_neg hno.1,find_none_of.2 hno.2]
     simp
    ·rw [if_neg e,hPl p hp]
     have hne:nm m.f≠p:=by rintro rfl;exact e rfl
     by_cases e0:p=[]
     ·rw [if_pos e0,if_pos e0]
     ·rw [if_neg e0,if_neg e0]
      simp [hne]
   ·by_cases e:j=i
    ·subst e
     rw [hfi]
     refine⟨hno.1,fun g hg=>?_⟩
     rw [<-z5g] at hg
     obtain⟨m',hm',rfl⟩:=List.mem_map.1 hg
     exact hno.2 m' hm'
    ·exact hgood j hj (by omega)
 ·obtain rfl:i=ms.length:=by omega
  have h5:¬zzu (ms.map (·.f)):=by
   rintro ⟨j,hj,h⟩
   obtain⟨g1,g2⟩:=hgood j hj (by omega)
   rcases h with h | ⟨g,hg,e⟩
   ·exact g1 h
   ·exact g2 g hg e
  rw [List.take_length] at hPl
  obtain⟨hnd,hne⟩:=zm3 h5
  have hnem:∀ m∈ms,nm m.f≠[]:=fun m hm=>hne _ (List.mem_map.2 ⟨m,hm,rfl⟩)
  have hsW:=hxW.1
  have hpml:=lt_of_get hpW
  refine zaf (s:=.map) (some W.heap.size) { W with heap:=W.heap.push (.map #[] 0) } (zkd rfl) ?_
  have hxm:Ext [] W.heap (W.heap.push (.map #[] 0)):=.push _
  refine zae (fun (s:Bool×Int) W2=>∃ (i:Nat) (K:KM) (c2:Nat),s.2=(i:Int)/\i<=ms.length/\Ext [] W.heap W2.heap/\W2.heap[W.heap.size]?=some (.map (ents keyS (vl evK K)) c2)/\MOk (fun _=>True) K c2/\RowsW W2.heap (W.heap.size+1) K (ms.take i) /\
    (s.1=true ↔ ∃ f∈(ms.map (·.f)).take i,∃ g∈ms.map (·.f),nm g=(nm f).dropLast/\g.dir=false)/\(∀ f∈(ms.map (·.f)).take i,(nm f).dropLast=[]\/∃ g∈ms.map (·.f),nm g=(nm f).dropLast))
   (fun s _=>(ms.length-s.2).toNat) ⟨0,[],0,rfl,Nat.zero_le _,hxm,zk,.nil,⟨by simp,fun p hp=>by simp [zc6],by simp,by simp⟩,by simp,by simp⟩ ?_
  rintro ⟨flat,_⟩ W2 ⟨i,K,c2,rfl,hi,hx2,hk2,hoK,hR,hfl,hab⟩
  have hxH2:=hxW.trans hx2
  have hp2:=hx2.get hpW (by simp)
  have hkl:=lt_of_get hk2
  have hx2s:=hx2.1
  refine zy (fun hlt=>?_) (fun hge=>?_)
  ·have hil:i < ms.length:=by simp only at hlt;omega
   have hget:=List.getElem?_eq_getElem hil
   have hmem:ms[i]∈ms:=List.getElem_mem hil
   generalize ms[i]=m at hget hmem
   have hgf:(ms.map (·.f))[i]?=some m.f:=by rw [List.getElem?_map,hget];rfl
   have hsm:=(zk3 m.f).small
   have hok8:=(zk3 m.f).2
   have hmne:=hnem m hmem
   have hpos:=List.length_pos_iff.2 hmne
   refine zff (i:=i) zim (by omega) rfl (hL.ext hxH2 (by simp)) rfl hget rfl ?_
   refine qi6 m rfl fun w15 hw15=>?_
   have hx15:Ext [] W2.heap w15.heap:=by rw [hw15];exact .push _
   have hb15:w15.heap[W2.heap.size]?=some (.cells (zjc m).toArray xq (0,0)):=by rw [hw15];exact zk
   have hnm:=(hN m hmem)
   have hnl:m.hdr.2.1=(nm m.f).length:=by have:=Mine.len hnm;simp at this;omega
   have hcap:=zhi hnm
   refine jg (s:=.slc) (t:=m.hdr) rfl hb15 rfl ?_
   refine jg (s:=.slc) (t:=m.hdr) rfl hb15 rfl ?_
   refine zdb ((m.hdr.2.1-1:Nat):Int) (by omega) (by omega) (by omega) ?_
   refine qc (s:=.slc) (if m.hdr.2.2=0 then m.hdr.1 else m.hdr.1.map (·.add (0 * 1)),(m.hdr.2.1-1)-0,m.hdr.2.2-0) (zbd zj6 zs9 .no (.yes rfl) (Nat.zero_le _) (show m.hdr.2.1-1<=m.hdr.2.2 by omega)) ?_
   have hcut:=(Mine.cut (Mine.ext hnm (hxH2.trans hx15) (by simp)) (k:=m.hdr.2.1-1) (by omega)).cells
   rw [zdi] at hcut
   have hdl:(nm m.f).take (m.hdr.2.1-1)=(nm m.f).dropLast:=by rw [List.dropLast_eq_take,hnl]
   have hcut:Cells w15.heap (if m.hdr.2.2=0 then m.hdr.1 else m.hdr.1.map (·.add (0 * 1))) (strRow ((nm m.f).take (m.hdr.2.1-1))):=hcut
   rw [hdl] at hcut
   have hql:(nm m.f).dropLast.length=m.hdr.2.1-1:=by rw [List.length_dropLast];omega
   have hokd:okP (nm m.f).dropLast:=by rw [List.dropLast_eq_take];exact (zk3 m.f).take _
   have hsmd:=hokd.small
   refine zh (zgg rfl hcut (by rw [hql];simp) (by simp only;omega) (by omega)) ?_
   rintro e w16 ⟨rfl,hx16⟩
   refine⟨strOf (x9 (nm m.f).dropLast),rfl,?_⟩
   have hx216:=hx15.trans hx16
   have hp16:=hx216.get hp2 (by simp)
   have hlk:=zfv z0j uMT zET (w:=w16) rfl hp16 hoM (k:=x9 (nm m.f).dropLast) trivial
   have hval:((zc6 M (x9 (nm m.f).dropLast)).map evE).getD (evE zeroE)=evE ((zc6 M (x9 (nm m.f).dropLast)).getD zeroE):=by cases zc6 M (x9 (nm m.f).dropLast) <;> rfl
   rw [hval] at hlk
   refine zct (l:=[.any,.bool]) (evE ((zc6 M (x9 (nm m.f).dropLast)).getD zeroE),(zc6 M (x9 (nm m.f).dropLast)).isSome) hlk ?_
   refine qi6 ((zc6 M (x9 (nm m.f).dropLast)).getD zeroE) rfl fun w18 hw18=>?_
   have hx18:Ext [] w16.heap w18.heap:=by rw [hw18];exact .push _
   have hb18:w18.heap[w16.heap.size]?=some (.cells (zjc ((zc6 M (x9 (nm m.f).dropLast)).getD zeroE)).toArray xq (0,0)):=by rw [hw18];exact zk
   have hx218:=hx216.trans hx18
   have hpm:=hPl _ hokd
   have htk:(ms.map (·.f)).take (i+1)=(ms.map (·.f)).take i++[m.f]:=by rw [List.take_add_one,hgf];rfl
   cases hs:(zc6 M (x9 (nm m.f).dropLast)).isSome with
   | false=>
    refine jh rfl ?_
    have h4:z9h (ms.map (·.f)):=by
     rw [hpm] at hs
     by_cases e:(nm m.f).dropLast=[]
     ·rw [if_pos e] at hs;simp at hs
     ·rw [if_neg e] at hs
      have hnf:=find_none_of.1 (by simpa using hs)
      refine⟨m.f,List.mem_map.2 ⟨m,hmem,rfl⟩,e,fun g hg=>?_⟩
      obtain⟨m',hm',rfl⟩:=List.mem_map.1 hg
      exact hnf m' hm'
    exact⟨none,by rw [z3q h5 h4],hxH2.trans hx218,fun h=>by rw [z3q h5 h4] at h;cases h⟩
   | true=>
    refine qp rfl ?_
    obtain⟨m0,hm0⟩:=Option.isSome_iff_exists.1 hs
    have hm0':=hm0
    rw [hpm] at hm0'
    have hab':(nm m.f).dropLast=[]\/∃ g∈ms.map (·.f),nm g=(nm m.f).dropLast:=by
     by_cases e:(nm m.f).dropLast=[]
     ·exact .inl e
     ·rw [if_neg e] at hm0'
      obtain⟨h1,h2⟩:=find_some_of hm0'
      exact .inr ⟨m0.f,List.mem_map.2 ⟨m0,h1,rfl⟩,h2⟩
    have hflat:m0.f.dir=false ↔ ∃ g∈ms.map (·.f),nm g=(nm m.f).dropLast/\g.dir=false:=by
     by_cases e:(nm m.f).dropLast=[]
     ·rw [if_pos e] at hm0'
      cases hm0'
      constructor
      ·intro h;cases h
      ·rintro ⟨g,hg,h1,_⟩
       rw [e] at h1
       exact absurd h1 (hne g hg)
     ·rw [if_neg e] at hm0'
      obtain⟨h1,h2⟩:=find_some_of hm0'
      constructor
      ·intro h;exact⟨m0.f,List.mem_map.2 ⟨m0,h1,rfl⟩,h2,h⟩
      ·rintro ⟨g,hg,h3,h4⟩
       have:m0.f=g:=z1h hnd (List.mem_map.2 ⟨m0,h1,rfl⟩) hg (h2.trans h3.symm)
       rw [this];exact h4
    refine joinP_of (fun s' W'=>W'=w18/\(s'=true ↔ ∃ f∈(ms.map (·.f)).take (i+1),∃ g∈ms.map (·.f),nm g=(nm f).dropLast/\g.dir=false)) ?_ ?_
    ·cases hfb:flat with
     | true=>
      refine jh rfl ⟨rfl,⟨fun _=>?_,fun _=>rfl⟩⟩
      obtain⟨f,hf,h⟩:=hfl.1 (by simpa using hfb)
      exact⟨f,by rw [htk];exact List.mem_append_left _ hf,h⟩
     | false=>
      refine qp rfl ?_
      refine jg (s:=.bool) (t:=m0.f.dir) rfl hb18 (by rw [hm0];rfl) ?_
      refine⟨rfl,?_⟩
      rw [Bool.not_eq_true',hflat]
      constructor
      ·intro h;exact⟨m.f,by rw [htk];simp,h⟩
      ·rintro ⟨f,hf,h⟩
       rw [htk] at hf
       rcases List.mem_append.1 hf with hf | hf
       ·have:=hfl.2 ⟨f,hf,h⟩
        simp only at this
        rw [hfb] at this;cases this
       ·simp at hf;subst hf;exact h
    rintro s' W' ⟨hW',hs'⟩
    subst hW'
    have hk18:=hx218.get hk2 (by simp)
    obtain⟨v,hv⟩:∃ v,(zc6 K (x9 (nm m.f).dropLast)).getD ((none,0,0),[])=v:=⟨_,rfl⟩
    have hlk2:=zw1 (w:=W') z0j uME zME rfl hk18 hoK (k:=x9 (nm m.f).dropLast) trivial
    have hv2:((zc6 K (x9 (nm m.f).dropLast)).map evK).getD (.slice none 0 0)=zdr v.1:=by
     rw [<-hv]
     cases zc6 K (x9 (nm m.f).dropLast) <;> rfl
    rw [hv2] at hlk2
    refine qc (s:=.slc) v.1 hlk2 ?_
    have hb1518:=hx18.get (hx16.get hb15 (by simp)) (by simp)
    refine xw rfl hb1518 rfl ?_
    have hRow:Mine W'.heap (W.heap.size+1) xq 4 v.1 (v.2.flatMap zjc):=by
     cases hg:zc6 K (x9 (nm m.f).dropLast) with
     | none=>rw [hg] at hv;subst hv;exact .inl ⟨rfl,rfl⟩
     | some u=>
      rw [hg] at hv
      have hu:u=v:=hv
      subst hu
      obtain⟨c,hc⟩:=zet hg
      exact (hR.row _ hc).ext hx218 (by simp)
    have hvl:v.2.length<=ms.length:=by
     have:=hR.get _ hokd
     cases hg:zc6 K (x9 (nm m.f).dropLast) with
     | none=>rw [hg] at hv;subst hv;simp
     | some u=>
      rw [hg] at hv this
      have hu:u=v:=hv
      subst hu
      rw [this.1]
      have h1:=List.length_filter_le (zs3 (nm m.f).dropLast) (ms.take i)
      have h2:(ms.take i).length<=ms.length:=by simp;omega
      omega
    have hs18:=hx218.1
    refine z9z (i:=m) rfl hRow (by omega) (by omega) fun x' w21 hm21 hx21 hs21 hl21=>?_
    have hkne:W.heap.size∉jw v.1:=fun h=>by have:=jo hRow _ h;omega
    have hk21:=hx21.get hk18 hkne
    refine zm1 _ (zjn z0j uME (w:=w21) rfl hk21 hoK (k:=x9 (nm m.f).dropLast) trivial (x',v.2++[m]) rfl) ?_
    have hx221:Ext (jw v.1) W2.heap w21.heap:=(hx218.mono (by simp)).trans hx21
    have hs221:∀ c∈jw x',c∈jw v.1\/W2.heap.size<=c:=fun c hc=>by
     rcases hs21 c hc with h | h
     ·exact .inl h
     ·right;omega
    have hstep:=hR.step hoK hv hm21 hx221 hs221
    have hxk:Ext [W.heap.size] w21.heap (w21.heap.setIfInBounds W.heap.size (.map (ents keyS (vl evK (zl9 K (x9 (nm m.f).dropLast) (x',v.2++[m]) c2))) (zqn K (x9 (nm m.f).dropLast) c2))):=Ext.set _ (by simp)
    refine jr ((i+1:Nat):Int) (by simp) (by omega) (by omega) ?_
    refine⟨⟨i+1,_,_,rfl,by omega,?_,qy hk21,hoK.upd trivial _,⟨?_,?_,?_,?_⟩,hs',?_⟩,by simp only;omega⟩
    ·exact (hx2.own hx221 (fun c hc hlt=>by have:=jo hRow c hc;omega)).set_own (.inl (Nat.le_refl _))
    ·exact hstep.key
    ·rw [List.take_add_one,hget];exact hstep.get
    ·intro z hz
     exact (hstep.row z hz).ext hxk (fun b hb h=>by simp at h;subst h;have:=jo (hstep.row z hz) _ hb;omega)
    ·exact hstep.apart
    ·rw [htk]
     intro f hf
     rcases List.mem_append.1 hf with hf | hf
     ·exact hab f hf
     ·simp at hf;subst hf;exact hab'
  ·obtain rfl:i=ms.length:=by simp only at hge;omega
   rw [List.take_length] at hR
   have htl:(ms.map (·.f)).take ms.length=ms.map (·.f):=by rw [<-hlm,List.take_length]
   rw [htl] at hfl hab
   have h4:¬z9h (ms.map (·.f)):=by
    rintro ⟨f,hf,h1,h2⟩
    rcases hab f hf with h | ⟨g,hg,h⟩
    ·exact h1 h
    ·exact h2 g hg h
   cases hfb:flat with
   | true=>
    have h70:zxx (ms.map (·.f)):=hfl.1 (by simpa using hfb)
    exact jh rfl ⟨none,by rw [zy5 h5 h4 h70],hxH2,fun h=>by rw [zy5 h5 h4 h70] at h;cases h⟩
   | false=>
    have h70:¬zxx (ms.map (·.f)):=fun h=>by
     have:=hfl.2 h
     simp only at this
     rw [hfb] at this;cases this
    refine qp rfl ?_
    refine zaf (s:=.ptr) (some ⟨W2.heap.size,0,none⟩) { W2 with heap:=W2.heap.push (.mapIter (some W.heap.size) c2 #[] c2) } (zwc uME rfl hk2) ?_
    have hxr:Ext [] W2.heap (W2.heap.push (.mapIter (some W.heap.size) c2 #[] c2)):=.push _
    have nrow:∀ {z:List UInt8×((Option Addr×Nat×Nat)×List ME)×Nat},z∈K->∃ p,okP p/\z.1=x9 p/\z.2.1.2=ms.filter (zs3 p)/\z.2.1.2≠[]:=by
     intro z hz
     obtain⟨p,hp,e⟩:=hR.key z hz
     have hg:=zp2 hoK.keys (k:=z.1) (v:=z.2.1) (c:=z.2.2) hz
     have h:=hR.get p hp
     rw [<-e,hg] at h
     exact⟨p,hp,e,h.1,h.2⟩
    refine zb3 (fun k (_:Unit) W3=>∃ (seen:Array Nat) (last:Nat) (K3:KM),Ext [] H W3.heap/\W2.heap.size < W3.heap.size/\W3.heap[W.heap.size]?=some (.map (ents keyS (vl evK K3)) c2)/\W3.heap[W2.heap.size]?=some (.mapIter (some W.heap.size) c2 seen last)/\c2<=last/\MOk (fun _=>True) K3 c2/\Rows3 W3.heap (W.heap.size+1) K K3 seen/\k=(K3.filter fun y=>!seen.contains y.2.2).length)
     (K.filter fun y=>!(#[]:Array Nat).contains y.2.2).length ?_ ?_
    ·exact⟨#[],c2,K,hxH2.trans hxr,by simp,za1 hk2,zk,Nat.le_refl _,hoK,⟨rfl,fun z hz=>⟨z,hz,rfl,rfl,.refl _⟩,fun z hz=>(hR.row z hz).ext hxr (by simp),fun z _ h=>by simp at h⟩,rfl⟩
    rintro k _ W3 ⟨seen,last,K3,hx3,hs3,hk3,hi3,hcl,hoK3,hR3,rfl⟩ Kk hKk
    rcases z0z (P:=P) (ty:=zbk) rfl hk3 hi3 (fun x hx=>hoK3.old x hx) hcl with⟨hall,W4,hnx,hc4,hh4⟩ | ⟨x,hx,hns,W4,hnx,hc4,hh4⟩
    ·refine zaf (s:=.any) _ W4 hnx ?_ hc4
     refine ziv (s:=.bool) false rfl rfl ?_
     refine qp rfl ?_
     have hget3:∀ {p v},okP p->zc6 K3 (x9 p)=some v->v.2.length<=64/\v.2.Pairwise (fun a b=>¬zeb (nm b.f) (nm a.f) < 0)/\v.2.Perm (ms.filter (zs3 p))/\Mine W3.heap (W.heap.size+1) xq 4 v.1 (v.2.flatMap zjc):=by
      intro p v hp hg
      obtain⟨c,hc⟩:=zet hg
      obtain⟨z0,hz0,e1,_,hpm⟩:=hR3.from_ _ hc
      obtain⟨p0,hp0',e0,h0,_⟩:=nrow hz0
      have:p0=p:=zkn hp0' hp (by rw [<-e0,e1])
      subst this
      obtain⟨d1,d2⟩:=hR3.done _ hc (hall _ hc)
      exact⟨d1,d2,by rw [<-h0];exact hpm,hR3.row _ hc⟩
     have hnone:∀ {p},okP p->zc6 K3 (x9 p)=none->ms.filter (zs3 p)=[]:=by
      intro p hp hg
      have h1:(zc6 K3 (x9 p)).map evK=(zc6 K (x9 p)).map evK:=by rw [<-zst,<-zst,hR3.vls]
      rw [hg] at h1
      have h2:zc6 K (x9 p)=none:=by
       cases h:zc6 K (x9 p) with
       | none=>rfl
       | some u=>rw [h] at h1;simp at h1
      have:=hR.get p hp
      rw [h2] at this
      exact this
     have h8:¬qcj (ms.map (·.f)):=by
      rintro ⟨f,hf,h⟩
      have hokp:okP (nm f).dropLast:=by rw [List.dropLast_eq_take];exact (zk3 f).take _
      rw [<-zm5 hnem,List.length_map] at h
      cases hg:zc6 K3 (x9 (nm f).dropLast) with
      | none=>rw [hnone hokp hg] at h;simp at h
      | some v=>
       obtain⟨d1,_,d3,_⟩:=hget3 hokp hg
       rw [<-d3.length_eq] at h
       omega
     refine⟨some W.heap.size,by rw [zza h5 h4 h70 h8],by rw [hh4];exact hx3,fun _=>⟨W.heap.size,rfl,K3,c2,by rw [hh4];exact hk3,hoK3,fun p hp=>?_⟩⟩
     cases hg:zc6 K3 (x9 p) with
     | none=>
      have h1:=hnone hp hg
      have h2:kids (ms.map (·.f)) p=[]:=by rw [<-zm5 hnem,h1];rfl
      have h3:=zwg (zlt hnd).1 p
      rw [h2] at h3
      exact h3.eq_nil
     | some v=>
      obtain⟨d1,d2,d3,d4⟩:=hget3 hp hg
      refine⟨z4p d3 (zm5 hnem) hnd d2,?_,fun m hm=>?_⟩
      ·rw [hh4];exact d4.mono (Nat.zero_le _)
      ·have hmm:m∈ms:=(List.mem_filter.1 (d3.mem_iff.1 hm)).1
       rw [hh4];exact Mine.ext (hN m hmm) hx3 (by simp)
    ·refine zaf (s:=.any) _ W4 hnx ?_ hc4
     refine ziv (s:=.bool) true rfl rfl ?_
     refine jh rfl ?_
     have hilt:=lt_of_get hi3
     have hx34:Ext [W2.heap.size] W3.heap W4.heap:=by rw [hh4];exact Ext.set _ (by simp)
     have hi4:W4.heap[W2.heap.size]?=some (.mapIter (some W.heap.size) c2 (seen.push x.2.2) c2):=by rw [hh4];exact Array.getElem?_setIfInBounds_self_of_lt hilt
     have hk4:=hx34.get hk3 (by simp;omega)
     refine qc (s:=.any) _ (zwe (last:=c2) rfl hk4 hi4 hx hoK3) ?_
     refine ziv (s:=.slc) x.2.1.1 rfl rfl ?_
     have hrow3:=hR3.row x hx
     have hrow4:Mine W4.heap (W.heap.size+1) xq 4 x.2.1.1 (x.2.1.2.flatMap zjc):=hrow3.ext hx34 (fun b hb h=>by
      simp at h;subst h
      obtain⟨_,c',T',fr',hcell⟩:=zgt hrow3 _ hb
      rw [hi3] at hcell;cases hcell)
     have hxl:x.2.1.1.2.1=x.2.1.2.length:=by have:=hrow3.len;rw [xg zjc zim] at this;omega
     obtain⟨z0,hz0,e1,e2,hpm⟩:=hR3.from_ x hx
     obtain⟨p0,hp0',e0,h0,h0n⟩:=nrow hz0
     have hH34:Ext [] H W4.heap:=hx3.own hx34 (by intro c hc hlt;simp at hc;omega)
     refine zy (fun hbig=>?_) (fun hsmall=>?_)
     ·have h8:qcj (ms.map (·.f)):=by
       obtain⟨m,hm⟩:=List.exists_mem_of_ne_nil _ h0n
       rw [h0] at hm
       obtain⟨h1,h2⟩:=List.mem_filter.1 hm
       refine⟨m.f,List.mem_map.2 ⟨m,h1,rfl⟩,?_⟩
       have:(nm m.f).dropLast=p0:=by simpa [zs3] using h2
       rw [this,<-zm5 hnem,List.length_map,<-h0,<-hpm.length_eq]
       omega
      exact⟨none,by rw [z3y h5 h4 h70 h8],hH34,fun h=>by rw [z3y h5 h4 h70 h8] at h;cases h⟩
     ·have hes:∀ m∈x.2.1.2,zpn W4.heap m:=fun m hm=>by
       have hm2:=hpm.mem_iff.1 hm
       rw [h0] at hm2
       exact Mine.ext (hN m (List.mem_filter.1 hm2).1) hH34 (by simp)
      have hne2:x.2.1.2≠[]:=fun h=>h0n (by rw [h] at hpm;exact hpm.nil_eq.symm)
      refine zh (l:=[]) (qfy rfl hrow4 hes hne2 (by omega)) ?_
      rintro e W5 ⟨rfl,ys,hys,hso,hm5,hx45⟩
      refine⟨(),rfl,?_⟩
      have hii:W2.heap.size∉jw x.2.1.1:=fun h=>by
       obtain⟨_,c',T',fr',hcell⟩:=zgt hrow4 _ h
       rw [hi4] at hcell;cases hcell
      have hkk:W.heap.size∉jw x.2.1.1:=fun h=>by have:=jo hrow4 _ h;omega
      have hi5:=hx45.get hi4 hii
      have hk5:=hx45.get hk4 hkk
      have s5:=hx45.1
      have s4:=hx34.1
      obtain⟨K4,hK4⟩:∃ K4:KM,K4=K3.map fun z=>(z.1,(if z.2.2=x.2.2 then (z.2.1.1,ys) else z.2.1),z.2.2):=⟨_,rfl⟩
      have hvl:vl evK K4=vl evK K3:=by
       rw [hK4]
       unfold vl
       rw [List.map_map]
       apply List.map_congr_left
       intro z _
       simp only [Function.comp]
       split <;> rfl
      have hoK4:MOk (fun _=>True) K4 c2:=by rw [hK4];exact MOk.map_val hoK3 _
      have hcount:(K4.filter fun y=>!(seen.push x.2.2).contains y.2.2).length=(K3.filter fun y=>!(seen.push x.2.2).contains y.2.2).length:=by
       rw [hK4,List.filter_map,List.length_map];rfl
      refine hKk _ _ _ (by rw [hcount];exact zuw hx hns) ⟨seen.push x.2.2,c2,K4,hH34.own hx45 (fun c hc hlt=>by have:=jo hrow4 c hc;omega),by omega,by rw [hvl];exact hk5,hi5,Nat.le_refl _,hoK4,⟨hvl.trans hR3.vls,fun z hz=>?_,fun z hz=>?_,fun z hz hin=>?_⟩,rfl⟩
      ·rw [hK4] at hz
       obtain⟨y,hy,rfl⟩:=List.mem_map.1 hz
       obtain⟨y0,hy0,f1,f2,f3⟩:=hR3.from_ y hy
       by_cases e:y.2.2=x.2.2
       ·have hyx:y=x:=Go.Fw.born_inj hoK3 hy hx e
        subst hyx
        exact⟨y0,hy0,f1,by simp only [if_pos];exact f2,by simp only [if_pos];exact hys.trans f3⟩
       ·exact⟨y0,hy0,f1,by simp only [if_neg e];exact f2,by simp only [if_neg e];exact f3⟩
      ·rw [hK4] at hz
       obtain⟨y,hy,rfl⟩:=List.mem_map.1 hz
       by_cases e:y.2.2=x.2.2
       ·have hyx:y=x:=Go.Fw.born_inj hoK3 hy hx e
        subst hyx
        simp only [if_pos]
        exact hm5
       ·simp only [if_neg e]
        have hr4:Mine W4.heap (W.heap.size+1) xq 4 y.2.1.1 (y.2.1.2.flatMap zjc):=(hR3.row y hy).ext hx34 (fun b hb h=>by
         simp at h;subst h
         obtain⟨_,c',T',fr',hcell⟩:=zgt (hR3.row y hy) _ hb
         rw [hi3] at hcell;cases hcell)
        refine hr4.ext hx45 ?_
        obtain⟨y0,hy0,f1,f2,_⟩:=hR3.from_ y hy
        have hne1:y0.1≠z0.1:=fun h=>by
         rw [f1,e1] at h
         exact e (by rw [Go.Fw.key_inj hoK3 hy hx h])
        have:=hR.apart y0 hy0 z0 hz0 hne1
        rw [f2,e2] at this
        exact this
      ·rw [hK4] at hz
       obtain⟨y,hy,rfl⟩:=List.mem_map.1 hz
       by_cases e:y.2.2=x.2.2
       ·have hyx:y=x:=Go.Fw.born_inj hoK3 hy hx e
        subst hyx
        simp only [if_pos]
        exact⟨by rw [hys.length_eq];omega,hso⟩
       ·simp only [if_neg e]
        refine hR3.done y hy ?_
        rcases Array.mem_push.1 hin with h | h
        ·exact h
        ·exact absurd h e
noncomputable def ze0 (L:List Fil):Int:=if za3 L≠0 then za3 L else zcn L
def zxg (L:List Fil):List (List UInt8)×List UInt8:=zf5 (zjl L) 9 []
theorem zl3 {L:List Fil}:zxg L=zf5 (zjl L) 9 []:=rfl
attribute [irreducible] zxg
def z97 (pre:Int) (q:Int) (r:Bl.SM) (bl:List (List UInt8)×List UInt8) (code:Int) (d:List UInt8) (r':Bl.SM):Prop:=
 (pre≠0->code=pre/\d=Bl.nought/\r'=r)/\(pre=0->Bl.z5p q r bl.1 code r'/\d=if code=0 then bl.2 else Bl.nought)
theorem qil:zc P zai=#[.slice none 0 0]:=by kernel_rfl
theorem qjp:zc P zab=#[.map none]:=by kernel_rfl
theorem qjg:(zc P zcx).size=1:=by kernel_rfl
theorem qlk:P.cellsOf zcx=1:=by kernel_rfl
theorem qf7 {L:List Fil}(h:za3 L=0):∀ f∈L,f.data.length<=1024:=by
 unfold za3 at h
 split at h
 ·rename_i h1;exact absurd h h1
 ·split at h
  ·cases h
  ·split at h
   ·cases h
   ·rename_i h2
    intro f hf
    have:z7v f=false:=by
     rw [<-Bool.not_eq_true]
     exact fun hb=>h2 (List.any_eq_true.2 ⟨f,hf,hb⟩)
    simpa [z7v] using this
theorem qcy {L:List Fil}(h:zcn L=0):¬zzu L/\¬qcj L:=by
 unfold zcn at h
 by_cases h5:zzu L
 ·rw [if_pos h5] at h;cases h
 ·rw [if_neg h5] at h
  by_cases h4:z9h L
  ·rw [if_pos h4] at h;cases h
  ·rw [if_neg h4] at h
   by_cases h70:zxx L
   ·rw [if_pos h70] at h;cases h
   ·rw [if_neg h70] at h
    by_cases h8:qcj L
    ·rw [if_pos h8] at h;cases h
    ·exact⟨h5,h8⟩
theorem z9n {L:List Fil}(h5:¬zzu L) (hd:∀ f∈L,f.data.length<=1024):(zxg L).1.length<=1+18 * L.length:=by
 obtain⟨hp,hr⟩:=zlt (zm3 h5).1
 have h:=z6d hr (fun f hf=>hd f (hp.mem_iff.1 hf)) 9 []
 have h2:=List.length_filter_le (fun f=>zbq (nm f) []&&decide ((([]:Path)).length < (nm f).length)) (zjl L)
 have h3:=hp.length_eq
 rw [zl3]
 omega
theorem zy9 {w:World}{H:Heap}{b:Nat}{R:Array Value->World->Prop}(hw:w.heap=H) (hb:H[b]?=some (.cells (zc P zf) zf (0,0))) (hR:∀ w',Ext [b] H w'.heap->R (byteCells Bl.nought).toArray w') :
  zad P (Instr.build zf #[]) .any w fun (t:Value)=>zah P (storeVar zf (⟨b,0,none⟩:Addr) t) w fun w2=>ldA P 32 (⟨b,0,none⟩:Addr) w2 fun t4=>R t4 w2:=by
 refine qc (s:=.any) (arr Bl.nought) (Bl.b27 _) ?_
 refine qea Bl.zjx hw hb zcD fun w2 hw2=>?_
 have hb2:w2.heap[b]?=some (.cells (byteCells Bl.nought).toArray zf (0,0)):=by rw [hw2];exact qy hb
 refine xw rfl hb2 (by simp [Bl.zjx]) ?_
 exact hR w2 (by rw [hw2];exact Ext.set _ (by simp))
set_option maxHeartbeats 1000000 in
theorem z6n {w:World}{H:Heap}{fp:List Nat}{p:Nat}{q:Int}{r:Bl.SM}{c:Nat}{a:Option Addr}{n nc:Nat}{L:List Fil}(hw:w.heap=H) (hS:Bl.Store H fp p q r c) (hfp:∀ b∈fp,b < H.size) (hRo:Bl.Rounds H) (h0:1∉fp)
  (hL:Cells H a (L.flatMap zb6)) (hn:n=L.length) (hm:L.length<=65536) (hb:Bl.total r < 1000000000000) (hq:0<=q) (hq2:q<=9223372036854775807) (hlen:∀ k L,Bl.zcq r k=some L->L.length < 1099511627776) :
  qj P zkq #[.pointer (some ⟨p,0,none⟩),.slice a n nc] w fun e w'=>∃ code d r' c' fp',e=.returned (.tuple #[arr d,.int .i64 code])/\d.length=32/\Bl.Store w'.heap fp' p q r' c'/\Ext fp H w'.heap/\(∀ b∈fp',b < w'.heap.size)/\(∀ b∈fp',b∈fp\/H.size<=b) /\
   z97 (ze0 L) q r (zxg L) code d r'/\Bl.total r'<=Bl.total r+4096 * (1+18 * L.length):=by
 refine zzv ?_
 unfold zt5
 have hpl:=hS.lt
 have hH0:1 < H.size:=by obtain⟨_,_,_,h,_⟩:=hRo;exact lt_of_get h
 refine ji hw fun w1 hw1=>?_
 have hx1:Ext [] H w1.heap:=by rw [hw1];exact .push _
 have hd1:w1.heap[H.size]?=some (.cells (zc P zf) zf (0,0)):=by rw [hw1];exact zk
 refine qp rfl ?_
 refine zh (qeo rfl (hL.ext hx1 (by simp)) hn hm) ?_
 rintro e w3 ⟨x,rfl,hx3,h3⟩
 refine⟨(x,za3 L),rfl,?_⟩
 have hd3:=hx3.get hd1 (by simp)
 have hx03:=hx1.trans hx3
 have hn0:∀ {w':World}{H':Heap},H.size<=H'.size->Ext [] H H'->Ext [H.size] H' w'.heap->Ext fp H w'.heap:=fun _ hxa hxb=>(hxa.mono (by simp)).own hxb (fun c hc hlt=>by simp at hc;omega)
 have bad:∀ {H':Heap}{w':World}{code:Int},code≠0->ze0 L=code->Ext [] H H'->Ext [H.size] H' w'.heap->∃ code' d r' c' fp',Ending.returned (.tuple #[arr Bl.nought,.int .i64 code])=.returned (.tuple #[arr d,.int .i64 code'])/\d.length=32/\Bl.Store w'.heap fp' p q r' c'/\Ext fp H w'.heap/\(∀ b∈fp',b < w'.heap.size)/\(∀ b∈fp',b∈fp\/H.size<=b) /\
   z97 (ze0 L) q r (zxg L) code' d r'/\Bl.total r'<=Bl.total r+4096 * (1+18 * L.length):=by
  intro H' w' code h0' hc hxa hxb
  have hxx:Ext fp H w'.heap:=(hxa.mono (by simp)).own hxb (fun c hc hlt=>by simp at hc;omega)
  have hsz:=hxx.1
  refine⟨code,Bl.nought,r,c,fp,rfl,Bl.zjx,(hS.ext hxa (by simp)).ext hxb (fun b hb h=>by simp at h;have:=hfp b hb;omega),hxx,fun b hb=>by have:=hfp b hb;omega,fun b hb=>.inl hb,⟨fun _=>⟨hc.symm,rfl,rfl⟩,fun h=>absurd (hc.symm.trans h) h0'⟩,by omega⟩
 refine zbr (fun hc=>?_) (fun hc=>?_)
 ·exact zy9 rfl hd3 fun w4 hx4=>bad hc (by simp only at hc;rw [ze0,if_pos hc]) hx03 hx4
 simp only at hc
 have hchk:ze0 L=zcn L:=by rw [ze0,if_neg (by simpa using hc)]
 obtain⟨ms,rfl,hm3,hN3⟩:=h3 hc
 simp only [List.length_map] at *
 have hxl:x.2.1=ms.length:=by
  have:=hm3.len
  rw [xg zjc zim] at this
  omega
 refine zh (qew (ms:=ms) rfl hm3.cells hxl hm hN3) ?_
 rintro e w5 ⟨v,rfl,hx5,h5⟩
 refine⟨(v,zcn (ms.map (·.f))),rfl,?_⟩
 have hx05:=hx03.trans hx5
 have hd5:=hx5.get hd3 (by simp)
 refine ji rfl fun w6 hw6=>?_
 have hx6:Ext [] w5.heap w6.heap:=by rw [hw6];exact .push _
 have hb6:w6.heap[w5.heap.size]?=some (.cells #[.map none] zab (0,0)):=by rw [hw6,qjp];exact zk
 refine zb8 rfl hb6 (by simp) fun w7 hw7=>?_
 have hx7:Ext [] w5.heap w7.heap:=by rw [hw7];exact hx6.set_own (.inl (Nat.le_refl _))
 have hb7:w7.heap[w5.heap.size]?=some (.cells #[.map v] zab (0,0)):=by rw [hw7];exact qy hb6
 have hx07:=hx05.trans hx7
 have hd7:=hx7.get hd5 (by simp)
 refine zbr (fun hs=>?_) (fun hs=>?_)
 ·exact zy9 rfl hd7 fun w8 hx8=>bad hs hchk hx07 hx8
 simp only at hs
 obtain⟨mk,rfl,hK5⟩:=h5 hs
 obtain⟨n5,n8⟩:=qcy hs
 have hdl:=qf7 hc
 obtain⟨hperm,hrise⟩:=zlt (zm3 n5).1
 refine ji rfl fun w9 hw9=>?_
 have hx9:Ext [] w7.heap w9.heap:=by rw [hw9];exact .push _
 have hb9:w9.heap[w7.heap.size]?=some (.cells #[zdr (none,0,0)] zai (0,0)):=by rw [hw9,qil];exact zk
 refine ji rfl fun w10 hw10=>?_
 have hx10:Ext [] w9.heap w10.heap:=by rw [hw10];exact .push _
 have hf10:w10.heap[w9.heap.size]?=some (.cells (zc P zcx) zcx (0,0)):=by rw [hw10];exact zk
 refine qc (s:=.any) (zuf w5.heap.size w9.heap.size w7.heap.size) rfl ?_
 have s1:=lt_of_get hd1
 have s5:=hx03.1
 have s6:=lt_of_get hb7
 have s9:=lt_of_get hb9
 have s10:=lt_of_get hf10
 have sx5:=hx5.1
 have sx3:=hx3.1
 have hx010:=(hx07.trans hx9).trans hx10
 refine zbe (v:=zuf w5.heap.size w9.heap.size w7.heap.size) (by rw [qlk];rfl) (by simp [Value.cells,zuf]) (by intro v hv;simp [Value.cells,zuf] at hv;subst hv;rfl) rfl hf10 (by rw [qjg];simp [Value.cells,zuf]) fun w11 hw11=>?_
 have hset:setCells (zc P zcx) 0 (zuf w5.heap.size w9.heap.size w7.heap.size).cells.toList=#[zuf w5.heap.size w9.heap.size w7.heap.size]:=by
  rw [zau (by rw [qjg];rfl)];rfl
 rw [hset] at hw11
 have hx1011:Ext [w9.heap.size] w10.heap w11.heap:=by rw [hw11];exact Ext.set _ (by simp)
 have hx911:Ext [] w9.heap w11.heap:=by rw [hw11];exact hx10.set_own (.inl (Nat.le_refl _))
 have hf11:w11.heap[w9.heap.size]?=some (.cells #[zuf w5.heap.size w9.heap.size w7.heap.size] zcx (0,0)):=by rw [hw11];exact qy hf10
 refine jg (s:=.any) (t:=zuf w5.heap.size w9.heap.size w7.heap.size) rfl hf11 rfl ?_
 have hx711:=hx9.trans hx911
 have hx511:=hx7.trans hx711
 have hx011:=hx05.trans hx511
 have hD11:DirSt w11.heap w5.heap.size w9.heap.size w7.heap.size mk w11.heap.size (zjl (ms.map (·.f))) (none,0,0) []:=
  ⟨hx711.get hb7 (by simp),hf11,hx911.get hb9 (by simp),hK5.keep hx511 (by simp),.nil,hRo.ext hx011 (by simp),by omega⟩
 have s11:=hx911.1
 have hlen1:=z9n n5 hdl
 simp only [List.length_map] at hlen1
 refine zon (args:=#[.string (strOf (x9 []))]) ?_
 refine (qkt (zjl (ms.map (·.f))) (fun f hf=>hdl f (hperm.mem_iff.1 hf)) hrise (fun p=>qdf n5 n8 p) 9 (w:=w11) (p:=[]) rfl hD11 (by omega) (Nat.le_refl _) (by simp [okP]) (by simp) (by rw [zl3] at hlen1;rw [List.length_nil];omega)).mono ?_
 rintro e w12 ⟨x2,rfl,hD12,hx12,hs12⟩
 rw [<-zl3] at hD12 |-
 have h32:(zxg (ms.map (·.f))).2.length=32:=by rw [zl3];exact znu
 generalize zxg (ms.map (·.f))=T at *
 refine⟨arr T.2,rfl,?_⟩
 have hbl:zc8 w12.heap w11.heap.size x2 T.1:=hD12.blobs
 refine ji rfl fun w13 hw13=>?_
 have hx13:Ext [] w12.heap w13.heap:=by rw [hw13];exact .push _
 have hd13:w13.heap[w12.heap.size]?=some (.cells (zc P zf) zf (0,0)):=by rw [hw13];exact zk
 refine qea (k:=T.2) h32 rfl hd13 zcD fun w14 hw14=>?_
 have hx14:Ext [] w12.heap w14.heap:=by rw [hw14];exact hx13.set_own (.inl (Nat.le_refl _))
 have hd14:w14.heap[w12.heap.size]?=some (.cells (byteCells T.2).toArray zf (0,0)):=by rw [hw14];exact qy hd13
 refine jg (s:=.slc) (t:=x2) rfl (hx14.get hD12.b (by simp)) rfl ?_
 have hx012:Ext [] H w12.heap:=hx011.own hx12 (fun b hb hlt=>by
  rcases List.mem_cons.1 hb with h | h
  ·omega
  ·simp [jw] at h)
 have hx014:=hx012.trans hx14
 have s12:=hx12.1
 have s14:=hx14.1
 have hS14:=hS.ext hx014 (by simp)
 have htot:Bl.total r+4096 * T.1.length < 1125899906842624:=by omega
 refine zh (Bl.qei rfl hS14 (fun b hb=>by have:=hfp b hb;have:=hx014.1;omega) (hRo.ext hx014 (by simp)) h0 ((hbl.ext hx14 (by simp)).rows) htot hq hq2 hlen) ?_
 rintro e w15 ⟨code,r',c',fp',rfl,hS15,hx15,hf1,hf2,hP,ht⟩
 refine⟨code,rfl,?_⟩
 have s014:=hx014.1
 have nfp:∀ {b:Nat},H.size<=b->b∉fp:=fun h hb=>by have:=hfp _ hb;omega
 have hd14':w14.heap[H.size]?=some (.cells (zc P zf) zf (0,0)):=hx14.get (hx12.get (hx711.get hd7 (by simp)) (by simp [jw];omega)) (by simp)
 have hd15:=hx15.get hd14' (nfp (Nat.le_refl _))
 have he15:=hx15.get hd14 (nfp (by omega))
 have hx015:Ext fp H w15.heap:=(hx014.mono (by simp)).trans hx15
 have s15:=hx15.1
 have fin:∀ {w':World}{d:List UInt8},Ext [H.size] w15.heap w'.heap->d.length=32->d=(if code=0 then T.2 else Bl.nought)->∃ code' d' r'' c'' fp'',Ending.returned (.tuple #[arr d,.int .i64 code])=.returned (.tuple #[arr d',.int .i64 code'])/\d'.length=32/\Bl.Store w'.heap fp'' p q r'' c''/\Ext fp H w'.heap/\(∀ b∈fp'',b < w'.heap.size)/\(∀ b∈fp'',b∈fp\/H.size<=b) /\
   z97 (ze0 (ms.map (·.f))) q r T code' d' r''/\Bl.total r''<=Bl.total r+4096 * (1+18 * ms.length):=by
  intro w' d hxb hdl' hd'
  have s':=hxb.1
  refine⟨code,d,r',c',fp',rfl,hdl',hS15.ext hxb (fun b hb h=>?_),hx015.own hxb (fun c hc hlt=>by simp at hc;omega),fun b hb=>by have:=hf1 b hb;omega,fun b hb=>?_,⟨fun h=>absurd (hchk.trans hs) h,fun _=>⟨hP,hd'⟩⟩,by omega⟩
  ·simp at h;subst h
   rcases hf2 _ hb with h | h
   ·exact nfp (Nat.le_refl _) h
   ·omega
  ·rcases hf2 _ hb with h | h
   ·exact .inl h
   ·right;omega
 refine zbr (fun h1=>?_) (fun h1=>?_)
 ·exact zy9 rfl hd15 fun w16 hx16=>fin hx16 Bl.zjx (by rw [if_neg h1])
 ·refine xw rfl he15 (by simp [h32]) ?_
  refine qea (k:=T.2) h32 rfl hd15 zcD fun w17 hw17=>?_
  have hx17:Ext [H.size] w15.heap w17.heap:=by rw [hw17];exact Ext.set _ (by simp)
  have hd17:w17.heap[H.size]?=some (.cells (byteCells T.2).toArray zf (0,0)):=by rw [hw17];exact qy hd15
  refine xw rfl hd17 (by simp [h32]) ?_
  subst h1
  exact fin hx17 h32 (by rw [if_pos rfl])
end Go.Proofs.YthaaekcaaecdeaaGreatDoor
namespace Go.Proofs.YthaaekcaaecdeaaGreatDoor
open Go Go.Fw Go.Proofs Go.Sort
theorem qkb:P.underlying zch=some (.slice zx):=by kernel_rfl
theorem qlf:(P.info? zx).map (·.size)=some 1:=by kernel_rfl
theorem z95:∀ {S:List Fil}{f:Fil}{i:Nat},i<=S.length->(∀ g∈S.take i,zeb (nm g) (nm f) < 0)->(∀ g,S[i]?=some g->¬zeb (nm g) (nm f) < 0)->zyh S f=S.take i++f :: S.drop i
 | [],f,i,_,_,_=>by simp [zyh]
 | g :: S,f,0,_,_,h2=>by
  unfold zyh
  rw [if_neg (h2 g rfl)];rfl
 | g :: S,f,i+1,hi,h1,h2=>by
  unfold zyh
  rw [if_pos (h1 g (by simp)),z95 (by simpa using hi) (fun x hx=>h1 x (by simp [hx])) (fun x hx=>h2 x (by simpa using hx))]
  rfl
set_option maxHeartbeats 4000000 in
theorem qbe {w:World}{H:Heap}{x:Option Addr×Nat×Nat}{S:List Fil}{f:Fil}(hw:w.heap=H) (hL:Cells H x.1 (S.flatMap zb6)) (hl:x.2.1=S.length) (hc:x.2.1<=x.2.2) (hS:S.length<=1000000) :
  qj P zkt #[.slice x.1 x.2.1 x.2.2,.agg (zb6 f).toArray] w fun e w'=>∃ x',e=.returned (zdr x')/\Mine w'.heap H.size zn 3 x' ((zyh S f).flatMap zb6)/\Ext [] H w'.heap:=by
 refine zz2 ?_
 unfold zt8
 refine ji hw fun w1 hw1=>?_
 have hx1:Ext [] H w1.heap:=by rw [hw1];exact .push _
 have hb1:w1.heap[H.size]?=some (.cells (zb6 f).toArray zn (0,0)):=by rw [hw1];exact zk
 refine joinP_of (fun (s:Int) W=>∃ i:Nat,s=(i:Int)/\i<=S.length/\(∀ g∈S.take i,zeb (nm g) (nm f) < 0)/\(∀ g,S[i]?=some g->¬zeb (nm g) (nm f) < 0)/\Ext [] w1.heap W.heap) ?_ ?_
 ·refine zae (fun (s:Int) W=>∃ i:Nat,s=(i:Int)/\i<=S.length/\(∀ g∈S.take i,zeb (nm g) (nm f) < 0)/\Ext [] w1.heap W.heap) (fun s _=>(S.length-s).toNat) ⟨0,rfl,Nat.zero_le _,by simp,.refl _ _⟩ ?_
  rintro _ W ⟨i,rfl,hi,hlo,hxW⟩
  refine joinP_of (fun _ W'=>i < S.length/\(∀ g∈S.take (i+1),zeb (nm g) (nm f) < 0)/\Ext [] w1.heap W'.heap) ?_ ?_
  rotate_left
  ·rintro _ W' ⟨g1,g2,g3⟩
   refine jr ((i+1:Nat):Int) (by simp) (by omega) (by omega) ?_
   exact⟨⟨i+1,rfl,by omega,g2,g3⟩,by omega⟩
  refine vw rfl fun w3 hw3=>?_
  have hxW3:Ext [] w1.heap w3.heap:=by rw [hw3];exact hxW
  have hb3:=hxW3.get hb1 (by simp)
  refine zy (fun hlt=>?_) (fun hge=>?_)
  ·have hil:i < S.length:=by omega
   have hget:=List.getElem?_eq_getElem hil
   generalize S[i]=g at hget
   refine Bl.zn9 (i:=i) zdz (by omega) (hL.ext (hx1.trans hxW3) (by simp)) hl hget rfl fun b o c T fr _ hb hsz hcc _=>?_
   refine jg (s:=.str) (t:=strOf g.path) rfl hb (hcc 0 (by omega)) ?_
   refine jg (s:=.str) (t:=strOf f.path) rfl hb3 rfl ?_
   refine zh (z6l g.path rfl) ?_
   rintro e w4 ⟨y,rfl,hm4,hx4⟩
   refine⟨y,rfl,⟨jg (s:=.str) (o:=0) (t:=strOf f.path) (K:=fun z=>Value.string z=Value.string (strOf f.path)) rfl (hx4.get hb3 (by simp)) rfl rfl,?_⟩⟩
   refine zh (z6l f.path rfl) ?_
   rintro e w5 ⟨z,rfl,hm5,hx5⟩
   refine⟨z,rfl,?_⟩
   have hm4:Mine w4.heap w3.heap.size qx 1 y (strRow (nm g)):=hm4
   have hm5:Mine w5.heap w4.heap.size qx 1 z (strRow (nm f)):=hm5
   have hyl:y.2.1=(nm g).length:=by have:=hm4.len;simp at this;omega
   have hzl:z.2.1=(nm f).length:=by have:=hm5.len;simp at this;omega
   have h8:=(zk3 g).2
   refine zh (zyq rfl (hm4.ext hx5 (by simp)).cells hyl hm5.cells hzl (by omega)) ?_
   rintro e w6 ⟨rfl,hw6⟩
   refine⟨zeb (nm g) (nm f),rfl,?_⟩
   have hx6:Ext [] w1.heap w6.heap:=by rw [hw6];exact (hxW3.trans hx4).trans hx5
   refine zy (fun h=>?_) (fun h=>?_)
   ·exact⟨hil,zd2 hget hlo h,hx6⟩
   ·exact⟨i,rfl,hi,hlo,fun g' hg'=>by rw [hget] at hg';cases hg';exact h,hx6⟩
  ·refine⟨rfl,i,rfl,hi,hlo,fun g hg=>?_,hxW3⟩
   have:=(List.getElem?_eq_some_iff.1 hg).1
   omega
 ·rintro _ W ⟨i,rfl,hi,hlo,hhi,hxW⟩
  have hx:=hx1.trans hxW
  have hLW:=hL.ext hx (by simp)
  refine ql9 rfl fun w9 hx9 hm9=>?_
  obtain⟨a1,r1,c1⟩:=zrz (T:=qm) (l:=x.2.1) (c:=x.2.2) (i:=i) uFs ql3 (hLW.ext hx9 (by simp)) hc (by omega) rfl
  refine qc (s:=.slc) (a1,i,x.2.2) (r1 _) ?_
  rw [qje hi] at c1
  refine qj8 (ys:=S.take i) rfl hm9 (by have:=hx9.1;omega) c1 (by simp;omega) (by simp;omega) fun x3 w10 hm10 hx10=>?_
  have h0:∀ b∈jw (some (⟨W.heap.size,0,none⟩:Addr),0,0),W.heap.size<=b:=by simp [jw]
  have s9:=hx9.1
  have s10:=hx10.1
  have sW:=hx.1
  have lb1:=lt_of_get hb1
  have sxW:=hxW.1
  have hx910:Ext [] W.heap w10.heap:=hx9.own hx10 (fun c hc hlt=>by have:=h0 c hc;omega)
  have hb10:=hx910.get (hxW.get hb1 (by simp)) (by simp)
  refine xw rfl hb10 rfl ?_
  refine qlt f rfl fun a2 w11 hx11 hc11=>?_
  have hx911:=hx910.trans hx11
  refine qj8 (ys:=[f]) rfl (hm10.ext hx11 (by simp)) (by have:=hx11.1;omega) hc11 rfl (by simp;omega) fun x4 w12 hm12 hx12=>?_
  have g3:=jo hm10
  have hx912:Ext [] W.heap w12.heap:=hx911.own hx12 (fun c hc hlt=>by have:=g3 c hc;omega)
  obtain⟨a3,r3,c3⟩:=qcu (T:=qm) (l:=x.2.1) (c:=x.2.2) (i:=i) uFs ql3 (hLW.ext hx912 (by simp)) (by rw [z9b,hl]) hc (by omega) rfl
  refine qc (s:=.slc) (a3,x.2.1-i,x.2.2-i) (r3 _) ?_
  rw [qhw hi] at c3
  refine qj8 (ys:=S.drop i) rfl hm12 (by have:=hx12.1;have:=hx11.1;omega) c3 (by simp;omega) (by simp;omega) fun x5 w13 hm13 hx13=>?_
  have g4:=jo hm12
  have hx913:Ext [] W.heap w13.heap:=hx912.own hx13 (fun c hc hlt=>by have:=g4 c hc;omega)
  refine⟨x5,rfl,?_,hx.trans hx913⟩
  rw [z95 hi hlo hhi]
  have e:([]++S.take i++[f]++S.drop i)=S.take i++f :: S.drop i:=by simp
  rw [e] at hm13
  exact hm13.mono sW
abbrev NR:=(Option Addr×Nat×Nat)×Path
def encR (y:NR):List Value:=[zdr y.1]
theorem z6a (y:NR):(encR y).length=1:=rfl
theorem z6i (ys:List NR):ys.flatMap encR=ys.map fun y=>zdr y.1:=by
 induction ys with
 | nil=>rfl
 | cons y ys ih=>rw [List.flatMap_cons,ih];rfl
def z1e (H:Heap) (y:NR):Prop:=Mine H 0 qx 1 y.1 (strRow y.2)
theorem z5v {w:World}{H:Heap}{a b:Option Addr}{n nc m mc:Nat}{ys:List NR}{p:Path}(hw:w.heap=H) (hL:Cells H a (ys.flatMap encR)) (hn:n=ys.length) (hy:∀ y∈ys,z1e H y) (h8:∀ y∈ys,y.2.length<=8) (hys:ys.length<=65536) (hp:Cells H b (strRow p)) (hm:m=p.length) :
  qj P zid #[.slice a n nc,.slice b m mc] w fun e w'=>w'.heap=H/\((e=.returned (.int .i64 (-1))/\∀ y∈ys,y.2≠p)\/∃ (i:Nat) (y:NR),e=.returned (.int .i64 (i:Int))/\ys[i]?=some y/\y.2=p):=by
 refine z1m ?_
 unfold zvm
 refine zae (fun (s:Int) W=>∃ i:Nat,s=(i:Int)/\i<=ys.length/\(∀ y∈ys.take i,y.2≠p)/\W.heap=H) (fun s _=>(ys.length-s).toNat) ⟨0,rfl,Nat.zero_le _,by simp,hw⟩ ?_
 rintro _ W ⟨i,rfl,hi,hno,hW⟩
 refine zy (fun hlt=>?_) (fun hge=>?_)
 ·have hil:i < ys.length:=by omega
  have hget:=List.getElem?_eq_getElem hil
  have hmem:ys[i]∈ys:=List.getElem_mem hil
  generalize ys[i]=y at hget hmem
  refine Bl.zn9 (i:=i) z6a (by omega) hL hn hget rfl fun b' o c T fr _ hb hsz hcc _=>?_
  refine jg (s:=.slc) (t:=y.1) hW hb (hcc 0 (by omega)) ?_
  have hyl:y.1.2.1=y.2.length:=by have:=Mine.len (hy y hmem);simp at this;omega
  have:=h8 y hmem
  refine zh (zyq hW (hy y hmem).cells hyl hp hm (by omega)) ?_
  rintro e w2 ⟨rfl,hw2⟩
  refine⟨zeb y.2 p,rfl,?_⟩
  refine zba (fun h=>?_) (fun h=>?_)
  ·exact⟨hw2,.inr ⟨i,y,rfl,hget,zds.1 h⟩⟩
  ·refine jr ((i+1:Nat):Int) (by simp) (by omega) (by omega) ?_
   refine⟨⟨i+1,rfl,by omega,fun z hz=>?_,hw2⟩,by omega⟩
   rw [List.take_add_one,hget] at hz
   rcases List.mem_append.1 hz with hz | hz
   ·exact hno z hz
   ·simp at hz;rw [hz];exact fun e=>h (zds.2 e)
 ·obtain rfl:i=ys.length:=by omega
  rw [List.take_length] at hno
  exact⟨hW,.inl ⟨rfl,hno⟩⟩
theorem ERs:Elem P zx 1 24:=zii (z:=.slice none 0 0) (by kernel_rfl) rfl
def zne (H:Heap) (B:Nat) (x:Option Addr×Nat×Nat) (ps:List Path):Prop:=
 ∃ ys:List NR,Mine H B zx 1 x (ys.flatMap encR)/\ys.map (·.2)=ps/\∀ y∈ys,z1e H y
theorem zne.nil {H:Heap}{B:Nat}:zne H B (none,0,0) []:=⟨[],.inl ⟨rfl,rfl⟩,rfl,by simp⟩
theorem qmi (ys:List NR):(ys.flatMap encR).length=ys.length:=by rw [z6i];simp
theorem zne.len {H:Heap}{B:Nat}{x:Option Addr×Nat×Nat}{ps:List Path}(h:zne H B x ps):x.2.1=ps.length:=by
 obtain⟨ys,h1,h2,_⟩:=h
 have:=h1.len
 rw [qmi] at this
 rw [<-h2];simp;omega
theorem zne.ext {H H':Heap}{B:Nat}{x:Option Addr×Nat×Nat}{ps:List Path}(h:zne H B x ps) (hx:Ext [] H H'):zne H' B x ps:=by
 obtain⟨ys,h1,h2,h3⟩:=h
 exact⟨ys,h1.ext hx (by simp),h2,fun y hy=>Mine.ext (h3 y hy) hx (by simp)⟩
theorem zne.ge {H:Heap}{B:Nat}{x:Option Addr×Nat×Nat}{ps:List Path}(h:zne H B x ps):∀ b∈jw x,B<=b:=by
 obtain⟨ys,h1,_⟩:=h
 exact jo h1
theorem qes {w:World}{H:Heap}{B B2:Nat}{x y:Option Addr×Nat×Nat}{ps:List Path}{p:Path}(hw:w.heap=H) (hB:zne H B x ps) (hBs:B<=H.size) (hy:Mine H B2 qx 1 y (strRow p)) (hlen:ps.length<=1073741824){K:(Option Addr×Nat×Nat)->World->Prop}
  (hK:∀ x' w',zne w'.heap B x' (ps++[p])->Ext (jw x) H w'.heap->K x' w') :
  za2 P (Instr.buildSlice zch 1 #[(0,(Value.slice y.1 y.2.1 y.2.2))]) .slc w fun (t15:(Option Addr×Nat×Nat)) w_4=>
  za2 P (Builtin.append_ #[zch,zch] zch #[(Value.slice x.1 x.2.1 x.2.2),(Value.slice t15.1 t15.2.1 t15.2.2)]) .slc w_4 K:=by
 have hl:=hB.len
 obtain⟨ys,h1,h2,h3⟩:=hB
 have hylen:ys.length=ps.length:=by rw [<-h2];simp
 refine zaf (s:=.slc) (some ⟨w.heap.size,0,none⟩,1,1) _ (zee ERs qkb (v:=.slice y.1 y.2.1 y.2.2) rfl (by omega) (by omega)) ?_
 subst hw
 have hxp:Ext [] w.heap (w.heap.push (.cells (Value.slice y.1 y.2.1 y.2.2).cells zx)):=.push _
 refine zbx (n:=1) (us:=[zdr y]) (H:=w.heap.push (.cells (Value.slice y.1 y.2.1 y.2.2).cells zx)) ERs (by omega) qkb (zar qkb) rfl (h1.ext hxp (by simp)) (by simp;omega)
  (Src.slc rfl (.inr ⟨w.heap.size,0,_,_,_,rfl,zk,by simp [Value.cells],by simp [Value.cells,zdr]⟩) rfl) (by intro v hv;simp at hv;subst hv;rfl) (by omega) ?_
 intro x' w4 hm4 hl4 hx4 hs4
 have hx04:Ext (jw x) w.heap w4.heap:=(hxp.mono (by simp)).trans hx4
 refine hK x' w4 ⟨ys++[(y,p)],by rw [List.flatMap_append,List.flatMap_singleton];exact hm4,by simp [h2],fun z hz=>?_⟩ hx04
 rcases List.mem_append.1 hz with hz | hz
 ·exact Mine.ext (h3 z hz) hx04 (zf0 (h3 z hz) h1 (by decide))
 ·simp only [List.mem_singleton] at hz
  subst hz
  exact Mine.ext (hy.mono (Nat.zero_le _)) hx04 (zf0 hy h1 (by decide))
theorem qiu {L:List Fil}(h5:¬zzu L){f g:Fil}(hf:f∈L) (hg:g∈L) (e:nm f=nm g):f=g:=by
 obtain⟨i,hi,rfl⟩:=List.getElem_of_mem hf
 obtain⟨j,hj,rfl⟩:=List.getElem_of_mem hg
 rcases Nat.lt_trichotomy i j with h | h | h
 ·exact absurd ⟨j,hj,.inr ⟨L[i],List.mem_take_iff_getElem.2 ⟨i,by omega,rfl⟩,e⟩⟩ h5
 ·subst h;rfl
 ·exact absurd ⟨i,hi,.inr ⟨L[j],List.mem_take_iff_getElem.2 ⟨j,by omega,rfl⟩,e.symm⟩⟩ h5
theorem zya:∀ {S:List Fil}{f:Fil},zyh (S.map clean) (clean f)=(zyh S f).map clean
 | [],f=>rfl
 | g :: S,f=>by
  simp only [List.map_cons,zyh,zzg]
  split
  ·rw [List.map_cons,zya]
  ·rfl
theorem z8a {f:Fil}:(zb6 f).toArray.setIfInBounds 0 (.string (strOf (x9 (nm f))))=(zb6 (clean f)).toArray:=by
 simp [zb6,clean]
theorem zk9 {H:Heap}{a:Option Addr}{n i:Nat}{m:Int}{ys:List NR}{L:List Fil}{f:Fil}(hL:Cells H a (ys.flatMap encR)) (hn:n=ys.length) (hy:∀ y∈ys,z1e H y) (he:ys.map (·.2)=L.map nm) (hi:L[i]?=some f) (hm:m=(i:Int)){K:Addr->Prop}
  (hK:∀ (b o:Nat) c T fr (z:Option Addr×Nat×Nat),H[b]?=some (.cells c T fr)->c[o]?=some (zdr z)->z1e H (z,nm f)->K ⟨b,o,none⟩):ixS a n 1 m K:=by
 have h1:(ys.map (·.2))[i]?=(L.map nm)[i]?:=by rw [he]
 rw [List.getElem?_map,List.getElem?_map,hi] at h1
 cases hg:ys[i]? with
 | none=>rw [hg] at h1;cases h1
 | some y=>
  rw [hg] at h1
  simp only [Option.map_some,Option.some.injEq] at h1
  have hmem:y∈ys:=List.mem_of_getElem? hg
  refine Bl.zn9 (i:=i) z6a (by omega) hL hn hg hm fun b o c T fr _ hb hsz hcc _=>?_
  refine hK b o c T fr y.1 hb (hcc 0 (by omega)) ?_
  have:=hy y hmem
  rw [<-h1];exact this
theorem z1e.len {H:Heap}{z:Option Addr×Nat×Nat}{p:Path}(h:z1e H (z,p)):z.2.1=p.length:=by
 have:=Mine.len h
 simp at this;omega
theorem z6r {H:Heap}{z:Option Addr×Nat×Nat}{p:Path}(h:z1e H (z,p)) (hp:p≠[]){n:Int}(hn:n=((p.length-1:Nat):Int)) :
  ∃ a',(∀ w,(Instr.sliceAt zx (.slice z.1 z.2.1 z.2.2) none (some (.int .i64 n)) none).run P w=.ok (.slice a' (p.length-1) z.2.2) w)/\Cells H a' (strRow p.dropLast):=by
 have hl:=h.len
 obtain⟨a',h1,h2⟩:=zrz (T:=zx) (l:=z.2.1) (c:=z.2.2) (i:=p.length-1) zj6 zs9 (Mine.cells h) (zhi h) (by omega) hn
 refine⟨a',h1,?_⟩
 rw [List.dropLast_eq_take]
 have:(strRow p).take ((p.length-1) * 1)=strRow (p.take (p.length-1)):=by simp [strRow,List.map_take]
 rw [<-this];exact h2
structure Seen (H:Heap) (a:Option Addr) (x:Option Addr×Nat×Nat) (ys:List NR) (L:List Fil):Prop where
 row:Cells H a (L.flatMap zb6)
 cells:Cells H x.1 (ys.flatMap encR)
 len:x.2.1=ys.length
 cap:x.2.1<=x.2.2
 path:∀ y∈ys,z1e H y
 eq:ys.map (·.2)=L.map nm
theorem Seen.ext {H H':Heap}{a:Option Addr}{x:Option Addr×Nat×Nat}{ys:List NR}{L:List Fil}(h:Seen H a x ys L) (hx:Ext [] H H'):Seen H' a x ys L:=
 ⟨h.row.ext hx (by simp),h.cells.ext hx (by simp),h.len,h.cap,fun y hy=>Mine.ext (h.path y hy) hx (by simp),h.eq⟩
theorem qdy {w:World}{H:Heap}{a:Option Addr}{n:Nat}{x:Option Addr×Nat×Nat}{ys:List NR}{L:List Fil}(hw:w.heap=H) (hN:Seen H a x ys L) (hn:n=L.length) (hm:L.length<=65536){R:(Option Addr×Nat×Nat)×Int->World->Prop}
  (hR:∀ x' (i:Int) w',Mine w'.heap H.size zn 3 x' (((zjl L).map clean).flatMap zb6)->Ext [] H w'.heap->R (x',i) w') :
  za4 ((Option Addr×Nat×Nat)×Int) (fun s_14 w_24 k_14=>
  qw (decide (s_14.2 < (n:Int))) (
  ixS a n 3 s_14.2 fun t193=>
  ldA P 3 t193 w_24 fun t194=>
  zat (zc P zn) zn w_24 fun b20 w_25=>
  zah P (storeVar zn (⟨b20,0,none⟩:Addr) (Value.agg t194)) w_25 fun w_26=>
  ixS x.1 x.2.1 1 s_14.2 fun t197=>
  ld .slc t197 w_26 fun (t198:(Option Addr×Nat×Nat))=>
  ql P zor #[(Value.slice t198.1 t198.2.1 t198.2.2)] [.str] false w_26 fun (t199:ByteArray) w_27=>
  stC (⟨b20,0,none⟩:Addr) (Value.string t199) w_27 fun w_28=>
  ldA P 3 (⟨b20,0,none⟩:Addr) w_28 fun t202=>
  ql P zkt #[(Value.slice s_14.1.1 s_14.1.2.1 s_14.1.2.2),(Value.agg t202)] [.slc] false w_28 fun (t203:(Option Addr×Nat×Nat)) w_29=>
  zbz .i64 s_14.2 1 fun t190=>
  k_14 ((t203.1,t203.2.1,t203.2.2),t190) w_29) (
  R s_14 w_24)) ((none,0,0),0) w:=by
 refine zae (fun (s:(Option Addr×Nat×Nat)×Int) W=>∃ i:Nat,s.2=(i:Int)/\i<=L.length/\Ext [] H W.heap/\Mine W.heap H.size zn 3 s.1 (((zjl (L.take i)).map clean).flatMap zb6)/\(zjl (L.take i)).length=i) (fun s _=>(L.length-s.2).toNat)
  ⟨0,rfl,Nat.zero_le _,by rw [hw];exact .refl _ _,.inl ⟨rfl,rfl⟩,rfl⟩ ?_
 rintro ⟨x',_⟩ W ⟨i,rfl,hi,hx,hmW,hsl⟩
 refine zy (fun hlt=>?_) (fun hge=>?_)
 ·have hil:i < L.length:=by simp only at hlt;omega
  have hget:=List.getElem?_eq_getElem hil
  generalize L[i]=f at hget
  refine zff (i:=i) zdz (by omega) rfl (hN.ext hx).row hn hget rfl ?_
  refine qhj f rfl fun w3 hw3=>?_
  have hx3:Ext [] W.heap w3.heap:=by rw [hw3];exact .push _
  have hb3:w3.heap[W.heap.size]?=some (.cells (zb6 f).toArray zn (0,0)):=by rw [hw3];exact zk
  have hN3:=hN.ext (hx.trans hx3)
  refine zk9 (i:=i) hN3.cells hN3.len hN3.path hN3.eq hget rfl fun b o c T fr z hb hc hp=>?_
  refine jg (s:=.slc) (t:=z) rfl hb hc ?_
  have hsm:=(zk3 f).small
  refine zh (qf6 (p:=nm f) rfl (Mine.cells hp) hp.len (by omega)) ?_
  rintro e w4 ⟨rfl,rfl⟩
  refine⟨strOf (x9 (nm f)),rfl,?_⟩
  refine zb8 rfl hb3 (by simp [zb6]) fun w5 hw5=>?_
  have hx5:Ext [] W.heap w5.heap:=by rw [hw5];exact hx3.set_own (.inl (Nat.le_refl _))
  have hb5:w5.heap[W.heap.size]?=some (.cells (zb6 (clean f)).toArray zn (0,0)):=by rw [hw5,<-z8a];exact qy hb3
  refine xw rfl hb5 rfl ?_
  have hm5:Mine w5.heap H.size zn 3 x' (((zjl (L.take i)).map clean).flatMap zb6):=hmW.ext hx5 (by simp)
  have hl5:x'.2.1=((zjl (L.take i)).map clean).length:=by have:=hm5.len;rw [z9b] at this;omega
  refine zh (qbe (f:=clean f) rfl hm5.cells hl5 (zhi hm5) (by simp;omega)) ?_
  rintro e w6 ⟨x6,rfl,hm6,hx6⟩
  refine⟨x6,rfl,?_⟩
  refine jr ((i+1:Nat):Int) (by simp) (by omega) (by omega) ?_
  have hs:zjl (L.take (i+1))=zyh (zjl (L.take i)) f:=by unfold zjl;rw [List.take_add_one,hget];simp
  have s1:=(hx.trans hx5).1
  refine⟨⟨i+1,rfl,by omega,(hx.trans hx5).trans hx6,?_,?_⟩,by simp only;omega⟩
  ·rw [hs,<-zya];exact hm6.mono s1
  ·rw [hs,(zq2 _ _).length_eq];simp [hsl]
 ·obtain rfl:i=L.length:=by simp only at hge;omega
  rw [List.take_length] at hmW
  exact hR x' _ W hmW hx
theorem qiy {ys:List NR}{i:Nat}(hi:i<=ys.length):(ys.flatMap encR).take (i * 1)=(ys.take i).flatMap encR:=by
 simp [z6i,List.map_take]
theorem Seen.none {H:Heap}{a:Option Addr}{x:Option Addr×Nat×Nat}{ys:List NR}{L:List Fil}(h:Seen H a x ys L){i:Nat}{p:Path}(hno:∀ y∈ys.take i,y.2≠p):∀ g∈L.take i,nm g≠p:=by
 intro g hg e
 have h1:(ys.take i).map (·.2)=(L.take i).map nm:=by rw [List.map_take,h.eq,List.map_take]
 have:p∈(ys.take i).map (·.2):=by rw [h1];exact List.mem_map.2 ⟨g,hg,e⟩
 obtain⟨y,hy,e2⟩:=List.mem_map.1 this
 exact hno y hy e2
theorem Seen.at {H:Heap}{a:Option Addr}{x:Option Addr×Nat×Nat}{ys:List NR}{L:List Fil}(h:Seen H a x ys L){j:Nat}{y:NR}(hy:ys[j]?=some y):∃ g,L[j]?=some g/\nm g=y.2:=by
 have h1:(ys.map (·.2))[j]?=(L.map nm)[j]?:=by rw [h.eq]
 rw [List.getElem?_map,List.getElem?_map,hy] at h1
 cases hg:L[j]? with
 | none=>rw [hg] at h1;cases h1
 | some g=>
  rw [hg] at h1
  simp only [Option.map_some,Option.some.injEq] at h1
  exact⟨g,rfl,h1.symm⟩
theorem Seen.small {H:Heap}{a:Option Addr}{x:Option Addr×Nat×Nat}{ys:List NR}{L:List Fil}(h:Seen H a x ys L):∀ y∈ys,y.2.length<=8:=by
 intro y hy
 have:y.2∈L.map nm:=by rw [<-h.eq];exact List.mem_map.2 ⟨y,hy,rfl⟩
 obtain⟨g,_,e⟩:=List.mem_map.1 this
 rw [<-e];exact (zk3 g).2
theorem Seen.count {H:Heap}{a:Option Addr}{x:Option Addr×Nat×Nat}{ys:List NR}{L:List Fil}(h:Seen H a x ys L):ys.length=L.length:=by
 have:=congrArg List.length h.eq
 simpa using this
set_option maxHeartbeats 4000000 in
theorem qjn {w:World}{H:Heap}{a:Option Addr}{n:Nat}{x:Option Addr×Nat×Nat}{ys:List NR}{L:List Fil}(hw:w.heap=H) (hN:Seen H a x ys L) (hn:n=L.length) (hm:L.length<=65536){Rb Rn:World->Prop}
  (hb:zzu L->∀ w',w'.heap=H->Rb w') (hno:¬zzu L->∀ w',w'.heap=H->Rn w') :
  za4 Int (fun s_5 w_9 k_5=>
  qw (decide (s_5 < (n:Int))) (
  Go.Fw.joinP Unit (fun k_6=>
  Go.Fw.joinP Unit (fun k_7=>
  za5 w_9 fun w_10=>
  ixS x.1 x.2.1 1 s_5 fun t83=>
  ld .slc t83 w_10 fun (t84:(Option Addr×Nat×Nat))=>
  qw ((t84.2.1:Int)==0) (
  Rb w_10) (
  ixS x.1 x.2.1 1 s_5 fun t93=>
  zad P (Instr.sliceAt zch (Value.slice x.1 x.2.1 x.2.2) none (some (Value.int .i64 s_5)) none) .slc w_10 fun (t90:(Option Addr×Nat×Nat))=>
  ld .slc t93 w_10 fun (t94:(Option Addr×Nat×Nat))=>
  ql P zid #[(Value.slice t90.1 t90.2.1 t90.2.2),(Value.slice t94.1 t94.2.1 t94.2.2)] [.int .i64] false w_10 fun (t95:Int) w_11=>
  qw (decide (t95>=0)) (
  Rb w_11) (
  k_7 () w_11))) (fun _ w_12=>
  k_6 () w_12)) (fun _ w_13=>
  zbz .i64 s_5 1 fun t80=>
  k_5 t80 w_13)) (
  Rn w_9)) 0 w:=by
 have hyl:=hN.count
 refine zae (fun (s:Int) W=>∃ i:Nat,s=(i:Int)/\i<=L.length/\W.heap=H/\∀ j (h:j < L.length),j < i->nm L[j]≠[]/\∀ g∈L.take j,nm g≠nm L[j]) (fun s _=>(L.length-s).toNat) ⟨0,rfl,Nat.zero_le _,hw,by omega⟩ ?_
 rintro _ W ⟨i,rfl,hi,hW,hok⟩
 refine zy (fun hlt=>?_) (fun hge=>?_)
 ·have hil:i < L.length:=by omega
  have hget:=List.getElem?_eq_getElem hil
  generalize hf:L[i]=f at hget
  refine jf (jf ?_)
  refine vw hW fun w10 hw10=>?_
  refine zk9 (i:=i) hN.cells hN.len hN.path hN.eq hget rfl fun b o c T fr z hbb hc hp=>?_
  refine jg (s:=.slc) (t:=z) hw10 hbb hc ?_
  have hzl:=hp.len
  refine zba (fun h0=>?_) (fun h0=>?_)
  ·exact hb ⟨i,hil,.inl (by rw [hf];exact List.length_eq_zero_iff.1 (by omega))⟩ _ hw10
  refine zk9 (i:=i) hN.cells hN.len hN.path hN.eq hget rfl fun b2 o2 c2 T2 fr2 z2 hbb2 hc2 hp2=>?_
  have hz2l:=hp2.len
  obtain⟨a1,r1,c1⟩:=zrz (T:=zch) (l:=x.2.1) (c:=x.2.2) (i:=i) qkb qlf hN.cells hN.cap (by have:=hN.len;omega) rfl
  refine qc (s:=.slc) (a1,i,x.2.2) (r1 _) ?_
  rw [qiy (by omega)] at c1
  refine jg (s:=.slc) (t:=z2) hw10 hbb2 hc2 ?_
  refine zh (z5v (ys:=ys.take i) (p:=nm f) hw10 c1 (by simp;omega) (fun y hy=>hN.path y (List.mem_of_mem_take hy)) (fun y hy=>hN.small y (List.mem_of_mem_take hy)) (by simp;omega) (Mine.cells hp2) hz2l) ?_
  rintro e w11 ⟨hw11,⟨rfl,hnone⟩ | ⟨j,y,rfl,hj,hyp⟩⟩
  ·refine⟨-1,rfl,qp rfl ?_⟩
   refine jr ((i+1:Nat):Int) (by simp) (by omega) (by omega) ?_
   refine⟨⟨i+1,rfl,by omega,hw11,fun j hj hji=>?_⟩,by omega⟩
   by_cases e:j=i
   ·subst e
    rw [hf]
    exact⟨fun h=>h0 (by rw [hzl,h];rfl),hN.none hnone⟩
   ·exact hok j hj (by omega)
  ·refine⟨(j:Int),rfl,jh (by simp) ?_⟩
   obtain⟨g,hg,hgn⟩:=hN.at (j:=j) (y:=y) (by
    rw [List.getElem?_take] at hj
    split at hj
    ·exact hj
    ·cases hj)
   have hji:j < i:=by
    rw [List.getElem?_take] at hj
    split at hj
    ·assumption
    ·cases hj
   refine hb ⟨i,hil,.inr ⟨g,List.mem_take_iff_getElem.2 ⟨j,by omega,(List.getElem?_eq_some_iff.1 hg).2⟩,?_⟩⟩ _ hw11
   rw [hf,hgn,hyp]
 ·obtain rfl:i=L.length:=by omega
  refine hno ?_ _ hW
  rintro ⟨j,hj,h | ⟨g,hg,e⟩⟩
  ·exact (hok j hj hj).1 h
  ·exact (hok j hj hj).2 g hg e
set_option maxHeartbeats 4000000 in
theorem qh7 {w:World}{H:Heap}{a:Option Addr}{n:Nat}{x:Option Addr×Nat×Nat}{ys:List NR}{L:List Fil}(hw:w.heap=H) (hN:Seen H a x ys L) (hn:n=L.length) (hm:L.length<=65536) (h5:¬zzu L){Rb:World->Prop}{Rn:Bool×Int->World->Prop}
  (hb:z9h L->∀ w',w'.heap=H->Rb w') (hno:¬z9h L->∀ (t:Bool) (i:Int) w',(t=true ↔ zxx L)->w'.heap=H->Rn (t,i) w') :
  za4 (Bool×Int) (fun s_8 w_14 k_8=>
  qw (decide (s_8.2 < (n:Int))) (
  Go.Fw.joinP Bool (fun k_9=>
  za5 w_14 fun w_15=>
  ixS x.1 x.2.1 1 s_8.2 fun t106=>
  ixS x.1 x.2.1 1 s_8.2 fun t110=>
  ld .slc t106 w_15 fun (t107:(Option Addr×Nat×Nat))=>
  ld .slc t110 w_15 fun (t111:(Option Addr×Nat×Nat))=>
  zo5 .i64 (t111.2.1:Int) 1 fun t113=>
  zad P (Instr.sliceAt zx (Value.slice t107.1 t107.2.1 t107.2.2) none (some (Value.int .i64 t113)) none) .slc w_15 fun (t114:(Option Addr×Nat×Nat))=>
  ql P zid #[(Value.slice x.1 x.2.1 x.2.2),(Value.slice t114.1 t114.2.1 t114.2.2)] [.int .i64] false w_15 fun (t117:Int) w_16=>
  Go.Fw.joinP Unit (fun k_10=>
  qw (decide ((t114.2.1:Int) > 0)) (
  qw (decide (t117 < 0)) (
  Rb w_16) (
  k_10 () w_16)) (
  k_10 () w_16)) (fun _ w_17=>
  qw s_8.1 (
  k_9 true w_17) (
  qw (decide ((t114.2.1:Int) > 0)) (
  ixS a n 3 t117 fun t133=>
  ld .bool (Addr.add t133 1) w_17 fun (t135:Bool)=>
  k_9 (!t135) w_17) (
  k_9 false w_17)))) (fun s_10 w_18=>
  zbz .i64 s_8.2 1 fun t103=>
  k_8 (s_10,t103) w_18)) (
  Rn s_8 w_14)) (false,0) w:=by
 have hyl:=hN.count
 refine zae (fun (s:Bool×Int) W=>∃ i:Nat,s.2=(i:Int)/\i<=L.length/\W.heap=H/\(∀ f∈L.take i,(nm f).dropLast≠[]->∃ g∈L,nm g=(nm f).dropLast)/\(s.1=true ↔ ∃ f∈L.take i,∃ g∈L,nm g=(nm f).dropLast/\g.dir=false)) (fun s _=>(L.length-s.2).toNat)
  ⟨0,rfl,Nat.zero_le _,hw,by simp,by simp⟩ ?_
 rintro ⟨t,_⟩ W ⟨i,rfl,hi,hW,hok,hfl⟩
 simp only at hfl
 refine zy (fun hlt=>?_) (fun hge=>?_)
 ·have hil:i < L.length:=by simp only at hlt;omega
  have hget:=List.getElem?_eq_getElem hil
  have hmem:L[i]∈L:=List.getElem_mem hil
  have hne:nm L[i]≠[]:=(zm3 h5).2 _ hmem
  generalize hf:L[i]=f at hget hmem hne
  refine joinP_of (fun (t':Bool) W'=>W'.heap=H/\((nm f).dropLast≠[]->∃ g∈L,nm g=(nm f).dropLast)/\(t'=true ↔ t=true\/∃ g∈L,nm g=(nm f).dropLast/\g.dir=false)) ?_ ?_
  rotate_left
  ·rintro t' W' ⟨g1,g2,g3⟩
   refine jr ((i+1:Nat):Int) (by simp) (by omega) (by omega) ?_
   refine⟨⟨i+1,rfl,by omega,g1,zd2 hget hok g2,?_⟩,by simp only;omega⟩
   rw [g3,hfl,List.take_add_one,hget]
   constructor
   ·rintro (⟨u,hu,h⟩ | h)
    ·exact⟨u,by simp [hu],h⟩
    ·exact⟨f,by simp,h⟩
   ·rintro ⟨u,hu,h⟩
    rcases List.mem_append.1 hu with hu | hu
    ·exact .inl ⟨u,hu,h⟩
    ·simp at hu;subst hu;exact .inr h
  refine vw hW fun w10 hw10=>?_
  refine zk9 (i:=i) hN.cells hN.len hN.path hN.eq hget rfl fun b o c T fr z hbb hc hp=>?_
  refine zk9 (i:=i) hN.cells hN.len hN.path hN.eq hget rfl fun b2 o2 c2 T2 fr2 z2 hbb2 hc2 hp2=>?_
  have hz2l:=hp2.len
  refine jg (s:=.slc) (t:=z) hw10 hbb hc ?_
  refine jg (s:=.slc) (t:=z2) hw10 hbb2 hc2 ?_
  have h8:=(zk3 f).2
  have hpos:0 < (nm f).length:=List.length_pos_iff.2 hne
  refine zdb (((nm f).length-1:Nat):Int) (by omega) (by omega) (by omega) ?_
  obtain⟨a1,r1,c1⟩:=z6r hp hne rfl
  refine qc (s:=.slc) (a1,(nm f).length-1,z.2.2) (r1 _) ?_
  refine zh (z5v (ys:=ys) (p:=(nm f).dropLast) hw10 hN.cells hN.len hN.path hN.small (by omega) c1 (by simp)) ?_
  have hdl:(nm f).dropLast.length=(nm f).length-1:=by simp
  rintro e w11 ⟨hw11,⟨rfl,hnone⟩ | ⟨j,y,rfl,hj,hyp⟩⟩
  ·refine⟨-1,rfl,jf ?_⟩
   have hno':=hN.none (i:=ys.length) (p:=(nm f).dropLast) (by rw [List.take_length];exact hnone)
   rw [hyl,List.take_length] at hno'
   refine zy (fun hp0=>jh rfl (hb ⟨f,hmem,?_,hno'⟩ _ hw11)) (fun hp0=>?_)
   ·intro h;rw [h] at hdl;simp at hdl hp0;omega
   ·have hd0:(nm f).dropLast=[]:=List.length_eq_zero_iff.1 (by simp only at hp0;omega)
    have hn70:¬∃ g∈L,nm g=(nm f).dropLast/\g.dir=false:=fun ⟨g,hg,e,_⟩=>hno' g hg e
    cases t with
    | true=>exact jh rfl ⟨hw11,fun h=>absurd hd0 h,by simp⟩
    | false=>exact qp rfl (qp (decide_eq_false hp0) ⟨hw11,fun h=>absurd hd0 h,by simp [hn70]⟩)
  ·refine⟨(j:Int),rfl,jf ?_⟩
   obtain⟨g,hg,hgn⟩:=hN.at hj
   rw [hyp] at hgn
   have hgm:g∈L:=List.mem_of_getElem? hg
   have hup:(nm f).dropLast≠[]:=by rw [<-hgn];exact (zm3 h5).2 _ hgm
   have hupl:0 < (nm f).dropLast.length:=List.length_pos_iff.2 hup
   have hpt:decide ((((a1,(nm f).length-1,z.2.2):Option Addr×Nat×Nat).2.1:Int) > 0)=true:=by simp only [decide_eq_true_eq];omega
   refine jh hpt (qp (decide_eq_false (by omega)) ?_)
   cases t with
   | true=>exact jh rfl ⟨hw11,fun _=>⟨g,hgm,hgn⟩,by simp⟩
   | false=>
    refine qp rfl (jh hpt ?_)
    refine Bl.zn9 (i:=j) zdz (by omega) hN.row hn hg rfl fun b3 o3 c3 T3 fr3 _ hb3 hsz3 hcc3 _=>?_
    simp only [zan]
    refine jg (s:=.bool) (t:=g.dir) hw11 hb3 (hcc3 1 (by omega)) ?_
    refine⟨hw11,fun _=>⟨g,hgm,hgn⟩,?_⟩
    constructor
    ·intro h
     exact .inr ⟨g,hgm,hgn,by simpa using h⟩
    ·rintro (h | ⟨g',hg',e,hd⟩)
     ·cases h
     ·rw [<-qiu h5 hg' hgm (e.trans hgn.symm),hd];rfl
 ·obtain rfl:i=L.length:=by simp only at hge;omega
  rw [List.take_length] at hok hfl
  exact hno (fun ⟨f,hf,h1,h2⟩=>by obtain⟨g,hg,e⟩:=hok f hf h1;exact h2 g hg e) t _ W hfl hW
set_option maxHeartbeats 4000000 in
theorem qib {w:World}{H:Heap}{a:Option Addr}{n:Nat}{x:Option Addr×Nat×Nat}{ys:List NR}{L:List Fil}(hw:w.heap=H) (hN:Seen H a x ys L) (hn:n=L.length) (hm:L.length<=65536) (h5:¬zzu L){Rb Rn:World->Prop}
  (hb:qcj L->∀ w',w'.heap=H->Rb w') (hno:¬qcj L->∀ w',w'.heap=H->Rn w') :
  za4 Int (fun s_11 w_19 k_11=>
  qw (decide (s_11 < (n:Int))) (
  za4 (Int×Int) (fun s_12 w_20 k_12=>
  qw (decide (s_12.2 < (n:Int))) (
  Go.Fw.joinP Int (fun k_13=>
  za5 w_20 fun w_21=>
  ixS x.1 x.2.1 1 s_12.2 fun t154=>
  ixS x.1 x.2.1 1 s_11 fun t159=>
  ld .slc t154 w_21 fun (t155:(Option Addr×Nat×Nat))=>
  ld .slc t159 w_21 fun (t160:(Option Addr×Nat×Nat))=>
  qw ((t155.2.1:Int)==(t160.2.1:Int)) (
  ixS x.1 x.2.1 1 s_12.2 fun t166=>
  ixS x.1 x.2.1 1 s_11 fun t170=>
  ixS x.1 x.2.1 1 s_11 fun t174=>
  ld .slc t166 w_21 fun (t167:(Option Addr×Nat×Nat))=>
  ld .slc t170 w_21 fun (t171:(Option Addr×Nat×Nat))=>
  ld .slc t174 w_21 fun (t175:(Option Addr×Nat×Nat))=>
  zo5 .i64 (t175.2.1:Int) 1 fun t177=>
  zad P (Instr.sliceAt zx (Value.slice t171.1 t171.2.1 t171.2.2) none (some (Value.int .i64 t177)) none) .slc w_21 fun (t178:(Option Addr×Nat×Nat))=>
  ql P zk1 #[(Value.slice t167.1 t167.2.1 t167.2.2),(Value.slice t178.1 t178.2.1 t178.2.2)] [.bool] false w_21 fun (t179:Bool) w_22=>
  qw t179 (
  zbz .i64 s_12.1 1 fun t182=>
  k_13 t182 w_22) (
  k_13 s_12.1 w_22)) (
  k_13 s_12.1 w_21)) (fun s_13 w_23=>
  zbz .i64 s_12.2 1 fun t151=>
  k_12 (s_13,t151) w_23)) (
  qw (decide (s_12.1 > 64)) (
  Rb w_20) (
  zbz .i64 s_11 1 fun t145=>
  k_11 t145 w_20))) (0,0) w_19) (
  Rn w_19)) 0 w:=by
 have hyl:=hN.count
 refine zae (fun (s:Int) W=>∃ i:Nat,s=(i:Int)/\i<=L.length/\W.heap=H/\∀ f∈L.take i,¬64 < (kids L (nm f).dropLast).length) (fun s _=>(L.length-s).toNat) ⟨0,rfl,Nat.zero_le _,hw,by simp⟩ ?_
 rintro _ W ⟨i,rfl,hi,hW,hok⟩
 refine zy (fun hlt=>?_) (fun hge=>?_)
 ·have hil:i < L.length:=by omega
  have hget:=List.getElem?_eq_getElem hil
  have hmem:L[i]∈L:=List.getElem_mem hil
  have hne:nm L[i]≠[]:=(zm3 h5).2 _ hmem
  generalize hf:L[i]=f at hget hmem hne
  have hdl:(nm f).dropLast.length=(nm f).length-1:=by simp
  have hpos:0 < (nm f).length:=List.length_pos_iff.2 hne
  have h8:=(zk3 f).2
  refine zae (fun (s:Int×Int) W=>∃ j:Nat,s.2=(j:Int)/\j<=L.length/\W.heap=H/\s.1=((kids (L.take j) (nm f).dropLast).length:Int)) (fun s _=>(L.length-s.2).toNat) ⟨0,rfl,Nat.zero_le _,hW,by simp [kids]⟩ ?_
  rintro ⟨t,_⟩ W2 ⟨j,rfl,hj,hW2,ht⟩
  simp only at ht
  subst ht
  have hkl:(kids (L.take j) (nm f).dropLast).length<=j:=Nat.le_trans (List.length_filter_le _ _) (by simp;omega)
  refine zy (fun hlt2=>?_) (fun hge2=>?_)
  ·have hjl:j < L.length:=by simp only at hlt2;omega
   have hget2:=List.getElem?_eq_getElem hjl
   generalize L[j]=g at hget2
   have hkt:=qbt (p:=(nm f).dropLast) hget2
   refine joinP_of (fun (t':Int) W'=>W'.heap=H/\t'=((kids (L.take (j+1)) (nm f).dropLast).length:Int)) ?_ ?_
   rotate_left
   ·rintro t' W' ⟨g1,g2⟩
    refine jr ((j+1:Nat):Int) (by simp) (by omega) (by omega) ?_
    exact⟨⟨j+1,rfl,by omega,g1,g2⟩,by simp only;omega⟩
   refine vw hW2 fun w10 hw10=>?_
   refine zk9 (i:=j) hN.cells hN.len hN.path hN.eq hget2 rfl fun b o c T fr z hbb hc hp=>?_
   refine zk9 (i:=i) hN.cells hN.len hN.path hN.eq hget rfl fun b2 o2 c2 T2 fr2 z2 hbb2 hc2 hp2=>?_
   refine jg (s:=.slc) (t:=z) hw10 hbb hc ?_
   refine jg (s:=.slc) (t:=z2) hw10 hbb2 hc2 ?_
   have hzl:=hp.len
   have hz2l:=hp2.len
   refine zba (fun hl=>?_) (fun hl=>?_)
   ·refine zk9 (i:=j) hN.cells hN.len hN.path hN.eq hget2 rfl fun b3 o3 c3 T3 fr3 z3 hbb3 hc3 hp3=>?_
    refine zk9 (i:=i) hN.cells hN.len hN.path hN.eq hget rfl fun b4 o4 c4 T4 fr4 z4 hbb4 hc4 hp4=>?_
    refine zk9 (i:=i) hN.cells hN.len hN.path hN.eq hget rfl fun b5 o5 c5 T5 fr5 z5 hbb5 hc5 hp5=>?_
    refine jg (s:=.slc) (t:=z3) hw10 hbb3 hc3 ?_
    refine jg (s:=.slc) (t:=z4) hw10 hbb4 hc4 ?_
    refine jg (s:=.slc) (t:=z5) hw10 hbb5 hc5 ?_
    have hz3l:=hp3.len
    have hz5l:=hp5.len
    have h8g:=(zk3 g).2
    refine zdb (((nm f).length-1:Nat):Int) (by omega) (by omega) (by omega) ?_
    obtain⟨a1,r1,c1⟩:=z6r hp4 hne rfl
    refine qc (s:=.slc) (a1,(nm f).length-1,z4.2.2) (r1 _) ?_
    refine zh (qal (p:=nm g) (q:=(nm f).dropLast) hw10 (Mine.cells hp3) hz3l c1 hdl.symm (by omega) (by omega)) ?_
    rintro e w11 ⟨rfl,hw11⟩
    refine⟨zbq (nm g) (nm f).dropLast,rfl,?_⟩
    cases hwi:zbq (nm g) (nm f).dropLast with
    | true=>
     have hk:qay (nm f).dropLast g=true:=z0f.2 ⟨by omega,hwi⟩
     rw [hk,if_pos rfl] at hkt
     refine jh rfl (jr (((kids (L.take j) (nm f).dropLast).length+1:Nat):Int) (by simp) (by omega) (by omega) ⟨hw11,by rw [hkt];simp⟩)
    | false=>
     have hk:qay (nm f).dropLast g=false:=by rw [<-Bool.not_eq_true,z0f,hwi];simp
     rw [hk,if_neg (by decide)] at hkt
     exact qp rfl ⟨hw11,by rw [hkt]⟩
   ·have hk:qay (nm f).dropLast g=false:=by rw [<-Bool.not_eq_true,z0f];omega
    rw [hk,if_neg (by decide)] at hkt
    exact⟨hw10,by rw [hkt]⟩
  ·obtain rfl:j=L.length:=by simp only at hge2;omega
   rw [List.take_length] at *
   refine zy (fun h=>?_) (fun h=>?_)
   ·exact hb ⟨f,hmem,by simp only at h;omega⟩ _ hW2
   ·refine jr ((i+1:Nat):Int) (by simp) (by omega) (by omega) ?_
    exact⟨⟨i+1,rfl,by omega,hW2,zd2 hget hok (by simp only at h;omega)⟩,by omega⟩
 ·obtain rfl:i=L.length:=by omega
  rw [List.take_length] at hok
  exact hno (fun ⟨f,hf,h⟩=>hok f hf h) W hW
theorem zv1 {L:List Fil}(h:za3 L≠0):ze0 L=za3 L:=by unfold ze0;rw [if_pos h]
theorem zva {L:List Fil}(h:za3 L=0):ze0 L=zcn L:=by unfold ze0;rw [if_neg (by simpa using h)]
theorem zwv {L:List Fil}(h:zhc L≠0):za3 L=zhc L:=by unfold za3;rw [if_pos h]
theorem qbg {L:List Fil}(h:zhc L=0) (ha:L.any z3i=true):za3 L=1:=by unfold za3;rw [if_neg (by simpa using h),if_pos ha]
theorem qav {L:List Fil}(h:zhc L=0) (ha:L.any z3i=false) (hb:L.any z7v=true):za3 L=134:=by unfold za3;rw [if_neg (by simpa using h),if_neg (by simp [ha]),if_pos hb]
theorem z8d {L:List Fil}(h:zhc L=0) (ha:L.any z3i=false) (hb:L.any z7v=false):za3 L=0:=by unfold za3;rw [if_neg (by simpa using h),if_neg (by simp [ha]),if_neg (by simp [hb])]
theorem qba {L:List Fil}{g:Fil->Bool}(h:∀ f∈L,g f=false):L.any g=false:=by
 rw [List.any_eq_false]
 intro f hf
 simp [h f hf]
set_option maxHeartbeats 8000000 in
theorem z8c {w:World}{H:Heap}{a:Option Addr}{n nc:Nat}{L:List Fil}(hw:w.heap=H) (hL:Cells H a (L.flatMap zb6)) (hn:n=L.length) (hm:L.length<=65536) :
  qj P zmt #[.slice a n nc] w fun e w'=>∃ x,e=.returned (.tuple #[zdr x,.int .i64 (ze0 L)])/\Ext [] H w'.heap/\(ze0 L=0->Mine w'.heap H.size zn 3 x (((zjl L).map clean).flatMap zb6)):=by
 refine zxm ?_
 unfold zr7
 have bad:∀ {W:World}{code:Int},code≠0->ze0 L=code->Ext [] H W.heap->∃ x,Ending.returned (.tuple #[.slice none 0 0,.int .i64 code])=.returned (.tuple #[zdr x,.int .i64 (ze0 L)])/\Ext [] H W.heap/\(ze0 L=0->Mine W.heap H.size zn 3 x (((zjl L).map clean).flatMap zb6)):=by
  intro W code h0 hc hx
  exact⟨(none,0,0),by rw [hc];rfl,hx,fun h=>absurd (hc.symm.trans h) h0⟩
 refine zae (fun (s:(Option Addr×Nat×Nat)×Int) W=>∃ i:Nat,s.2=(i:Int)/\i<=L.length/\Ext [] H W.heap/\zne W.heap H.size s.1 ((L.take i).map nm)/\∀ g∈L.take i,(vg g.path).2=0) (fun s _=>(L.length-s.2).toNat)
  ⟨0,rfl,Nat.zero_le _,by rw [hw];exact .refl _ _,.nil,by simp⟩ ?_
 rintro ⟨x,_⟩ W ⟨i,rfl,hi,hx,hP,hok⟩
 simp only at hP
 refine zy (fun hlt=>?_) (fun hge=>?_)
 ·have hil:i < L.length:=by simp only at hlt;omega
  have hget:=List.getElem?_eq_getElem hil
  generalize L[i]=f at hget
  refine Bl.zn9 (i:=i) zdz (by omega) (hL.ext hx (by simp)) hn hget rfl fun b o c T fr _ hb hsz hc _=>?_
  refine jg (s:=.str) (t:=strOf f.path) rfl hb (hc 0 (by omega)) ?_
  refine zh (z6v f.path rfl) ?_
  rintro e w2 ⟨y,rfl,hm2,hx2⟩
  refine⟨(y,(vg f.path).2),rfl,?_⟩
  refine zbr (fun h=>?_) (fun h=>?_)
  ·have hfb:=zvc hget h hok
   have h':(vg f.path).2≠0:=h
   exact bad h (by rw [zv1 (by rw [zwv (by rw [hfb];exact h'),hfb];exact h'),zwv (by rw [hfb];exact h'),hfb]) (hx.trans hx2)
  ·refine qes rfl (hP.ext hx2) (by have:=hx.1;have:=hx2.1;omega) hm2 (by simp;omega) fun x' w4 hP4 hx4=>?_
   refine jr ((i+1:Nat):Int) (by simp) (by omega) (by omega) ?_
   refine⟨⟨i+1,rfl,by omega,(hx.trans hx2).own hx4 (fun c hc hlt=>by have:=(hP.ge) c hc;omega),?_,zd2 hget hok h⟩,by simp only;omega⟩
   have e:(L.take (i+1)).map nm=(L.take i).map nm++[(vg f.path).1]:=by rw [List.take_add_one,hget];simp [nm]
   rw [e];exact hP4
 obtain rfl:i=L.length:=by simp only at hge;omega
 rw [List.take_length] at hP hok
 have hfb:=zrl hok
 obtain⟨ys,y1,y2,y3⟩:=hP
 have hN:Seen W.heap a x ys L:=⟨hL.ext hx (by simp),y1.cells,by have:=y1.len;rw [qmi] at this;omega,zhi y1,y3,y2⟩
 have keep:∀ {W':World},W'.heap=W.heap->Ext [] H W'.heap:=fun h=>by rw [h];exact hx
 refine zae (fun (s:Int) W'=>∃ i:Nat,s=(i:Int)/\i<=L.length/\W'.heap=W.heap/\∀ g∈L.take i,z3i g=false) (fun s _=>(L.length-s).toNat) ⟨0,rfl,Nat.zero_le _,rfl,by simp⟩ ?_
 rintro _ W5 ⟨i,rfl,hi,hW5,hna⟩
 refine zy (fun hlt=>?_) (fun hge=>?_)
 ·have hil:i < L.length:=by omega
  have hget:=List.getElem?_eq_getElem hil
  have hmem:L[i]∈L:=List.getElem_mem hil
  generalize L[i]=f at hget hmem
  have next:z3i f=false->∀ {W':World},W'.heap=W.heap->zbz .i64 (i:Int) 1 fun t48=>(∃ i:Nat,t48=(i:Int)/\i<=L.length/\W'.heap=W.heap/\∀ g∈L.take i,z3i g=false)/\(L.length-t48).toNat < ((L.length:Int)-(i:Int)).toNat:=by
   intro hf W' hW'
   refine jr ((i+1:Nat):Int) (by simp) (by omega) (by omega) ?_
   exact⟨⟨i+1,rfl,by omega,hW',zd2 hget hna hf⟩,by omega⟩
  refine jf (jf ?_)
  refine Bl.zn9 (i:=i) zdz (by omega) hN.row hn hget rfl fun b o c T fr _ hb hsz hc _=>?_
  simp only [zan]
  refine jg (s:=.bool) (t:=f.dir) hW5 hb (hc 1 (by omega)) ?_
  cases hd:f.dir with
  | false=>exact qp rfl (next (by simp [z3i,hd]) hW5)
  | true=>
   refine jh rfl ?_
   refine Bl.zn9 (i:=i) zdz (by omega) hN.row hn hget rfl fun b o c T fr _ hb hsz hc _=>?_
   simp only [zan]
   refine jg (s:=.str) (t:=strOf f.data) hW5 hb (hc 2 (by omega)) ?_
   have hbe:(!((strOf f.data).toList==(ByteArray.mk #[]).toList))=!decide (f.data=[]):=by
    rw [zbi]
    have:(ByteArray.mk #[]).toList=[]:=zbi (L:=[])
    rw [this]
    cases f.data <;> simp
   rw [hbe]
   by_cases h:f.data=[]
   ·exact qp (by simp [h]) (next (by simp [z3i,h]) hW5)
   ·refine jh (by simp [h]) (bad (by decide) ?_ (keep hW5))
    have h1:=qbg hfb (List.any_eq_true.2 ⟨f,hmem,by simp [z3i,hd,h]⟩)
    rw [zv1 (by rw [h1];decide),h1]
 obtain rfl:i=L.length:=by omega
 rw [List.take_length] at hna
 have hna:=qba hna
 refine zae (fun (s:Int) W'=>∃ i:Nat,s=(i:Int)/\i<=L.length/\W'.heap=W.heap/\∀ g∈L.take i,z7v g=false) (fun s _=>(L.length-s).toNat) ⟨0,rfl,Nat.zero_le _,hW5,by simp⟩ ?_
 rintro _ W6 ⟨i,rfl,hi,hW6,hnb⟩
 refine zy (fun hlt=>?_) (fun hge=>?_)
 ·have hil:i < L.length:=by omega
  have hget:=List.getElem?_eq_getElem hil
  have hmem:L[i]∈L:=List.getElem_mem hil
  generalize L[i]=f at hget hmem
  refine Bl.zn9 (i:=i) zdz (by omega) hN.row hn hget rfl fun b o c T fr _ hb hsz hc _=>?_
  simp only [zan]
  refine jg (s:=.str) (t:=strOf f.data) hW6 hb (hc 2 (by omega)) ?_
  refine zy (fun h=>?_) (fun h=>?_)
  ·have h1:=qav hfb hna (List.any_eq_true.2 ⟨f,hmem,by simp only [jy] at h;simp [z7v];omega⟩)
   exact bad (by decide) (by rw [zv1 (by rw [h1];decide),h1]) (keep hW6)
  ·refine jr ((i+1:Nat):Int) (by simp) (by omega) (by omega) ?_
   exact⟨⟨i+1,rfl,by omega,hW6,zd2 hget hnb (by simp only [jy] at h;simp [z7v];omega)⟩,by omega⟩
 obtain rfl:i=L.length:=by omega
 rw [List.take_length] at hnb
 have hp0:=z8d hfb hna (qba hnb)
 have hchk:=zva hp0
 refine qjn hW6 hN hn hm (fun h5 w' hw'=>bad (code:=5) (by decide) (by rw [hchk,z4d h5]) (keep hw')) fun h5 W7 hW7=>?_
 refine qh7 hW7 hN hn hm h5 (fun h4 w' hw'=>bad (code:=4) (by decide) (by rw [hchk,z3q h5 h4]) (keep hw')) fun h4 t _ W8 ht hW8=>?_
 cases t with
 | true=>exact jh rfl (bad (code:=70) (by decide) (by rw [hchk,zy5 h5 h4 (ht.1 rfl)]) (keep hW8))
 | false=>
  have h70:¬zxx L:=fun h=>by have:=ht.2 h;cases this
  refine qp rfl ?_
  refine qib hW8 hN hn hm h5 (fun h8 w' hw'=>bad (code:=8) (by decide) (by rw [hchk,z3y h5 h4 h70 h8]) (keep hw')) fun h8 W9 hW9=>?_
  have hc0:ze0 L=0:=by rw [hchk,zza h5 h4 h70 h8]
  refine qdy hW9 hN hn hm fun x' _ w' hm' hx'=>?_
  exact⟨x',by rw [hc0];rfl,hx.trans hx',fun _=>hm'.mono hx.1⟩
end Go.Proofs.YthaaekcaaecdeaaGreatDoor
namespace Go.Proofs.YthaaekcaaecdeaaGreatDoor
open Go Go.Fw Go.Proofs Go.Sort
end Go.Proofs.YthaaekcaaecdeaaGreatDoor
namespace Go.Proofs.YthaaekcaaecdeaaGreatDoor
open Go Go.Fw Go.Proofs Go.Sort
def dgS (s:Rest):List UInt8×Rest:=match s with | none=>(Bl.nought,none) | some R=>if 32<=R.length then (R.take 32,some (R.drop 32)) else (Bl.nought,none)
theorem zt7 {s:Rest}:(dgS s).1.length=32:=by
 unfold dgS
 cases s with
 | none=>exact Bl.zjx
 | some R=>
  simp only
  split
  ·simp;omega
  ·exact Bl.zjx
theorem slA {b:Nat}{w:World}:(Instr.sliceAt zf (Value.pointer (some (⟨b,0,none⟩:Addr))) none none none).run P w=.ok (.slice (some ⟨b,0,none⟩) 32 32) w:=by
 rw [zhj (l:=0) (h:=32) Bl.u27 sz8 .no .no (by omega) (by omega)]
 simp [Addr.add]
theorem qll {w:World}{H:Heap}{b:Nat}{c:Array Value}{T:TypeId}{y:Option Addr×Nat×Nat}{k:List UInt8}(hk:k.length<=32) (hw:w.heap=H) (hb:H[b]?=some (.cells c T (0,0))) (hs:c.size=32) (hy:Cells H y.1 (byteCells k)) (hl:y.2.1=k.length){K:Int->World->Prop}
  (hK:∀ n w',w'.heap=H.setIfInBounds b (.cells (setCells c 0 (byteCells k)) T (0,0))->K n w') :
  za2 P (Builtin.copy_ #[xk,xk] zav #[(Value.slice (some ⟨b,0,none⟩) 32 32),(Value.slice y.1 y.2.1 y.2.2)]) (.int .i64) w K:=by
 obtain⟨w4,hrun,hcm4,hw4⟩:=qcd (P:=P) (w:=w) (st:=xk) (xt:=xk) (ty:=zav) (od:=0) (dl:=32) (dc:=32) (sa:=y.1) (sl:=y.2.1) (sc:=y.2.2) (vs:=byteCells k) uS8 sz8 hw hy (by rw [hl];simp;omega) zay hb (by rw [hs];simpa using hk)
 exact zaf _ w4 hrun (hK _ w4 hw4) hcm4
theorem qnf:zc P zf=(byteCells Bl.nought).toArray:=by kernel_rfl
theorem qfk {w:World}{H:Heap}{b:Nat}{F:List Nat}{s:Rest}(hw:w.heap=H) (hI:InW H b F s) (hF:∀ c∈F,c < H.size) :
  qj P zgk #[.pointer (some ⟨b,0,none⟩)] w fun e w'=>e=.returned (arr (dgS s).1)/\InW w'.heap b F (dgS s).2/\Ext [b] H w'.heap:=by
 have hbl:=hI.lt
 refine zsz ?_
 unfold znc
 refine ji hw fun w1 hw1=>?_
 have hx1:Ext [] H w1.heap:=by rw [hw1];exact .push _
 have hb1:w1.heap[H.size]?=some (.cells (zc P zf) zf (0,0)):=by rw [hw1];exact zk
 refine ji rfl fun w2 hw2=>?_
 have hx2:Ext [] w1.heap w2.heap:=by rw [hw2];exact .push _
 have hb2:w2.heap[w1.heap.size]?=some (.cells (zc P zf) zf (0,0)):=by rw [hw2];exact zk
 refine vw rfl fun w3 hw3=>?_
 have hx3:Ext [] H w3.heap:=by rw [hw3];exact hx1.trans hx2
 have hb3:w3.heap[w1.heap.size]?=some (.cells (zc P zf) zf (0,0)):=by rw [hw3];exact hb2
 have hd3:w3.heap[H.size]?=some (.cells (zc P zf) zf (0,0)):=by rw [hw3];exact hx2.get hb1 (by simp)
 have s1:=lt_of_get hb1
 have s3:=lt_of_get hb3
 have hI3:=hI.ext hx3 (by simp) (by simp)
 refine qc (s:=.slc) (some ⟨w1.heap.size,0,none⟩,32,32) slA ?_
 have htake:qj P zga #[.pointer (some ⟨b,0,none⟩),.int .i64 32] w3 fun e w'=>Ext [b] w3.heap w'.heap/\InW w'.heap b F (dgS s).2/\∃ y k,e=.returned (zdr y)/\Cells w'.heap y.1 (byteCells k)/\y.2.1=k.length/\k.length<=32/\(∀ c∈jw y,c∈F)/\setCells (zc P zf) 0 (byteCells k)=(byteCells (dgS s).1).toArray:=by
  have hnil:setCells (zc P zf) 0 (byteCells [])=(byteCells Bl.nought).toArray:=by rw [qnf];rfl
  cases s with
  | none=>
   obtain⟨x,e,h1,h2,h3,h4⟩:=id hI3
   refine zn7 ?_
   unfold zk6
   refine jf ?_
   refine qp rfl ?_
   simp only [jc,zan]
   refine jg (s:=.int .i64) (t:=e) rfl h1 rfl ?_
   refine jh (by simpa using h4) ?_
   exact⟨.refl _ _,hI3,(none,0,0),[],rfl,.inl rfl,rfl,by simp,by simp [jw],hnil⟩
  | some R=>
   refine (z9s (n:=32) rfl hI3 (by omega)).mono ?_
   rintro e w' ⟨hx,⟨hl,rfl,h3⟩ | ⟨hl,y,rfl,hC,hy,ho,h3⟩⟩
   ·have e1:dgS (some R)=(Bl.nought,none):=by unfold dgS;simp only;rw [if_neg (by omega)]
    rw [e1]
    exact⟨hx,h3,(none,0,0),[],rfl,.inl rfl,rfl,by simp,by simp [jw],hnil⟩
   ·have e1:dgS (some R)=(R.take 32,some (R.drop 32)):=by unfold dgS;simp only;rw [if_pos hl]
    rw [e1]
    have hl32:(R.take 32).length=32:=by simp;omega
    exact⟨hx,h3,y,R.take 32,rfl,hC,by rw [hl32,hy],by omega,ho,zau (by rw [zcD];simp [hl32])⟩
 refine zh htake ?_
 rintro e w4 ⟨hx4,hI4,y,k,rfl,hC,hyl,hk,ho,hset⟩
 refine⟨y,rfl,⟨qc (s:=.slc) (some ⟨w1.heap.size,0,none⟩,32,32) slA rfl,?_⟩⟩
 have hb4:=hx4.get hb3 (by simp;omega)
 have hd4:=hx4.get hd3 (by simp;omega)
 refine qll hk rfl hb4 zcD hC hyl fun n w5 hw5=>?_
 rw [hset] at hw5
 have hx5:Ext [w1.heap.size] w4.heap w5.heap:=by rw [hw5];exact Ext.set _ (by simp)
 have hb5:w5.heap[w1.heap.size]?=some (.cells (byteCells (dgS s).1).toArray zf (0,0)):=by rw [hw5];exact qy hb4
 refine xw rfl hb5 (by simp [zt7]) ?_
 have hd5:=hx5.get hd4 (by simp;omega)
 refine qea (k:=(dgS s).1) zt7 rfl hd5 zcD fun w6 hw6=>?_
 have hx6:Ext [H.size] w5.heap w6.heap:=by rw [hw6];exact Ext.set _ (by simp)
 have hd6:w6.heap[H.size]?=some (.cells (byteCells (dgS s).1).toArray zf (0,0)):=by rw [hw6];exact qy hd5
 refine xw rfl hd6 (by simp [zt7]) ?_
 refine⟨rfl,?_,?_⟩
 ·refine (hI4.ext hx5 (by simp;omega) fun c hc h=>?_).ext hx6 (by simp;omega) fun c hc h=>?_
  ·simp at h;subst h;have:=hF _ hc;omega
  ·simp at h;subst h;have:=hF _ hc;omega
 ·have h03:Ext [b] H w3.heap:=hx3.mono (by simp)
  exact ((h03.trans hx4).own hx5 (fun c hc hlt=>by simp at hc;omega)).own hx6 (fun c hc hlt=>by simp at hc;omega)
theorem bNk (n:Int) (w:World):(Instr.build zu #[(0,.int .i64 n)]).run P w=.ok (.agg #[.int .i64 n,.string .empty,.int .i64 0,.slice none 0 0,.slice none 0 0]) w:=by kernel_rfl
theorem qm5 (s:ByteArray) (n:Int) (a0 a1 a2 a3 a4 a5 a6 a7 a8 a9 a10 a11 a12 a13 a14 a15 a16 a17 a18 a19 a20 a21 a22 a23 a24 a25 a26 a27 a28 a29 a30 a31:UInt8) (w:World):(Instr.build jl #[(0,.string s),(1,.int .i64 n),(2,arr [a0,a1,a2,a3,a4,a5,a6,a7,a8,a9,a10,a11,a12,a13,a14,a15,a16,a17,a18,a19,a20,a21,a22,a23,a24,a25,a26,a27,a28,a29,a30,a31])]).run P w=.ok (.agg ([Value.string s,Value.int .i64 n]++byteCells [a0,a1,a2,a3,a4,a5,a6,a7,a8,a9,a10,a11,a12,a13,a14,a15,a16,a17,a18,a19,a20,a21,a22,a23,a24,a25,a26,a27,a28,a29,a30,a31]).toArray) w:=by kernel_rfl
theorem bT3 (s:ByteArray) (n:Int){k:List UInt8}(hk:k.length=32) (w:World):(Instr.build jl #[(0,.string s),(1,.int .i64 n),(2,arr k)]).run P w=.ok (.agg ([Value.string s,Value.int .i64 n]++byteCells k).toArray) w:=by
 match k,hk with
 | [a0,a1,a2,a3,a4,a5,a6,a7,a8,a9,a10,a11,a12,a13,a14,a15,a16,a17,a18,a19,a20,a21,a22,a23,a24,a25,a26,a27,a28,a29,a30,a31],_=>exact qm5 s n a0 a1 a2 a3 a4 a5 a6 a7 a8 a9 a10 a11 a12 a13 a14 a15 a16 a17 a18 a19 a20 a21 a22 a23 a24 a25 a26 a27 a28 a29 a30 a31 w
theorem qhv (m:Nat) (n:Nat) (w:World):(Builtin.min_ #[zdm,zdm] zdm #[.int .u64 (n:Int),.int .u64 (m:Int)]).run P w=.ok (.int .u64 ((min n m:Nat):Int)) w:=by
 rw [run_min_int2]
 congr 2
 split <;> omega
def zgv:Nat->Rest->List (List UInt8)×Rest
 | 0,s=>([],s)
 | k+1,s=>((zgv k s).1++[(dgS (zgv k s).2).1],(dgS (zgv k s).2).2)
def qa3 (s:Rest):Itm×Rest:=(⟨(txS 16 s).1,((min (nmS (txS 16 s).2).1 9:Nat):Int),(dgS (nmS (txS 16 s).2).2).1⟩,(dgS (nmS (txS 16 s).2).2).2)
def zfa:Nat->Rest->List Itm×Rest
 | 0,s=>([],s)
 | k+1,s=>((zfa k s).1++[(qa3 (zfa k s).2).1],(qa3 (zfa k s).2).2)
def zcu (s:Rest):Nod×Rest:=
 if min (nmS s).1 9=1 then (⟨1,(txS 64 (nmS s).2).1,0,[],[]⟩,(txS 64 (nmS s).2).2)
 else if min (nmS s).1 9=2 then (⟨2,[],((min (nmS (nmS s).2).1 1025:Nat):Int),(zgv ((min (nmS (nmS s).2).1 1025+63) / 64) (nmS (nmS s).2).2).1,[]⟩,(zgv ((min (nmS (nmS s).2).1 1025+63) / 64) (nmS (nmS s).2).2).2)
 else if min (nmS s).1 9=3 then (⟨3,[],0,[],(zfa (min (nmS (nmS s).2).1 65) (nmS (nmS s).2).2).1⟩,(zfa (min (nmS (nmS s).2).1 65) (nmS (nmS s).2).2).2)
 else (⟨((min (nmS s).1 9:Nat):Int),[],0,[],[]⟩,(nmS s).2)
theorem zqm {s:Rest}:∀ {k:Nat},(zgv k s).1.length=k
 | 0=>rfl
 | k+1=>by rw [zgv,List.length_append,zqm];rfl
theorem zyd {s:Rest}:∀ {k:Nat},∀ p∈(zgv k s).1,p.length=32
 | 0,p,h=>by cases h
 | k+1,p,h=>by
  simp only [zgv,List.mem_append,List.mem_singleton] at h
  rcases h with h | rfl
  ·exact zyd p h
  ·exact zt7
theorem zss {s:Rest}:∀ {k:Nat},(zfa k s).1.length=k
 | 0=>rfl
 | k+1=>by rw [zfa,List.length_append,zss];rfl
theorem z1k {s:Rest}:∀ {k:Nat},∀ p∈(zfa k s).1,p.sum.length=32
 | 0,p,h=>by cases h
 | k+1,p,h=>by
  simp only [zfa,List.mem_append,List.mem_singleton] at h
  rcases h with h | rfl
  ·exact z1k p h
  ·exact zt7
theorem z2m {s:Rest}:(∀ p∈(zcu s).1.parts,p.length=32)/\∀ i∈(zcu s).1.items,i.sum.length=32:=by
 unfold zcu
 split
 ·simp
 ·split
  ·exact⟨zyd,by simp⟩
  ·split
   ·exact⟨by simp,z1k⟩
   ·simp
structure NodM (H:Heap) (B:Nat) (n:Nod) (xp xi:Option Addr×Nat×Nat):Prop where
 parts:Mine H B zf 32 xp (n.parts.flatMap Bl.zd7)
 items:Mine H B jl 34 xi (n.items.flatMap zh3)
 p32:∀ p∈n.parts,p.length=32
 i32:∀ i∈n.items,i.sum.length=32
theorem NodM.nodW {H:Heap}{B:Nat}{n:Nod}{xp xi:Option Addr×Nat×Nat}(h:NodM H B n xp xi):NodW H n xp xi:=by
 have l1:=h.parts.len
 have l2:=h.items.len
 rw [xg Bl.zd7 Bl.zck] at l1
 rw [xg zh3 zcc] at l2
 exact⟨h.parts.cells,by omega,h.items.cells,by omega,h.p32,h.i32⟩
theorem NodM.ext {H H':Heap}{B:Nat}{n:Nod}{xp xi:Option Addr×Nat×Nat}{M:List Nat}(h:NodM H B n xp xi) (hx:Ext M H H') (hM:∀ m∈M,m < B):NodM H' B n xp xi:=
 ⟨h.parts.ext hx (fun c hc hm=>by have:=jo h.parts c hc;have:=hM c hm;omega),h.items.ext hx (fun c hc hm=>by have:=jo h.items c hc;have:=hM c hm;omega),h.p32,h.i32⟩
theorem NodM.mono {H:Heap}{B B':Nat}{n:Nod}{xp xi:Option Addr×Nat×Nat}(h:NodM H B n xp xi) (hB:B'<=B):NodM H B' n xp xi:=
 ⟨h.parts.mono hB,h.items.mono hB,h.p32,h.i32⟩
theorem NodM.bare {H:Heap}{B:Nat}{n:Nod}(hp:n.parts=[]) (hi:n.items=[]):NodM H B n (none,0,0) (none,0,0):=
 ⟨by rw [hp];exact .inl ⟨rfl,rfl⟩,by rw [hi];exact .inl ⟨rfl,rfl⟩,by rw [hp];simp,by rw [hi];simp⟩
theorem qca {w:World}{H:Heap}{B:Nat}{x:Option Addr×Nat×Nat}{T:List Itm}{i:Itm}{Q:World->Prop}(hw:w.heap=H) (hm:Mine H B jl 34 x (T.flatMap zh3)) (hBs:B<=H.size) (hlen:T.length<=1073741824) (hQ:∀ w',Ext [] H w'.heap->Q w'){K:(Option Addr×Nat×Nat)->World->Prop}
  (hK:∀ x' w',Mine w'.heap B jl 34 x' ((T++[i]).flatMap zh3)->Ext (jw x) H w'.heap->(∀ c∈jw x',c∈jw x\/H.size<=c)->K x' w') :
  za2 P (Instr.buildSlice za6 1 #[(0,.agg (zh3 i).toArray)]) .slc w fun (t27:(Option Addr×Nat×Nat)) w_13=>Q w_13 /\
  za2 P (Builtin.append_ #[za6,za6] za6 #[(Value.slice x.1 x.2.1 x.2.2),(Value.slice t27.1 t27.2.1 t27.2.2)]) .slc w_13 K:=by
 have hlx:x.2.1=T.length:=by
  have:=hm.len
  rw [xg zh3 zcc] at this
  omega
 refine zaf (s:=.slc) (some ⟨w.heap.size,0,none⟩,1,1) _ (zee ET uST (v:=.agg (zh3 i).toArray) (by simp [Value.cells,zcc]) (by omega) (by omega)) ?_
 subst hw
 have hxp:Ext [] w.heap (w.heap.push (.cells (Value.agg (zh3 i).toArray).cells jl)):=.push _
 refine⟨hQ _ hxp,?_⟩
 refine zbx (bts:=56) (n:=1) (us:=zh3 i) (H:=w.heap.push (.cells (Value.agg (zh3 i).toArray).cells jl)) ET (by omega) uST (zar uST) rfl (hm.ext hxp (by simp)) (by simp;omega)
  (Src.slc rfl (.inr ⟨w.heap.size,0,_,_,_,rfl,zk,by simp [zis],by simp [zis,List.take_of_length_le]⟩) (by rw [zcc])) zy7 (by omega) ?_
 intro x' w4 hm4 hl4 hx4 hs4
 refine hK x' w4 (by rw [List.flatMap_append,List.flatMap_singleton];exact hm4) ((hxp.mono (by simp)).trans hx4) (fun c hc=>?_)
 rcases hs4 c hc with h | h
 ·exact .inl h
 ·right;have:=hxp.1;omega
set_option maxHeartbeats 8000000 in
theorem qgr {w:World}{H:Heap}{b:Nat}{F:List Nat}{s:Rest}(hw:w.heap=H) (hI:InW H b F s) (hF:∀ c∈F,c < H.size) :
  qj P zp7 #[.pointer (some ⟨b,0,none⟩)] w fun e w'=>∃ xp xi,e=.returned (.agg (zfb (zcu s).1 xp xi).toArray)/\NodM w'.heap H.size (zcu s).1 xp xi/\InW w'.heap b F (zcu s).2/\Ext [b] H w'.heap:=by
 have hbl:=hI.lt
 refine z0r ?_
 unfold zvl
 refine ji hw fun w1 hw1=>?_
 have hx1:Ext [] H w1.heap:=by rw [hw1];exact .push _
 have hd1:w1.heap[H.size]?=some (.cells (zc P zu) zu (0,0)):=by rw [hw1];exact zk
 have s1:=lt_of_get hd1
 refine zh (z15 rfl (hI.ext hx1 (by simp) (by simp))) ?_
 rintro e w2 ⟨rfl,hI2,hx2⟩
 refine⟨((nmS s).1:Int),rfl,?_⟩
 have s2:=hx2.1
 refine qc (s:=.int .u64) ((min (nmS s).1 9:Nat):Int) (qhv 9 _ _) ?_
 refine zp6 (by omega) (by omega) ?_
 refine qc (s:=.any) _ (bNk _ _) ?_
 refine qe3 ⟨((min (nmS s).1 9:Nat):Int),[],0,[],[]⟩ (none,0,0) (none,0,0) rfl fun w4 hw4=>?_
 have hx4:Ext [] w2.heap w4.heap:=by rw [hw4];exact .push _
 have hn4:w4.heap[w2.heap.size]?=some (.cells (zfb ⟨((min (nmS s).1 9:Nat):Int),[],0,[],[]⟩ (none,0,0) (none,0,0)).toArray zu (0,0)):=by rw [hw4];exact zk
 have s4:=lt_of_get hn4
 have hd4:=hx4.get (hx2.get hd1 (by simp;omega)) (by simp)
 have hI4:=hI2.ext hx4 (by simp) (by simp)
 have hx04:Ext [b] H w4.heap:=((hx1.mono (by simp)).trans hx2).trans (hx4.mono (by simp))
 refine Go.Fw.joinP_of (fun _ W=>∃ xp xi,W.heap[w2.heap.size]?=some (.cells (zfb (zcu s).1 xp xi).toArray zu (0,0))/\(Mine W.heap w4.heap.size zf 32 xp ((zcu s).1.parts.flatMap Bl.zd7)/\Mine W.heap w4.heap.size jl 34 xi ((zcu s).1.items.flatMap zh3))/\InW W.heap b F (zcu s).2/\Ext [b] H W.heap/\W.heap[H.size]?=some (.cells (zc P zu) zu (0,0))) ?_ ?_
 rotate_left
 ·rintro _ W ⟨xp,xi,h1,h2,h3,h4,hd⟩
  refine xw rfl h1 rfl ?_
  refine zbe (v:=.agg (zfb (zcu s).1 xp xi).toArray) (by rw [szN];rfl) (by simp [Value.cells,zfb]) (by
   intro v hv
   simp only [Value.cells,zfb,List.mem_cons,List.not_mem_nil,or_false] at hv
   rcases hv with rfl | rfl | rfl | rfl | rfl <;> rfl) rfl hd (by rw [zcN];simp [Value.cells,zfb]) fun w5 hw5=>?_
  rw [zau (by rw [zcN];simp [Value.cells,zfb])] at hw5
  have hx5:Ext [H.size] W.heap w5.heap:=by rw [hw5];exact Ext.set _ (by simp)
  have hd5:w5.heap[H.size]?=some (.cells (zfb (zcu s).1 xp xi).toArray zu (0,0)):=by rw [hw5];exact qy hd
  refine xw rfl hd5 rfl ?_
  have hnod:NodM w5.heap H.size (zcu s).1 xp xi:=by
   obtain⟨m1,m2⟩:=h2
   exact (NodM.ext ⟨m1,m2,z2m.1,z2m.2⟩ hx5 (fun c hc=>by simp at hc;omega)).mono (by omega)
  refine⟨xp,xi,rfl,hnod,h3.ext hx5 (by simp;omega) (fun c hc h=>by simp at h;subst h;have:=hF _ hc;omega),h4.own hx5 (fun c hc hlt=>by simp at hc;omega)⟩
 refine jg (s:=.int .i64) (t:=((min (nmS s).1 9:Nat):Int)) rfl hn4 rfl ?_
 refine jf ?_
 have nil2:∀ {W:World},Mine W.heap w4.heap.size zf 32 (none,0,0) (([]:List (List UInt8)).flatMap Bl.zd7)/\Mine W.heap w4.heap.size jl 34 (none,0,0) (([]:List Itm).flatMap zh3):=⟨.inl ⟨rfl,rfl⟩,.inl ⟨rfl,rfl⟩⟩
 have bn:w2.heap.size≠b:=by have:=hx2.1;have:=hx1.1;omega
 have fn:∀ c∈F,w2.heap.size≠c:=fun c hc=>by have:=hF c hc;have:=hx2.1;have:=hx1.1;omega
 refine zba (fun h1=>?_) (fun h1=>?_)
 ·have h1:min (nmS s).1 9=1:=by omega
  have hr:zcu s=(⟨1,(txS 64 (nmS s).2).1,0,[],[]⟩,(txS 64 (nmS s).2).2):=by unfold zcu;rw [if_pos h1]
  rw [h1] at hn4
  refine zh (qbf (most:=64) rfl hI4 (by omega)) ?_
  rintro e w5 ⟨rfl,hI5,hx5⟩
  refine⟨strOf (txS 64 (nmS s).2).1,rfl,?_⟩
  have hn5:=hx5.get hn4 (by simp;exact bn)
  refine zb8 rfl hn5 (by simp [zfb]) fun w6 hw6=>?_
  have hx6:Ext [w2.heap.size] w5.heap w6.heap:=by rw [hw6];exact Ext.set _ (by simp)
  rw [hr]
  refine⟨(none,0,0),(none,0,0),by rw [hw6];exact qy hn5,nil2,hI5.ext hx6 (by simp;exact bn.symm) (fun c hc h=>by simp at h;exact fn c hc h.symm),(hx04.trans hx5).own hx6 (fun c hc hlt=>by simp at hc;omega),hx6.get (hx5.get hd4 (by simp;omega)) (by simp;omega)⟩
 refine zba (fun h2=>?_) (fun h2=>?_)
 ·have h1:min (nmS s).1 9≠1:=by omega
  have h2:min (nmS s).1 9=2:=by omega
  generalize hs2:nmS (nmS s).2=a2 at *
  have hr:zcu s=(⟨2,[],((min a2.1 1025:Nat):Int),(zgv ((min a2.1 1025+63) / 64) a2.2).1,[]⟩,(zgv ((min a2.1 1025+63) / 64) a2.2).2):=by unfold zcu;rw [if_neg h1,if_pos h2,hs2]
  rw [h2] at hn4
  refine zh (z15 rfl hI4) ?_
  rintro e w5 ⟨rfl,hI5,hx5⟩
  refine⟨((nmS (nmS s).2).1:Int),rfl,?_⟩
  rw [hs2] at hI5 |-
  refine qc (s:=.int .u64) ((min a2.1 1025:Nat):Int) (qhv 1025 _ _) ?_
  generalize hK:min a2.1 1025=K at *
  have hK2:K<=1025:=by omega
  refine zp6 (by omega) (by omega) ?_
  have hn5:=hx5.get hn4 (by simp;exact bn)
  refine zb8 rfl hn5 (by simp [zfb]) fun w6 hw6=>?_
  have hx6:Ext [w2.heap.size] w5.heap w6.heap:=by rw [hw6];exact Ext.set _ (by simp)
  have hn6:w6.heap[w2.heap.size]?=some (.cells (zfb ⟨2,[],(K:Int),[],[]⟩ (none,0,0) (none,0,0)).toArray zu (0,0)):=by rw [hw6];exact qy hn5
  refine jg (s:=.int .i64) (t:=(K:Int)) rfl hn6 rfl ?_
  have hparts:qj P ziu #[.int .i64 (K:Int)] w6 fun e w'=>e=.returned (.int .i64 (((K+63) / 64:Nat):Int))/\w'=w6:=by
   refine zrm ?_
   unfold zob
   refine jr ((K:Int)+64) rfl (by omega) (by omega) ?_
   refine zdb ((K:Int)+63) (by omega) (by omega) (by omega) ?_
   refine qb6 (K+63) 64 (by omega) rfl (by omega) (by omega) ?_
   exact⟨rfl,rfl⟩
  refine zh hparts ?_
  rintro e w7 ⟨rfl,rfl⟩
  refine⟨(((K+63) / 64:Nat):Int),rfl,?_⟩
  have hI6:=hI5.ext hx6 (by simp;exact bn.symm) (fun c hc h=>by simp at h;exact fn c hc h.symm)
  have hx06:=(hx04.trans hx5).own hx6 (fun c hc hlt=>by simp at hc;omega)
  have hd6:=hx6.get (hx5.get hd4 (by simp;omega)) (by simp;omega)
  have s46:w4.heap.size<=w7.heap.size:=Nat.le_trans hx5.1 hx6.1
  generalize hM:(K+63) / 64=M at *
  rw [hr]
  refine zae (fun (t:Int) W=>∃ (i:Nat) (xp:Option Addr×Nat×Nat),t=(i:Int)/\i<=M/\W.heap[w2.heap.size]?=some (.cells (zfb ⟨2,[],(K:Int),(zgv i a2.2).1,[]⟩ xp (none,0,0)).toArray zu (0,0))/\Mine W.heap w4.heap.size zf 32 xp ((zgv i a2.2).1.flatMap Bl.zd7) /\
   InW W.heap b F (zgv i a2.2).2/\Ext [b] H W.heap/\W.heap[H.size]?=some (.cells (zc P zu) zu (0,0))/\w4.heap.size<=W.heap.size) (fun t _=>(M-t).toNat) ⟨0,(none,0,0),rfl,Nat.zero_le _,hn6,.inl ⟨rfl,rfl⟩,hI6,hx06,hd6,s46⟩ ?_
  rintro _ W ⟨i,xp,rfl,hi,g1,g2,g3,g4,g5,g6⟩
  refine zy (fun hlt=>?_) (fun hge=>?_)
  ·refine vw rfl fun w8 hw8=>?_
   rw [<-hw8] at g1 g2 g3 g4 g5 g6
   refine jg (s:=.slc) (t:=xp) rfl g1 rfl ?_
   refine zh (qfk rfl g3 (fun c hc=>by have:=hF c hc;have:=g4.1;omega)) ?_
   rintro e w9 ⟨rfl,hI9,hx9⟩
   refine⟨arr (dgS (zgv i a2.2).2).1,rfl,?_⟩
   have k1:=hx9.get g1 (by simp;exact bn)
   have k2:=g2.ext hx9 (fun c hc h=>by simp at h;subst h;have:=jo g2 _ hc;omega)
   have s9:=hx9.1
   refine⟨jg (s:=.slc) (o:=3) (t:=xp) (K:=fun z=>Value.slice z.1 z.2.1 z.2.2=Value.slice xp.1 xp.2.1 xp.2.2) rfl k1 rfl rfl,?_⟩
   refine z90 rfl k2 (by omega) zt7 (by rw [zqm];omega) (fun w10 hx10=>jg (s:=.slc) (o:=3) (t:=xp) (K:=fun z=>Value.slice z.1 z.2.1 z.2.2=Value.slice xp.1 xp.2.1 xp.2.2) rfl (hx10.get k1 (by simp)) rfl rfl) fun xp2 w11 hm11 hx11 hs11=>?_
   have own3:∀ {c:Nat},c < w4.heap.size->c∉jw xp:=fun h hc=>by have:=jo g2 _ hc;omega
   have k11:=hx11.get k1 (own3 s4)
   refine zb8 rfl k11 (by simp [zfb]) fun w12 hw12=>?_
   have hx12:Ext [w2.heap.size] w11.heap w12.heap:=by rw [hw12];exact Ext.set _ (by simp)
   have s11:=hx11.1
   have s12:=hx12.1
   refine jr ((i+1:Nat):Int) (by simp) (by omega) (by omega) ?_
   refine⟨⟨i+1,xp2,rfl,by omega,by rw [hw12];exact qy k11,hm11.ext hx12 (fun c hc h=>by simp at h;subst h;have:=jo hm11 _ hc;omega),?_,?_,?_,by omega⟩,by omega⟩
   ·refine (hI9.ext hx11 (own3 (by omega)) fun c hc=>own3 (by have:=hF c hc;omega)).ext hx12 (by simp;exact bn.symm) (fun c hc h=>by simp at h;exact fn c hc h.symm)
   ·exact ((g4.trans hx9).own hx11 (fun c hc hlt=>by have:=jo g2 _ hc;omega)).own hx12 (fun c hc hlt=>by simp at hc;omega)
   ·exact hx12.get (hx11.get (hx9.get g5 (by simp;omega)) (own3 (by omega))) (by simp;omega)
  ·obtain rfl:i=M:=by omega
   exact⟨xp,(none,0,0),g1,⟨g2,.inl ⟨rfl,rfl⟩⟩,g3,g4,g5⟩
 refine zba (fun h3=>?_) (fun h3=>?_)
 ·have h1:min (nmS s).1 9≠1:=by omega
  have h2:min (nmS s).1 9≠2:=by omega
  have h3:min (nmS s).1 9=3:=by omega
  generalize hs2:nmS (nmS s).2=a2 at *
  have hr:zcu s=(⟨3,[],0,[],(zfa (min a2.1 65) a2.2).1⟩,(zfa (min a2.1 65) a2.2).2):=by unfold zcu;rw [if_neg h1,if_neg h2,if_pos h3,hs2]
  rw [h3] at hn4
  refine zh (z15 rfl hI4) ?_
  rintro e w7 ⟨rfl,hI6,hx5⟩
  refine⟨((nmS (nmS s).2).1:Int),rfl,?_⟩
  rw [hs2] at hI6 |-
  refine qc (s:=.int .u64) ((min a2.1 65:Nat):Int) (qhv 65 _ _) ?_
  generalize hM:min a2.1 65=M at *
  have hn6:=hx5.get hn4 (by simp;exact bn)
  have hx06:=hx04.trans hx5
  have hd6:=hx5.get hd4 (by simp;omega)
  have s46:w4.heap.size<=w7.heap.size:=hx5.1
  rw [hr]
  refine zae (fun (t:Int) W=>∃ (i:Nat) (xi:Option Addr×Nat×Nat),t=(i:Int)/\i<=M/\W.heap[w2.heap.size]?=some (.cells (zfb ⟨3,[],0,[],(zfa i a2.2).1⟩ (none,0,0) xi).toArray zu (0,0))/\Mine W.heap w4.heap.size jl 34 xi ((zfa i a2.2).1.flatMap zh3) /\
   InW W.heap b F (zfa i a2.2).2/\Ext [b] H W.heap/\W.heap[H.size]?=some (.cells (zc P zu) zu (0,0))/\w4.heap.size<=W.heap.size) (fun t _=>(M-t).toNat) ⟨0,(none,0,0),rfl,Nat.zero_le _,hn6,.inl ⟨rfl,rfl⟩,hI6,hx06,hd6,s46⟩ ?_
  rintro _ W ⟨i,xi,rfl,hi,g1,g2,g3,g4,g5,g6⟩
  refine zy (fun hlt=>?_) (fun hge=>?_)
  ·refine vw rfl fun w8 hw8=>?_
   rw [<-hw8] at g1 g2 g3 g4 g5 g6
   have re:∀ {W':World},W'.heap[w2.heap.size]?=some (.cells (zfb ⟨3,[],0,[],(zfa i a2.2).1⟩ (none,0,0) xi).toArray zu (0,0))->ld .slc (⟨w2.heap.size,4,none⟩:Addr) W' fun z=>Value.slice z.1 z.2.1 z.2.2=Value.slice xi.1 xi.2.1 xi.2.2:=fun h=>jg (s:=.slc) (o:=4) (t:=xi) (K:=fun z=>Value.slice z.1 z.2.1 z.2.2=Value.slice xi.1 xi.2.1 xi.2.2) rfl h rfl rfl
   refine jg (s:=.slc) (t:=xi) rfl g1 rfl ?_
   refine zh (qbf (most:=16) rfl g3 (by omega)) ?_
   rintro e w9 ⟨rfl,hI9,hx9⟩
   refine⟨strOf (txS 16 (zfa i a2.2).2).1,rfl,?_⟩
   have k9:=hx9.get g1 (by simp;exact bn)
   refine⟨re k9,?_⟩
   refine zh (z15 rfl hI9) ?_
   rintro e w10 ⟨rfl,hI10,hx10⟩
   refine⟨((nmS (txS 16 (zfa i a2.2).2).2).1:Int),rfl,?_⟩
   have k10:=hx10.get k9 (by simp;exact bn)
   refine⟨re k10,?_⟩
   refine qc (s:=.int .u64) ((min (nmS (txS 16 (zfa i a2.2).2).2).1 9:Nat):Int) (qhv 9 _ _) ?_
   refine zp6 (by omega) (by omega) ?_
   have s9:=hx9.1
   have s10:=hx10.1
   have s04:=g4.1
   refine zh (qfk rfl hI10 (fun c hc=>by have:=hF c hc;omega)) ?_
   rintro e w11 ⟨rfl,hI11,hx11⟩
   refine⟨arr (dgS (nmS (txS 16 (zfa i a2.2).2).2).2).1,rfl,?_⟩
   have k11:=hx11.get k10 (by simp;exact bn)
   refine⟨qc (s:=.int .u64) ((min (nmS (txS 16 (zfa i a2.2).2).2).1 9:Nat):Int) (qhv 9 _ _) rfl,re k11,?_⟩
   refine qc (s:=.any) (.agg (zh3 (qa3 (zfa i a2.2).2).1).toArray) (by rw [bT3 _ _ zt7];unfold zh3 qa3;rw [Bl.zhq zt7];rfl) ?_
   have hx811:=(hx9.trans hx10).trans hx11
   have k2:=g2.ext hx811 (fun c hc h=>by simp at h;subst h;have:=jo g2 _ hc;omega)
   have s11:=hx11.1
   refine qca (i:=(qa3 (zfa i a2.2).2).1) rfl k2 (by omega) (by rw [zss];omega) (fun w12 hx12=>re (hx12.get k11 (by simp))) fun xi2 w13 hm13 hx13 hs13=>?_
   have own3:∀ {c:Nat},c < w4.heap.size->c∉jw xi:=fun h hc=>by have:=jo g2 _ hc;omega
   have k13:=hx13.get k11 (own3 s4)
   refine zb8 rfl k13 (by simp [zfb]) fun w14 hw14=>?_
   have hx14:Ext [w2.heap.size] w13.heap w14.heap:=by rw [hw14];exact Ext.set _ (by simp)
   have s13:=hx13.1
   have s14:=hx14.1
   refine⟨((i+1:Nat):Int),(by rw [wrap_u64] <;> omega),?_⟩
   have hI:InW w11.heap b F (zfa (i+1) a2.2).2:=hI11
   refine⟨⟨i+1,xi2,rfl,by omega,by rw [hw14];exact qy k13,hm13.ext hx14 (fun c hc h=>by simp at h;subst h;have:=jo hm13 _ hc;omega),?_,?_,?_,by omega⟩,by omega⟩
   ·refine (hI.ext hx13 (own3 (by omega)) fun c hc=>own3 (by have:=hF c hc;omega)).ext hx14 (by simp;exact bn.symm) (fun c hc h=>by simp at h;exact fn c hc h.symm)
   ·exact ((g4.trans hx811).own hx13 (fun c hc hlt=>by have:=jo g2 _ hc;omega)).own hx14 (fun c hc hlt=>by simp at hc;omega)
   ·exact hx14.get (hx13.get (hx811.get g5 (by simp;omega)) (own3 (by omega))) (by simp;omega)
  ·obtain rfl:i=M:=by omega
   exact⟨(none,0,0),xi,g1,⟨.inl ⟨rfl,rfl⟩,g2⟩,g3,g4,g5⟩
 ·have h1:min (nmS s).1 9≠1:=by omega
  have h2:min (nmS s).1 9≠2:=by omega
  have h3:min (nmS s).1 9≠3:=by omega
  have hr:zcu s=(⟨((min (nmS s).1 9:Nat):Int),[],0,[],[]⟩,(nmS s).2):=by unfold zcu;rw [if_neg h1,if_neg h2,if_neg h3]
  rw [hr]
  exact⟨(none,0,0),(none,0,0),hn4,nil2,hI4,hx04,hd4⟩
def zh2:Nod:=⟨0,[],0,[],[]⟩
def zom (L:List UInt8):Nod×Int:=if (zcu (some L)).2=some []/\zdj (zcu (some L)).1=true then ((zcu (some L)).1,0) else (zh2,21)
theorem qa1 {m:Nat}{s:Rest}:(txS m s).1.length<=m:=by
 unfold txS
 cases s with
 | none=>simp
 | some R=>
  simp only
  cases h:zw5 m R with
  | none=>simp
  | some y=>
   unfold zw5 at h
   cases h2:rdNum R with
   | none=>rw [h2] at h;cases h
   | some z=>
    rw [h2] at h
    simp only at h
    split at h
    ·cases h
    ·rename_i h3
     simp only [Option.some.injEq] at h
     rw [<-h];simp;omega
theorem ztr {s:Rest}:∀ {k:Nat},∀ i∈(zfa k s).1,i.name.length<=16
 | 0,p,h=>by cases h
 | k+1,p,h=>by
  simp only [zfa,List.mem_append,List.mem_singleton] at h
  rcases h with h | rfl
  ·exact ztr p h
  ·exact qa1
theorem ztm {s:Rest}:(zcu s).1.size<=1025/\(∀ i∈(zcu s).1.items,i.name.length<=16)/\(zcu s).1.items.length<=65:=by
 unfold zcu
 split
 ·simp
 ·split
  ·exact⟨by simp only;omega,by simp,by simp⟩
  ·split
   ·exact⟨by simp,ztr,by simp only;rw [zss];omega⟩
   ·simp
theorem bN0 (w:World):(Instr.build zu #[]).run P w=.ok (.agg (zfb zh2 (none,0,0) (none,0,0)).toArray) w:=by kernel_rfl
theorem stN {w:World}{H:Heap}{b:Nat}{c:Array Value}{T:TypeId}(n:Nod) (xp xi:Option Addr×Nat×Nat) (hw:w.heap=H) (hb:H[b]?=some (.cells c T (0,0))) (hs:c.size=5){K:World->Prop}
  (hK:∀ w',w'.heap=H.setIfInBounds b (.cells (zfb n xp xi).toArray T (0,0))->K w'):zah P (storeVar zu (⟨b,0,none⟩:Addr) (.agg (zfb n xp xi).toArray)) w K:=by
 refine zbe (v:=.agg (zfb n xp xi).toArray) (by rw [szN];rfl) (by simp [Value.cells,zfb]) (by
   intro v hv
   simp only [Value.cells,zfb,List.mem_cons,List.not_mem_nil,or_false] at hv
   rcases hv with rfl | rfl | rfl | rfl | rfl <;> rfl) hw hb (by rw [hs];simp [Value.cells,zfb]) fun w5 hw5=>hK w5 ?_
 rw [zau (by rw [hs];simp [Value.cells,zfb])] at hw5
 simpa [Value.cells] using hw5
theorem zr0 {w:World}{H:Heap}{b:Nat}{R:Array Value->World->Prop}(hw:w.heap=H) (hb:H[b]?=some (.cells (zc P zu) zu (0,0))) (hR:∀ w',Ext [b] H w'.heap->R (zfb zh2 (none,0,0) (none,0,0)).toArray w') :
  zad P (Instr.build zu #[]) .any w fun (t:Value)=>zah P (storeVar zu (⟨b,0,none⟩:Addr) t) w fun w2=>ldA P 5 (⟨b,0,none⟩:Addr) w2 fun t4=>R t4 w2:=by
 refine qc (s:=.any) _ (bN0 _) ?_
 refine stN zh2 (none,0,0) (none,0,0) hw hb zcN fun w2 hw2=>?_
 have hb2:w2.heap[b]?=some (.cells (zfb zh2 (none,0,0) (none,0,0)).toArray zu (0,0)):=by rw [hw2];exact qy hb
 refine xw rfl hb2 rfl ?_
 exact hR w2 (by rw [hw2];exact Ext.set _ (by simp))
set_option maxHeartbeats 4000000 in
theorem qbb {w:World}{H:Heap}{a:Option Addr}{n nc:Nat}{L:List UInt8}(hw:w.heap=H) (hL:Cells H a (byteCells L)) (hn:n=L.length) (hl:L.length<=1099511627776) :
  qj P zmn #[.slice a n nc] w fun e w'=>∃ xp xi,e=.returned (.tuple #[.agg (zfb (zom L).1 xp xi).toArray,.int .i64 (zom L).2])/\NodM w'.heap H.size (zom L).1 xp xi/\Ext [] H w'.heap:=by
 refine zxz ?_
 unfold zr3
 refine ji hw fun w1 hw1=>?_
 have hx1:Ext [] H w1.heap:=by rw [hw1];exact .push _
 have hd1:w1.heap[H.size]?=some (.cells (zc P zu) zu (0,0)):=by rw [hw1];exact zk
 have s1:=lt_of_get hd1
 refine zh (qh1 rfl (hL.ext hx1 (by simp)) hn hl) ?_
 rintro e w2 ⟨b,F,rfl,hI2,hx2,hb2,hF2,hb2l,hF2l⟩
 refine⟨some ⟨b,0,none⟩,rfl,?_⟩
 have hd2:=hx2.get hd1 (by simp)
 refine zh (qgr rfl hI2 hF2l) ?_
 rintro e w3 ⟨xp,xi,rfl,hN3,hI3,hx3⟩
 refine⟨.agg (zfb (zcu (some L)).1 xp xi).toArray,rfl,?_⟩
 have hsm:=ztm (s:=some L)
 have hdec:zom L=if (zcu (some L)).2=some []/\zdj (zcu (some L)).1=true then ((zcu (some L)).1,0) else (zh2,21):=rfl
 generalize zcu (some L)=D at *
 have hx13:Ext [] w1.heap w3.heap:=hx2.own hx3 (fun c hc hlt=>by simp at hc;omega)
 have hd3:=hx13.get hd1 (by simp)
 refine qe3 D.1 xp xi rfl fun w5 hw5=>?_
 have hx5:Ext [] w3.heap w5.heap:=by rw [hw5];exact .push _
 have hn5:w5.heap[w3.heap.size]?=some (.cells (zfb D.1 xp xi).toArray zu (0,0)):=by rw [hw5];exact zk
 have s3:=hx13.1
 have hd5:=hx5.get hd3 (by simp)
 have hx05:=(hx1.trans hx13).trans hx5
 have bad:∀ {W W':World},¬(D.2=some []/\zdj D.1=true)->Ext [] w5.heap W.heap->Ext [H.size] W.heap W'.heap->∃ xp xi,Ending.returned (.tuple #[.agg (zfb zh2 (none,0,0) (none,0,0)).toArray,.int .i64 21])=.returned (.tuple #[.agg (zfb (zom L).1 xp xi).toArray,.int .i64 (zom L).2])/\NodM W'.heap H.size (zom L).1 xp xi/\Ext [] H W'.heap:=by
  intro W W' h hxa hxb
  rw [hdec,if_neg h]
  exact⟨_,_,rfl,.bare rfl rfl,(hx05.trans hxa).own hxb (fun c hc hlt=>by simp at hc;omega)⟩
 refine Go.Fw.joinP_of (fun _ W=>Ext [] w5.heap W.heap/\(D.2=some []/\zdj D.1=true)) ?_ ?_
 ·refine zh (qix rfl (hI3.ext hx5 (by simp) (by simp))) ?_
  rintro e w6 ⟨rfl,rfl⟩
  refine⟨decide (D.2=some []),rfl,?_⟩
  by_cases he:D.2=some []
  ·refine qp (by simp [he]) ?_
   refine xw rfl hn5 rfl ?_
   refine zh (qbs rfl (hN3.nodW.ext hx5) (by omega) (fun i hi=>by have:=hsm.2.1 i hi;omega) (by omega)) ?_
   rintro e w8 ⟨rfl,hx8⟩
   refine⟨zdj D.1,rfl,?_⟩
   cases hr:zdj D.1 with
   | true=>exact qp rfl ⟨hx8,he,rfl⟩
   | false=>exact jh rfl (zr0 rfl (hx8.get hd5 (by simp)) fun w9 hx9=>bad (fun h=>by rw [hr] at h;cases h.2) hx8 hx9)
  ·exact jh (by simp [he]) (zr0 rfl hd5 fun w7 hx7=>bad (fun h=>he h.1) (.refl _ _) hx7)
 ·rintro _ W ⟨hx,hok⟩
  refine xw rfl (hx.get hn5 (by simp)) rfl ?_
  refine stN D.1 xp xi rfl (hx.get hd5 (by simp)) zcN fun w11 hw11=>?_
  have hx11:Ext [H.size] W.heap w11.heap:=by rw [hw11];exact Ext.set _ (by simp)
  have hd11:w11.heap[H.size]?=some (.cells (zfb D.1 xp xi).toArray zu (0,0)):=by rw [hw11];exact qy (hx.get hd5 (by simp))
  refine xw rfl hd11 rfl ?_
  rw [hdec,if_pos hok]
  refine⟨xp,xi,rfl,?_,(hx05.trans hx).own hx11 (fun c hc hlt=>by simp at hc;omega)⟩
  have s2:=hx2.1
  exact (((hN3.ext hx5 (by simp)).ext hx (by simp)).ext hx11 (fun c hc=>by simp at hc;omega)).mono (by omega)
def zq5 (v:Option (List UInt8)) (k:List UInt8) (kind:Int):Nod×Int:=
 if Bl.got v k≠0 then (zh2,Bl.got v k) else if (zom (v.getD [])).2≠0\/(zom (v.getD [])).1.kind≠kind then (zh2,21) else ((zom (v.getD [])).1,0)
set_option maxHeartbeats 4000000 in
theorem z4a {w:World}{H:Heap}{fp:List Nat}{p:Nat}{q:Int}{r:Bl.SM}{c:Nat}{k:List UInt8}{kind:Int}(hw:w.heap=H) (hS:Bl.Store H fp p q r c) (hk:k.length=32) (hR:Bl.Rounds H) (hlen:∀ L,Bl.zcq r k=some L->L.length < 1099511627776) :
  qj P zia #[.pointer (some ⟨p,0,none⟩),arr k,.int .i64 kind] w fun e w'=>∃ xp xi,e=.returned (.tuple #[.agg (zfb (zq5 (Bl.zcq r k) k kind).1 xp xi).toArray,.int .i64 (zq5 (Bl.zcq r k) k kind).2])/\NodM w'.heap H.size (zq5 (Bl.zcq r k) k kind).1 xp xi/\Ext [] H w'.heap:=by
 refine z3x ?_
 unfold zyc
 rw [show (arr k).cells=(byteCells k).toArray from rfl]
 refine ji hw fun w1 hw1=>?_
 have hx1:Ext [] H w1.heap:=by rw [hw1];exact .push _
 have hb1:w1.heap[H.size]?=some (.cells (byteCells k).toArray zf (0,0)):=by rw [hw1];exact zk
 have s1:=lt_of_get hb1
 refine ji rfl fun w2 hw2=>?_
 have hx2:Ext [] w1.heap w2.heap:=by rw [hw2];exact .push _
 have hd2:w2.heap[w1.heap.size]?=some (.cells (zc P zu) zu (0,0)):=by rw [hw2];exact zk
 have s2:=lt_of_get hd2
 have hx02:=hx1.trans hx2
 refine xw rfl (hx2.get hb1 (by simp)) (by simp [hk]) ?_
 refine zh (Bl.z8g (k:=k) rfl (hS.ext hx02 (by simp)) hk (hR.ext hx02 (by simp)) hlen) ?_
 rintro e w3 ⟨x,rfl,hx3,hgot,hno⟩
 refine⟨(x,Bl.got (Bl.zcq r k) k),rfl,?_⟩
 have hd3:=hx3.get hd2 (by simp)
 have hx03:=hx02.trans hx3
 refine zbr (fun h=>?_) (fun h=>?_)
 ·have hv:zq5 (Bl.zcq r k) k kind=(zh2,Bl.got (Bl.zcq r k) k):=by unfold zq5;rw [if_pos h]
  refine zr0 rfl hd3 fun w4 hx4=>?_
  rw [hv]
  exact⟨_,_,rfl,.bare rfl rfl,hx03.own hx4 (fun c hc hlt=>by simp at hc;omega)⟩
 have h:Bl.got (Bl.zcq r k) k=0:=h
 obtain⟨L,hL,hm⟩:=hgot h
 have hv:zq5 (Bl.zcq r k) k kind=if (zom L).2≠0\/(zom L).1.kind≠kind then (zh2,21) else ((zom L).1,0):=by
  unfold zq5;rw [if_neg (by simpa using h),hL];rfl
 have hxl:x.2.1=L.length:=by have:=hm.len;simp at this;omega
 refine zh (qbb (L:=L) rfl hm.cells hxl (by have:=hlen L hL;omega)) ?_
 rintro e w5 ⟨xp,xi,rfl,hN5,hx5⟩
 refine⟨(.agg (zfb (zom L).1 xp xi).toArray,(zom L).2),rfl,?_⟩
 generalize zom L=D at *
 have hd5:=hx5.get hd3 (by simp)
 have s3:=hx3.1
 have s5:=hx5.1
 refine qe3 D.1 xp xi rfl fun w7 hw7=>?_
 have hx7:Ext [] w5.heap w7.heap:=by rw [hw7];exact .push _
 have hn7:w7.heap[w5.heap.size]?=some (.cells (zfb D.1 xp xi).toArray zu (0,0)):=by rw [hw7];exact zk
 have hd7:=hx7.get hd5 (by simp)
 have hx07:=(hx03.trans hx5).trans hx7
 have bad:∀ {W':World},(D.2≠0\/D.1.kind≠kind)->Ext [w1.heap.size] w7.heap W'.heap->∃ xp xi,Ending.returned (.tuple #[.agg (zfb zh2 (none,0,0) (none,0,0)).toArray,.int .i64 21])=.returned (.tuple #[.agg (zfb (zq5 (Bl.zcq r k) k kind).1 xp xi).toArray,.int .i64 (zq5 (Bl.zcq r k) k kind).2])/\NodM W'.heap H.size (zq5 (Bl.zcq r k) k kind).1 xp xi/\Ext [] H W'.heap:=by
  intro W' h hxb
  rw [hv,if_pos h]
  exact⟨_,_,rfl,.bare rfl rfl,hx07.own hxb (fun c hc hlt=>by simp at hc;omega)⟩
 refine Go.Fw.joinP_of (fun _ W=>W.heap=w7.heap/\¬(D.2≠0\/D.1.kind≠kind)) ?_ ?_
 ·refine zbr (fun h1=>?_) (fun h1=>?_)
  ·exact zr0 rfl hd7 fun w8 hx8=>bad (.inl h1) hx8
  ·refine jg (s:=.int .i64) (t:=D.1.kind) rfl hn7 rfl ?_
   refine zbr (fun h2=>?_) (fun h2=>?_)
   ·exact zr0 rfl hd7 fun w8 hx8=>bad (.inr h2) hx8
   ·exact⟨rfl,fun h=>h.elim (fun h=>h h1) (fun h=>h h2)⟩
 ·rintro _ W ⟨hW,hok⟩
  rw [<-hW] at hn7 hd7
  have hxW:Ext [] H W.heap:=by rw [hW];exact hx07
  refine xw rfl hn7 rfl ?_
  refine stN D.1 xp xi rfl hd7 zcN fun w11 hw11=>?_
  have hx11:Ext [w1.heap.size] W.heap w11.heap:=by rw [hw11];exact Ext.set _ (by simp)
  have hd11:w11.heap[w1.heap.size]?=some (.cells (zfb D.1 xp xi).toArray zu (0,0)):=by rw [hw11];exact qy hd7
  refine xw rfl hd11 rfl ?_
  rw [hv,if_neg hok]
  refine⟨xp,xi,rfl,?_,hxW.own hx11 (fun c hc hlt=>by simp at hc;omega)⟩
  have k1:=hN5.ext hx7 (by simp)
  rw [<-hW] at k1
  exact (k1.ext hx11 (fun c hc=>by simp at hc;omega)).mono (by omega)
theorem qbm {w:World}{H:Heap}{b:Nat}(hw:w.heap=H) (hb:H[b]?=some (.cells #[.pointer none,.slice none 0 0] ku (0,0))) :
  qj P zb0 #[.pointer (some ⟨b,0,none⟩)] w fun e w'=>e=.returned (.string (strOf []))/\w'.heap=H:=by
 refine zge ?_
 unfold zeh
 refine vw hw fun w1 hw1=>?_
 simp only [jc,zan,Nat.zero_add]
 refine jg (s:=.slc) (t:=(none,0,0)) hw1 hb rfl ?_
 refine jg (s:=.slc) (t:=(none,0,0)) hw1 hb rfl ?_
 refine zaf (s:=.ptr) none w1 (Lib.run_unsafeSliceData_nil w1 _ _ _ _) ?_
 refine⟨jg (s:=.slc) (t:=(none,0,0)) hw1 hb rfl rfl,?_⟩
 refine zaf (s:=.str) (strOf []) w1 (Lib.run_unsafeString_none w1 _ _ _ _) ?_
 exact⟨rfl,hw1⟩
def z3p (g:List UInt8->Nod×Int) (size:Int):Nat->List (List UInt8)->List UInt8->List UInt8×Int
 | _,[],acc=>(acc,0)
 | i,p :: ps,acc=>if (g p).2≠0 then ([],(g p).2) else if ((g p).1.data.length:Int)≠min 64 (size-64 * i) then ([],21) else z3p g size (i+1) ps (acc++(g p).1.data)
def zf7 (r:Bl.SM) (n:Nod):List UInt8×Int:=z3p (fun k=>zq5 (Bl.zcq r k) k 1) n.size 0 n.parts []
theorem z1g {L:List UInt8}:(zom L).1.data.length<=64/\((zom L).2=0->(zom L).1.kind=1->(zom L).1.data≠[]):=by
 unfold zom
 split
 ·rename_i h
  constructor
  ·unfold zcu
   split
   ·exact qa1
   ·split
    ·simp
    ·split <;> simp
  ·intro _ hk hd
   have h2:=h.2
   unfold zdj at h2
   rw [if_pos hk] at h2
   simp only [decide_eq_true_eq] at h2
   simp only at hd
   rw [hd] at h2
   simp at h2
 ·exact⟨by simp [zh2],by intro h;simp at h⟩
theorem qa5 {v:Option (List UInt8)}{k:List UInt8}:(zq5 v k 1).1.data.length<=64/\((zq5 v k 1).2=0->(zq5 v k 1).1.data≠[]):=by
 unfold zq5
 split
 ·rename_i h;exact⟨by simp [zh2],fun h'=>absurd h' h⟩
 ·split
  ·exact⟨by simp [zh2],by intro h;simp at h⟩
  ·rename_i h
   refine⟨z1g.1,fun _=>z1g.2 ?_ ?_⟩
   ·exact Decidable.byContradiction fun h'=>h (.inl h')
   ·exact Decidable.byContradiction fun h'=>h (.inr h')
set_option maxHeartbeats 4000000 in
theorem qa8 {w:World}{H:Heap}{fp:List Nat}{p:Nat}{q:Int}{r:Bl.SM}{c:Nat}{n:Nod}{xp xi:Option Addr×Nat×Nat}(hw:w.heap=H) (hS:Bl.Store H fp p q r c) (hR:Bl.Rounds H) (hlen:∀ k L,Bl.zcq r k=some L->L.length < 1099511627776)
  (hN:NodW H n xp xi) (hpl:n.parts.length<=65536) (hs1:-1099511627776<=n.size) (hs2:n.size<=1099511627776) :
  qj P zb9 #[.pointer (some ⟨p,0,none⟩),.agg (zfb n xp xi).toArray] w fun e w'=>e=.returned (.tuple #[.string (strOf (zf7 r n).1),.int .i64 (zf7 r n).2])/\Ext [] H w'.heap:=by
 refine zvh ?_
 unfold zpq
 refine ji hw fun w1 hw1=>?_
 have hx1:Ext [] H w1.heap:=by rw [hw1];exact .push _
 have hb1:w1.heap[H.size]?=some (.cells (zfb n xp xi).toArray zu (0,0)):=by rw [hw1];exact zk
 have s1:=lt_of_get hb1
 refine ji rfl fun w2 hw2=>?_
 have hx2:Ext [] w1.heap w2.heap:=by rw [hw2];exact .push _
 have hd2:w2.heap[w1.heap.size]?=some (.cells #[.pointer none,.slice none 0 0] ku (0,0)):=by rw [hw2,zcB];exact zk
 have s2:=lt_of_get hd2
 have hx02:=hx1.trans hx2
 refine jg (s:=.slc) (t:=xp) rfl (hx2.get hb1 (by simp)) rfl ?_
 refine zae (fun (s:Int) W=>∃ (i:Nat) (acc:List UInt8),s=(i:Int)/\i<=n.parts.length/\z3p (fun k=>zq5 (Bl.zcq r k) k 1) n.size i (n.parts.drop i) acc=zf7 r n/\Ext [] H W.heap/\w2.heap.size<=W.heap.size/\acc.length<=64 * i/\W.heap[H.size]?=some (.cells (zfb n xp xi).toArray zu (0,0)) /\
   Bd W.heap w2.heap.size w1.heap.size acc/\((acc=[]/\W.heap[w1.heap.size]?=some (.cells #[.pointer none,.slice none 0 0] ku (0,0)))\/acc≠[])) (fun s _=>(n.parts.length-s).toNat)
  ⟨0,[],rfl,Nat.zero_le _,rfl,hx02,Nat.le_refl _,by simp,hx2.get hb1 (by simp),⟨(none,0,0),none,hd2,.inl rfl,s2,.inl ⟨rfl,rfl⟩⟩,.inl ⟨rfl,hd2⟩⟩ ?_
 rintro _ W ⟨i,acc,rfl,hi,hc,hx,hsz,hal,hbW,hB,hne⟩
 have hxl:xp.2.1=n.parts.length:=hN.plen
 refine zy (fun hlt=>?_) (fun hge=>?_)
 ·have hil:i < n.parts.length:=by omega
  have hget:=List.getElem?_eq_getElem hil
  have hk32:=hN.p32 _ (List.getElem_mem hil)
  rw [List.drop_eq_getElem_cons hil] at hc
  generalize n.parts[i]=k at hget hk32 hc
  refine zff (i:=i) Bl.zck (by omega) rfl (hN.parts.ext hx (by simp)) hxl hget rfl ?_
  rw [Bl.zhq hk32]
  refine qhp hk32 rfl fun w5 hw5=>?_
  have hx5:Ext [] W.heap w5.heap:=by rw [hw5];exact .push _
  have hb5:w5.heap[W.heap.size]?=some (.cells (byteCells k).toArray zf (0,0)):=by rw [hw5];exact zk
  refine xw rfl hb5 (by simp [hk32]) ?_
  have hx05:=hx.trans hx5
  refine zh (z4a (k:=k) rfl (hS.ext hx05 (by simp)) hk32 (hR.ext hx05 (by simp)) (hlen k)) ?_
  rintro e w6 ⟨yp,yi,rfl,hN6,hx6⟩
  refine⟨(.agg (zfb (zq5 (Bl.zcq r k) k 1).1 yp yi).toArray,(zq5 (Bl.zcq r k) k 1).2),rfl,?_⟩
  have hgd:=qa5 (v:=Bl.zcq r k) (k:=k)
  unfold z3p at hc
  generalize zq5 (Bl.zcq r k) k 1=D at *
  refine qe3 D.1 yp yi rfl fun w8 hw8=>?_
  have hx8:Ext [] w6.heap w8.heap:=by rw [hw8];exact .push _
  have hn8:w8.heap[w6.heap.size]?=some (.cells (zfb D.1 yp yi).toArray zu (0,0)):=by rw [hw8];exact zk
  have hxW8:=(hx5.trans hx6).trans hx8
  refine zbr (fun h=>?_) (fun h=>?_)
  ·rw [if_pos h] at hc
   rw [<-hc]
   exact⟨rfl,hx.trans hxW8⟩
  have h:D.2=0:=h
  rw [if_neg (by simpa using h)] at hc
  refine jg (s:=.str) (t:=strOf D.1.data) rfl hn8 rfl ?_
  refine jg (s:=.int .i64) (t:=n.size) rfl (hxW8.get hbW (by simp)) rfl ?_
  refine zie ((64 * i:Nat):Int) (by omega) (by omega) (by omega) ?_
  refine zdb (n.size-64 * (i:Int)) (by omega) (by omega) (by omega) ?_
  refine qc (s:=.int .i64) (min 64 (n.size-64 * (i:Int))) (by
   rw [run_min_int2];congr 2
   by_cases h:(n.size-64 * (i:Int)) < 64
   ·rw [if_pos h];omega
   ·rw [if_neg h];omega) ?_
  refine zbr (fun h2=>?_) (fun h2=>?_)
  ·simp only [jy] at h2
   rw [if_pos h2] at hc
   rw [<-hc]
   exact⟨rfl,hx.trans hxW8⟩
  simp only [jy] at h2
  rw [if_neg (by simpa using h2)] at hc
  refine jg (s:=.str) (t:=strOf D.1.data) rfl hn8 rfl ?_
  have hB8:Bd w8.heap w2.heap.size w1.heap.size acc:=by
   obtain⟨x,pp,b1,b2,b3,b4⟩:=hB
   exact⟨x,pp,hxW8.get b1 (by simp),b2,b3,b4.ext hxW8 (by simp)⟩
  have s8:=hxW8.1
  refine zh (zju (M:=D.1.data) rfl hB8 (by omega) (by omega)) ?_
  rintro e w9 ⟨rfl,hB9,F,hx9,hF⟩
  refine⟨((D.1.data.length:Int),.nilIface),rfl,?_⟩
  refine jr ((i+1:Nat):Int) (by simp) (by omega) (by omega) ?_
  have s9:=hx9.1
  refine⟨⟨i+1,acc++D.1.data,rfl,by omega,hc,(hx.trans hxW8).own hx9 (fun c hc hlt=>by rcases hF c hc with h | h <;> omega),by omega,by simp;omega,hx9.get (hxW8.get hbW (by simp)) (fun hc=>by rcases hF _ hc with h | h <;> omega),hB9,.inr (by have:=hgd.2 h;simp [this])⟩,by omega⟩
 ·obtain rfl:i=n.parts.length:=by omega
  rw [List.drop_length] at hc
  unfold z3p at hc
  rw [<-hc]
  rcases hne with⟨rfl,h0⟩ | h0
  ·refine zh (qbm rfl h0) ?_
   rintro e w6 ⟨rfl,h6⟩
   exact⟨strOf [],rfl,rfl,by rw [h6];exact hx⟩
  ·refine zh (string_c rfl hB h0 (by omega)) ?_
   rintro e w6 ⟨rfl,F6,hx6,hF6⟩
   exact⟨strOf acc,rfl,rfl,hx.own hx6 (by intro b hb hlt;have:=hF6 b hb;omega)⟩
end Go.Proofs.YthaaekcaaecdeaaGreatDoor
