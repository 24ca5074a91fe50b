/- Part 4 of the texts below the card, joined. -/
import Derived.Test.YthaaekcaaecdeaaGreatDoorTMnc
import Derived.Shelf.SlSortCmp.WholeK
import Derived.Shelf.Small.Bits
import Derived.Shelf.Sort.Plain
import Derived.Test.YthaaekcaaecdeaaGreatDoorProg
import Derived.Shelf.Slices.In.SortNone
namespace Go.Proofs.YthaaekcaaecdeaaGreatDoor
open Go Go.Fw Go.Proofs
def joinP:Path->List UInt8
 | []=>[]
 | x :: xs=>x++xs.flatMap fun L=>47 :: L
def jd (p:Path):List UInt8:=47 :: joinP p
def tlen (p:Path):Nat:=(p.map (·.length)).sum
theorem zue:∀ {p:Path},(p.flatMap fun L=>(47:UInt8) :: L).length=tlen p+p.length
 | []=>rfl
 | x :: p=>by
  have:=zue (p:=p)
  simp only [List.flatMap_cons,List.length_append,List.length_cons,tlen,List.map_cons,List.sum_cons] at this |-
  omega
theorem zpr {x:List UInt8}{p:Path}:(joinP (x :: p)).length=tlen (x :: p)+p.length:=by
 simp only [joinP,List.length_append,zue,tlen,List.map_cons,List.sum_cons]
 omega
theorem zy2 {x:List UInt8}{p:Path}:jd (x :: p)=(x :: p).flatMap fun L=>47 :: L:=by simp [jd,joinP]
theorem zx9 {p:Path}{i:Nat}(h:i < p.length):tlen (p.take (i+1))=tlen (p.take i)+(p[i]).length:=by
 unfold tlen
 rw [List.take_add_one,List.getElem?_eq_getElem h,List.map_append,List.sum_append]
 simp
theorem zsx {p:Path}{i:Nat}:tlen (p.take i)<=tlen p:=by
 conv=>rhs;rw [<-List.take_append_drop i p]
 unfold tlen
 rw [List.map_append,List.sum_append]
 omega
set_option maxHeartbeats 4000000 in
theorem z5h {w:World}{H:Heap}{a:Option Addr}{n nc:Nat}{p:Path}(hw:w.heap=H) (hL:Cells H a (strRow p)) (hn:n=p.length) (hnc:n<=nc) (hlen:tlen p+p.length<=1099511627776) :
  zx P zhm #[.slice a n nc,.string (ByteArray.mk #[47])] w fun e w'=>e=.returned (.string (strOf (joinP p)))/\Ext [] H w'.heap:=by
 refine zpt ?_
 unfold zk5
 have hsep:(ByteArray.mk #[47]:ByteArray)=strOf [47]:=rfl
 have hsz:((ByteArray.mk #[47]:ByteArray).size:Int)=1:=rfl
 match p,hL,hn,hlen with
 | [],hL,hn,hlen=>
  subst hn
  exact jc rfl ⟨rfl,by rw [hw];exact .refl _ _⟩
 | [x],hL,hn,hlen=>
  subst hn
  refine qg rfl ?_
  refine jc rfl ?_
  refine zps (i:=0) hw hL rfl (by simp) rfl ?_
  exact⟨by simp [joinP],by rw [hw];exact .refl _ _⟩
 | x :: y :: p,hL,hn,hlen=>
  generalize hq:x :: y :: p=q at *
  have hql:q.length=p.length+2:=by rw [<-hq];simp
  have hjl:(joinP q).length=tlen q+(q.length-1):=by rw [<-hq,zpr];simp
  refine qg (by simp;omega) ?_
  refine qg (by simp;omega) ?_
  refine ku (fun (s:Int) W=>s=((q.length-1:Nat):Int)/\W=w) ?_ ?_
  ·refine jc rfl ?_
   refine x9 ?_
   refine zh8 ((q.length-1:Nat):Int) (by omega) (by omega) (by omega) ?_
   refine z5f 9223372036854775807 (q.length-1) rfl rfl (by omega) (by omega) ?_
   have hdiv:2<=9223372036854775807 / (q.length-1):=by
    rw [Nat.le_div_iff_mul_le (by omega)];omega
   refine qm (fun h=>absurd h (by rw [hsz];omega)) (fun _=>?_)
   refine zh8 ((q.length-1:Nat):Int) (by omega) (by omega) (by omega) ?_
   refine zuq ((q.length-1:Nat):Int) (by rw [hsz];omega) (by omega) (by omega) ?_
   refine zas ((q.length-1:Nat):Int) (by omega) (by omega) (by omega) ?_
   exact⟨rfl,rfl⟩
  rintro _ w ⟨rfl,rfl⟩
  refine zds (fun (s:Int×Int) W=>∃ i:Nat,s=(((q.length-1+tlen (q.take i):Nat):Int),(i:Int))/\i<=q.length/\W=w) (fun s _=>(q.length-s.2).toNat) ⟨0,by simp [tlen],Nat.zero_le _,rfl⟩ ?_
  rintro _ w ⟨i,rfl,hi,rfl⟩
  refine qm (fun hlt=>?_) (fun hge=>?_)
  ·have hil:i < q.length:=by simp only at hlt;omega
   have ht1:=zx9 hil
   have ht2:=zsx (p:=q) (i:=i+1)
   refine x9 ?_
   refine zps hw hL hn hil rfl ?_
   refine x9 ?_
   refine zh8 (9223372036854775807-((q.length-1+tlen (q.take i):Nat):Int)) rfl (by omega) (by omega) ?_
   refine qm (fun h=>absurd h (by simp only [zad];omega)) (fun _=>?_)
   refine zas ((q.length-1+tlen (q.take (i+1)):Nat):Int) (by simp only [zad];omega) (by omega) (by omega) ?_
   refine zas ((i+1:Nat):Int) (by omega) (by omega) (by omega) ?_
   exact⟨⟨i+1,rfl,by omega,rfl⟩,by simp only;omega⟩
  have hie:i=q.length:=by simp only at hge;omega
  subst hie
  rw [List.take_length]
  refine jg hw fun w1 hw1=>?_
  rw [zcB] at hw1
  have hb1:w1.heap[H.size]?=some (.cells #[.pointer none,.slice none 0 0] jk (0,0)):=by rw [hw1];exact zn
  have hx1:Ext [] H w1.heap:=by rw [hw1];exact .push _
  refine zl (l:=[]) (z6b rfl hb1 (by omega) (by omega)) ?_
  rintro e w2 ⟨rfl,hB2,hx2⟩
  refine⟨(),rfl,?_⟩
  have hlo:H.size < w1.heap.size:=lt_of_get hb1
  have hs2:=hx2.1
  have hx02:Ext [] H w2.heap:=hx1.own hx2 (by intro b hb hlt;simp at hb;omega)
  have h0q:0 < q.length:=by omega
  refine zps (i:=0) rfl (hL.ext hx02 (by simp)) hn h0q rfl ?_
  have hq0:q[0]=x:=by simp only [<-hq,List.getElem_cons_zero]
  have hqd:q.drop 1=y :: p:=by rw [<-hq];rfl
  have htx:x.length<=tlen q:=by rw [<-hq];simp [tlen]
  rw [hq0]
  refine zl (zh9 rfl hB2 hs2 (by simp;omega)) ?_
  rintro e w3 ⟨rfl,hB3,F3,hx3,hF3⟩
  refine⟨((x.length:Int),.nilIface),rfl,?_⟩
  have hx03:Ext [] H w3.heap:=hx02.own hx3 (by intro b hb hlt;rcases hF3 b hb with h | h <;> omega)
  have hs3:=hx3.1
  have hdr:=(hL.ext hx03 (by simp)).drop 1 nc (by simp;omega)
  rw [zoy] at hdr
  refine qw (s:=.slc) (if nc=1 then a else a.map (·.add (1 * 1)),n-1,nc-1) (zbi (l:=1) (h:=n) zi4 zql (.yes rfl) .no (by omega) (by omega)) ?_
  rw [List.nil_append] at hB3
  have hdl:(q.drop 1).length=n-1:=by simp;omega
  refine zds (fun (s:Int) W=>∃ i:Nat,s=(i:Int)/\i<=n-1/\Ext [] H W.heap/\w1.heap.size<=W.heap.size/\Bd W.heap w1.heap.size H.size (x++((q.drop 1).take i).flatMap fun L=>47 :: L)) (fun s _=>((n-1:Nat)-s).toNat) ⟨0,rfl,Nat.zero_le _,hx03,by omega,by simpa using hB3⟩ ?_
  rintro _ W ⟨i,rfl,hi,hxW,hsW,hBW⟩
  have hjl2:(joinP q).length=x.length+((q.drop 1).flatMap fun L=>(47:UInt8) :: L).length:=by rw [<-hq];simp [joinP]
  refine qm (fun hlt=>?_) (fun hge=>?_)
  ·have hil:i < (q.drop 1).length:=by simp only at hlt;omega
   have htk:((q.drop 1).take (i+1)).flatMap (fun L=>(47:UInt8) :: L)=((q.drop 1).take i).flatMap (fun L=>47 :: L)++(47 :: (q.drop 1)[i]):=by
    rw [List.take_add_one,List.getElem?_eq_getElem hil,List.flatMap_append];simp
   have htl:(((q.drop 1).take (i+1)).flatMap fun L=>(47:UInt8) :: L).length<=((q.drop 1).flatMap fun L=>(47:UInt8) :: L).length:=by
    conv=>rhs;rw [<-List.take_append_drop (i+1) (q.drop 1),List.flatMap_append,List.length_append]
    omega
   rw [htk] at htl
   simp only [List.length_append,List.length_cons] at htl
   have hdrW:Cells W.heap (if nc=1 then a else a.map (·.add (1 * 1))) (strRow (q.drop 1)):=by
    have:=(hL.ext hxW (by simp)).drop 1 nc (by simp;omega)
    rwa [zoy] at this
   refine zps rfl hdrW hdl.symm hil rfl ?_
   rw [hsep]
   refine zl (zh9 rfl hBW hsW (by simp only [List.length_append,List.length_cons,List.length_nil];omega)) ?_
   rintro e w4 ⟨rfl,hB4,F4,hx4,hF4⟩
   refine⟨(1,.nilIface),rfl,?_⟩
   have hx04:Ext [] H w4.heap:=hxW.own hx4 (by intro b hb hlt;rcases hF4 b hb with h | h <;> omega)
   refine zl (zh9 rfl hB4 (Nat.le_trans hsW hx4.1) (by simp only [List.length_append,List.length_cons,List.length_nil];omega)) ?_
   rintro e w5 ⟨rfl,hB5,F5,hx5,hF5⟩
   refine⟨(((q.drop 1)[i].length:Int),.nilIface),rfl,?_⟩
   refine zas ((i+1:Nat):Int) (by omega) (by omega) (by omega) ?_
   refine⟨⟨i+1,rfl,by omega,hx04.own hx5 (by intro b hb hlt;rcases hF5 b hb with h | h <;> omega),Nat.le_trans hsW (Nat.le_trans hx4.1 hx5.1),?_⟩,by omega⟩
   rw [htk]
   simpa using hB5
  ·have hie:i=(q.drop 1).length:=by simp only at hge;omega
   subst hie
   rw [List.take_length] at hBW
   have hjj:x++(q.drop 1).flatMap (fun L=>(47:UInt8) :: L)=joinP q:=by rw [<-hq];rfl
   rw [hjj] at hBW
   refine zl (string_c rfl hBW (by intro h;rw [h] at hjl;simp at hjl;omega) (by omega)) ?_
   rintro e w6 ⟨rfl,F6,hx6,hF6⟩
   refine⟨strOf (joinP q),rfl,?_⟩
   exact⟨rfl,hxW.own hx6 (by intro b hb hlt;have:=hF6 b hb;omega)⟩
theorem zg8 {w:World}{H:Heap}{a:Option Addr}{n nc:Nat}{p:Path}(hw:w.heap=H) (hL:Cells H a (strRow p)) (hn:n=p.length) (hnc:n<=nc) (hlen:tlen p+p.length<=1099511627776) :
  zx P jr #[.slice a n nc] w fun e w'=>e=.returned (.string (strOf (jd p)))/\Ext [] H w'.heap:=by
 refine zr0 ?_
 unfold zny
 refine zl (z5h hw hL hn hnc hlen) ?_
 rintro e w1 ⟨rfl,hx⟩
 refine⟨strOf (joinP p),rfl,?_⟩
 have hjl:(joinP p).length<=tlen p+p.length:=by
  cases p with
  | nil=>simp [joinP]
  | cons x p=>rw [zpr];simp
 exact z5b (A:=[47]) (by simp;omega) ⟨rfl,hx⟩
end Go.Proofs.YthaaekcaaecdeaaGreatDoor
namespace Go.Fw
open Go
def z9g (P:Program){α:Type}(gv:Value) (S:List α->Prop) (nx:List α->α->Prop) (enc:α->Array Value) (fp A:List Nat) (w:World):Prop:=
 ∃ gf lb,gv=.func (.func gf) #[] lb/\∀ (l:Nat) (I:List α->World->Prop) (J:World->Prop) (w1:World) (M:List Nat),
  Ext [] w.heap w1.heap->(∀ b∈M,b < w1.heap.size/\b∉fp)->(∀ pre W W',I pre W->Beside w1.heap.size W W'->I pre W')->(∀ pre W W',I pre W->Ext A W.heap W'.heap->I pre W')->I [] w1 ->
  (∀ pre x W,nx pre x->I pre W->zn4 P l (enc x) W fun e W'=>Keep M w1.heap.size W.heap W'.heap/\((e=.returned (.bool true)/\I (pre++[x]) W')\/(e=.returned (.bool false)/\J W'))) ->
  zx P gf (#[.func (.yield l) #[] #[]]++lb) w1 fun e W=>(∃ v,e=.returned v)/\((∃ xs,S xs/\I xs W)\/J W)
theorem zyg {P:Program}{α:Type}{gv:Value}{S:List α->Prop}{nx:List α->α->Prop}{shs:List Sh}{tv:α->Tup shs}{fp:List Nat}{w:World}
  {body:Tup shs->World->(World->(World->Prop)->Prop)->(World->Prop)->(World->Prop)->(Nat->World->Prop)->Prop}{done ret:Nat->World->Prop}{ext:Nat->Nat->World->Prop}
  {A:List Nat}(hseq:z9g P gv S nx (fun x=>(Tup.vals shs (tv x)).toArray) fp A w) (hA:∀ b∈A,b∈fp) (M:List Nat) (hM:∀ b∈M,b < w.heap.size/\b∉fp) (hfp:∀ b∈fp,b < w.heap.size)
  (I:List α->World->Prop) (Jr:World->Prop) (Jx:Nat->World->Prop)
  (hI:∀ pre W W',I pre W->Beside w.heap.size W W'->I pre W') (hJr:∀ W W',Jr W->Beside w.heap.size W W'->Jr W') (hJx:∀ i W W',Jx i W->Beside w.heap.size W W'->Jx i W')
  (hIA:∀ pre W W',I pre W->Ext A W.heap W'.heap->I pre W') (h0:I [] w)
  (hbody:∀ pre x W,nx pre x->I pre W->w.heap.size+2<=W.heap.size->∀ (beg:World->(World->Prop)->Prop) (kc kr:World->Prop) (kx:Nat->World->Prop),
   (∀ W1 (K:World->Prop),Ext [] W.heap W1.heap->(∀ W2,Beside w.heap.size W1 W2->W2.heap.size=W1.heap.size ->
    (∀ W3,Keep M w.heap.size W2.heap W3.heap->I (pre++[x]) W3->kc W3)->(∀ W3,Keep M w.heap.size W2.heap W3.heap->Jr W3->kr W3)->(∀ i W3,Keep M w.heap.size W2.heap W3.heap->Jx i W3->kx i W3)->K W2)->beg W1 K) ->
   body (tv x) W beg kc kr kx)
  (hdone:∀ xs W,S xs->I xs W->W.heap[w.heap.size]?=some (.deferred (some []))->done w.heap.size W)
  (hret:∀ W,Jr W->W.heap[w.heap.size]?=some (.deferred (some []))->ret w.heap.size W)
  (hext:∀ i W,Jx i W->W.heap[w.heap.size]?=some (.deferred (some []))->ext i w.heap.size W) :
  zyq P shs gv w body done ret ext:=by
 obtain⟨gf,lb,hg,hseq⟩:=hseq
 refine⟨gf,lb,hg,fun oD oL oB oX oE hD hno w1 hw1 hY=>?_⟩
 obtain⟨hnL,hnB,hnX,hnE⟩:=hno
 have hx1:Ext [] w.heap w1.heap:=by rw [hw1];exact (Ext.push _).trans (Ext.push _)
 have hs1:w1.heap.size=w.heap.size+2:=by rw [hw1];simp
 have hD1:w1.heap[w.heap.size]?=some oD:=by rw [hw1];exact zac zn
 have hL1:w1.heap[w.heap.size+1]?=some oL:=by
  rw [hw1]
  have:=zn (H:=w.heap.push oD) (o:=oL)
  simpa using this
 have hDc:zii oD:=by rw [hD];intro c T fr h;cases h
 have key:∀ {W W':World}{r:Nat}{o:Obj},(∀ o,W.heap[r]?=some o->zii o)->w1.heap.size<=r->Ext [r] W.heap W'.heap->∀ b,b < w.heap.size+2->W.heap[b]?=some o->W'.heap[b]?=some o:=
  fun _ hr hx b hb hbo=>hx.get hbo (by simp;omega)
 refine (hseq (w.heap.size+1)
  (fun pre W=>I pre W/\W.heap[w.heap.size]?=some oD/\W.heap[w.heap.size+1]?=some oL)
  (fun W=>W.heap[w.heap.size]?=some oD/\((Jr W/\W.heap[w.heap.size+1]?=some (oX .ret))\/∃ i,Jx i W/\W.heap[w.heap.size+1]?=some (oX (.exit i))))
  w1 ((w.heap.size+1) :: M) hx1 ?_ ?_ ?_ ⟨hI _ _ _ h0 (.new (Nat.le_refl _) hx1),hD1,hL1⟩ ?_).mono ?_
 ·intro b hb
  rcases List.mem_cons.1 hb with rfl | hb
  ·exact⟨by omega,fun h=>by have:=hfp _ h;omega⟩
  ·exact⟨by have:=(hM b hb).1;omega,(hM b hb).2⟩
 ·rintro pre W W' ⟨h1,h2,h3⟩ hA
  have hA':=hA
  obtain⟨r,hr,hn,hx⟩:=hA'
  exact⟨hI _ _ _ h1 (hA.mono (by omega)),key hn hr hx _ (by omega) h2,key hn hr hx _ (by omega) h3⟩
 ·rintro pre W W' ⟨h1,h2,h3⟩ hx
  exact⟨hIA _ _ _ h1 hx,hx.get h2 (fun h=>by have:=hfp _ (hA _ h);omega),hx.get h3 (fun h=>by have:=hfp _ (hA _ h);omega)⟩
 ·rintro pre x W hnx ⟨h1,h2,h3⟩
  have hlt:w.heap.size+1 < W.heap.size:=(Array.getElem?_eq_some_iff.1 h3).1
  refine hY (tv x) W _ h3 (hbody pre x W hnx h1 (by omega) _ _ _ _ ?_)
  intro W1 K hxW1 hK
  have h31:W1.heap[w.heap.size+1]?=some oL:=hxW1.get h3 (by simp)
  have h21:W1.heap[w.heap.size]?=some oD:=hxW1.get h2 (by simp)
  refine⟨h31,fun W2 hW2=>?_⟩
  have hlt1:w.heap.size+1 < W1.heap.size:=(Array.getElem?_eq_some_iff.1 h31).1
  have hh2:W2.heap=W1.heap.setIfInBounds (w.heap.size+1) oB:=by rw [hW2,zcx]
  have h32:W2.heap[w.heap.size+1]?=some oB:=by rw [hh2];exact Array.getElem?_setIfInBounds_self_of_lt hlt1
  have h22:W2.heap[w.heap.size]?=some oD:=by rw [hh2,Array.getElem?_setIfInBounds_ne (by omega)];exact h21
  have fin:∀ (o':Obj) (W3:World),Keep M w.heap.size W2.heap W3.heap->W3.heap[w.heap.size+1]?=some oB/\Keep ((w.heap.size+1) :: M) w1.heap.size W.heap (W3.putObj (w.heap.size+1) o').heap/\(W3.putObj (w.heap.size+1) o').heap[w.heap.size]?=some oD /\
    (W3.putObj (w.heap.size+1) o').heap[w.heap.size+1]?=some o'/\Beside w.heap.size W3 (W3.putObj (w.heap.size+1) o'):=by
   intro o' W3 hx3
   have h33:W3.heap[w.heap.size+1]?=some oB:=hx3.2.2 _ _ (by omega) h32 hnB
   have h23:W3.heap[w.heap.size]?=some oD:=hx3.2.2 _ _ (Nat.le_refl _) h22 hDc
   have hlt3:w.heap.size+1 < W3.heap.size:=(Array.getElem?_eq_some_iff.1 h33).1
   have hn2:∀ b,b≠w.heap.size+1->W2.heap[b]?=W1.heap[b]?:=fun b hb=>by rw [hh2];exact Array.getElem?_setIfInBounds_ne (Ne.symm hb)
   have hn4:∀ b,b≠w.heap.size+1->(W3.putObj (w.heap.size+1) o').heap[b]?=W3.heap[b]?:=fun b hb=>by rw [zcx];exact Array.getElem?_setIfInBounds_ne (Ne.symm hb)
   have hs2:W2.heap.size=W1.heap.size:=by rw [hh2];simp
   refine⟨h33,⟨?_,?_,?_⟩,?_,?_,.put (by omega) h33 hnB⟩
   ·rw [zcx]
    have:=hxW1.1;have:=hx3.1
    simp;omega
   ·intro b hb hl hn
    simp only [List.mem_cons,not_or] at hn
    rw [hn4 b hn.1]
    by_cases hbD:b=w.heap.size
    ·rw [hbD,h23,h2]
    ·rw [hx3.2.1 b (by omega) (by have:=hxW1.1;omega) hn.2,hn2 b hn.1]
     exact hxW1.2 b hl (by simp)
   ·intro b o hb ho hno
    rw [hn4 b (by omega)]
    exact hx3.2.2 b o (by omega) (by rw [hn2 b (by omega)];exact hxW1.get ho (by simp)) hno
   ·rw [hn4 _ (by omega)];exact h23
   ·rw [zcx];exact Array.getElem?_setIfInBounds_self_of_lt hlt3
  refine hK W2 (by rw [hW2];exact .put (by omega) h31 hnL) (by rw [hh2];simp) (fun W3 hx3 h=>?_) (fun W3 hx3 h=>?_) (fun i W3 hx3 h=>?_)
  ·obtain⟨a,b,c,d,e⟩:=fin oL W3 hx3
   exact⟨a,b,.inl ⟨rfl,hI _ _ _ h e,c,d⟩⟩
  ·obtain⟨a,b,c,d,e⟩:=fin (oX .ret) W3 hx3
   exact⟨a,b,.inr ⟨rfl,c,.inl ⟨hJr _ _ h e,d⟩⟩⟩
  ·obtain⟨a,b,c,d,e⟩:=fin (oX (.exit i)) W3 hx3
   exact⟨a,b,.inr ⟨rfl,c,.inr ⟨i,hJx _ _ _ h e,d⟩⟩⟩
 ·have put:∀ {W:World}{o o':Obj},W.heap[w.heap.size]?=some oD->(W.putObj (w.heap.size+1) o').heap[w.heap.size]?=some (.deferred (some [])):=by
   intro W o o' h
   rw [zcx,Array.getElem?_setIfInBounds_ne (by omega),h,hD]
  rintro e W ⟨hv,⟨xs,hS,h1,h2,h3⟩ | ⟨h2,⟨h1,h3⟩ | ⟨i,h1,h3⟩⟩⟩
  ·exact⟨hv,.inl ⟨h3,hdone xs _ hS (hI _ _ _ h1 (.put (by omega) h3 hnL)) (put (o:=oD) h2)⟩⟩
  ·exact⟨hv,.inr (.inl ⟨h3,hret _ (hJr _ _ h1 (.put (by omega) h3 (hnX _))) (put (o:=oD) h2)⟩)⟩
  ·exact⟨hv,.inr (.inr ⟨i,h3,hext i _ (hJx _ _ _ h1 (.put (by omega) h3 (hnX _))) (put (o:=oD) h2)⟩)⟩
end Go.Fw
namespace Go.Proofs.YthaaekcaaecdeaaGreatDoor
open Go Go.Fw Go.Proofs
def pieces:List UInt8->List (List UInt8)
 | []=>[]
 | c :: L=>if c=47 then [] :: pieces L else match pieces L with | []=>[[c]] | p :: ps=>if L.head?=some 47 then [c] :: ps else (c :: p) :: ps
theorem zkm:∀ {p r:List UInt8},(47:UInt8)∉p->pieces (p++47 :: r)=p :: pieces r
 | [],r,_=>by simp [pieces]
 | c :: p,r,h=>by
  have hc:c≠47:=fun e=>h (by simp [e])
  have ih:=zkm (p:=p) (r:=r) (fun hm=>h (by simp [hm]))
  rw [List.cons_append,pieces,if_neg hc,ih]
  cases p with
  | nil=>simp
  | cons d p=>
   have hd:d≠47:=fun e=>h (by simp [e])
   simp [hd]
theorem zlq:∀ {p:List UInt8},(47:UInt8)∉p->p≠[]->pieces p=[p]
 | [],_,h=>absurd rfl h
 | [c],h,_=>by
  have hc:c≠47:=fun e=>h (by simp [e])
  simp [pieces,hc]
 | c :: d :: p,h,_=>by
  have hc:c≠47:=fun e=>h (by simp [e])
  have hd:d≠47:=fun e=>h (by simp [e])
  have ih:=zlq (p:=d :: p) (fun hm=>h (by simp [hm])) (by simp)
  rw [pieces,if_neg hc,ih]
  simp [hd]
theorem z3i (L:List UInt8):(47:UInt8)∉L\/∃ p r,L=p++47 :: r/\(47:UInt8)∉p:=by
 induction L with
 | nil=>left;simp
 | cons c L ih=>
  by_cases hc:c=47
  ·right;exact⟨[],L,by simp [hc],by simp⟩
  ·rcases ih with h | ⟨p,r,h1,h2⟩
   ·left;simp [h,Ne.symm hc]
   ·right;exact⟨c :: p,r,by simp [h1],by simp [h2,Ne.symm hc]⟩
theorem zyp:∀ {L:List UInt8},(47:UInt8)∉L->Lib.indexByte L 47=-1
 | [],_=>rfl
 | c :: L,h=>by
  have hc:¬c=47:=fun e=>h (by simp [e])
  have ih:=zyp (L:=L) (fun hm=>h (by simp [hm]))
  simp [Lib.indexByte,hc,ih]
theorem zyf:∀ {p r:List UInt8},(47:UInt8)∉p->Lib.indexByte (p++47 :: r) 47=(p.length:Int)
 | [],r,_=>by simp [Lib.indexByte]
 | c :: p,r,h=>by
  have hc:¬c=47:=fun e=>h (by simp [e])
  have ih:=zyf (p:=p) (r:=r) (fun hm=>h (by simp [hm]))
  simp only [List.cons_append,Lib.indexByte,ih]
  have h1:(c==(47:UInt8))=false:=by simp [hc]
  have h2:((p.length:Int)==-1)=false:=by simp
  rw [h1,h2]
  simp
theorem cut_c {w:World}(L:List UInt8) (hlen:L.length<=1099511627776):zx P zin #[.string (strOf L),.string (ByteArray.mk #[47])] w fun e w'=>
  ∃ p r b,e=.returned (.tuple #[.string (strOf p),.string (strOf r),.bool b])/\w'.heap=w.heap/\(((47:UInt8)∉L/\p=L/\r=[])\/(L=p++47 :: r/\(47:UInt8)∉p)):=by
 have hsep:(ByteArray.mk #[47]:ByteArray)=strOf [47]:=rfl
 refine zqp ?_
 unfold zmu
 have hix:zx P zbk #[.string (strOf L),.string (ByteArray.mk #[47])] w fun e w'=>e=.returned (.int .i64 (Lib.indexByte L 47))/\w'=w:=by
  refine zf9 ?_
  unfold zdf
  refine x9 ?_
  refine x9 ?_
  refine qg rfl ?_
  refine za8 (p:=L=[47]) (by rw [zt2,zdl,beq_iff_eq];exact eq_comm) (fun h=>⟨by rw [h];rfl,rfl⟩) (fun _=>?_)
  refine jc rfl ?_
  rw [hsep]
  refine zr7 (L:=[47]) 0 rfl (by simp) ?_
  have h2:zx P zah #[.string (strOf L),.int .u8 47] w fun e w'=>e=.returned (.int .i64 (Lib.indexByte L 47))/\w'=w:=by
   refine zey ?_
   unfold zb5
   refine zp3 (l:=[.int .i64]) (Lib.indexByte L 47) ?_ ⟨rfl,rfl⟩
   rw [zep (e:=Extern.BytealgIndexByte.indexByte) (by kernel_rfl),Lib.run_indexByteString]
   rfl
  refine zl h2 ?_
  rintro e w' ⟨rfl,rfl⟩
  exact⟨_,rfl,rfl,rfl⟩
 have hcut:zx P zbx #[.string (strOf L),.string (ByteArray.mk #[47])] w fun e w'=>
  ∃ p r b,e=.returned (.tuple #[.string (strOf p),.string (strOf r),.bool b])/\w'.heap=w.heap/\(((47:UInt8)∉L/\p=L/\r=[])\/(L=p++47 :: r/\(47:UInt8)∉p)):=by
  refine zgq ?_
  unfold zd1
  refine zl hix ?_
  rintro e w' ⟨rfl,rfl⟩
  refine⟨_,rfl,?_⟩
  rcases z3i L with h | ⟨p,r,rfl,h⟩
  ·rw [zyp h]
   refine qg rfl ?_
   exact⟨L,[],false,rfl,rfl,.inl ⟨h,rfl,rfl⟩⟩
  ·rw [zyf h]
   refine jc (by simp) ?_
   refine zaj rfl fun w2 hw2=>?_
   simp only [List.length_append,List.length_cons] at hlen
   refine zas ((p.length+1:Nat):Int) (by rw [hsep,zad];simp) (by omega) (by omega) ?_
   refine qw (s:=.str) _ (zuw (l:=0) (h:=p.length) zv4 .no (.yes rfl) (Nat.zero_le _) (by simp)) ?_
   refine qw (s:=.str) _ (zuw (l:=p.length+1) (h:=(p++47 :: r).length) zv4 (.yes rfl) .no (by simp) (Nat.le_refl _)) ?_
   refine⟨p,r,true,?_,hw2,.inr ⟨rfl,h⟩⟩
   rw [List.take_left,List.drop_zero,List.take_length,show p++47 :: r=(p++[47])++r by simp,List.drop_left' (by simp)]
 refine zl hcut ?_
 rintro e w' ⟨p,r,b,rfl,h1,h2⟩
 refine⟨(strOf p,strOf r,b),rfl,?_⟩
 exact⟨p,r,b,rfl,h1,h2⟩
theorem zw9 {w:World}{H:Heap}{b:Nat}{L:List UInt8}(hw:w.heap=H) (hb:H[b]?=some (.cells #[.string (strOf L)] qy (0,0))) (hlen:L.length<=1099511627776) :
  z9g P (.func (.func zeb) #[] #[.pointer (some ⟨b,0,none⟩)]) (fun ys=>ys=pieces L) (fun pre y=>∃ rest,pieces L=pre++y :: rest) (fun x=>#[.string (strOf x)]) [b] [b] w:=by
 refine⟨_,_,rfl,fun l I J w1 M hx1 hMM hst hIA h0 hY=>?_⟩
 have hb1:=(hw▸hx1).get hb (by simp)
 have hblt:=lt_of_get hb1
 refine zni ?_
 unfold ziy
 simp only [qo]
 have hlt:∀ (R:List UInt8),R.length=R.length:=fun _=>rfl
 refine za3 (fun n _ W=>∃ pre R,I pre W/\W.heap[b]?=some (.cells #[.string (strOf R)] qy (0,0))/\pieces L=pre++pieces R/\R.length<=1099511627776/\w1.heap.size<=W.heap.size/\n=R.length) L.length ⟨[],L,h0,hb1,by simp,hlen,Nat.le_refl _,rfl⟩ ?_
 rintro n _ W ⟨pre,R,hI,hbW,hpc,hRl,hsz,rfl⟩ K hK
 refine jh (s:=.str) (t:=strOf R) rfl hbW rfl ?_
 refine za8 (p:=R≠[]) (by rw [Bool.not_eq_true',<-Bool.not_eq_true,zj1]) (fun hne=>?_) (fun he=>?_)
 ·refine jh (s:=.str) (t:=strOf R) rfl hbW rfl ?_
  refine zl (cut_c R hRl) ?_
  rintro e W2 ⟨p,r,bb,rfl,hh2,hcase⟩
  refine⟨(strOf p,strOf r,bb),rfl,?_⟩
  have hpr:pieces R=p :: pieces r/\r.length < R.length:=by
   rcases hcase with⟨h1,rfl,rfl⟩ | ⟨rfl,h2⟩
   ·refine⟨by rw [zlq h1 hne];rfl,?_⟩
    cases p with
    | nil=>exact absurd rfl hne
    | cons a p=>simp
   ·exact⟨zkm h2,by simp;omega⟩
  have hx2:Ext [] W.heap W2.heap:=by rw [hh2];exact .refl _ _
  have hI2:=hst _ _ _ hI (.new hsz hx2)
  have hb2:W2.heap[b]?=some (.cells #[.string (strOf R)] qy (0,0)):=by rw [hh2];exact hbW
  refine zuv ((hY pre p W2 ⟨pieces r,by rw [hpc,hpr.1]⟩ hI2).mono ?_)
  rintro e W3 ⟨hK3,⟨rfl,hI3⟩ | ⟨rfl,hJ3⟩⟩
  ·refine⟨true,rfl,?_⟩
   refine qg rfl ?_
   have hb3:=hK3.get hb2 hblt (fun h=>(hMM _ h).2 (by simp))
   refine zdj rfl hb3 (by simp) fun W4 hW4=>?_
   have hx4:Ext [b] W3.heap W4.heap:=by rw [hW4];exact Ext.set _ (by simp)
   refine hK _ _ _ hpr.2 ⟨pre++[p],r,hIA _ _ _ hI3 hx4,by rw [hW4];exact xk hb3,by rw [hpc,hpr.1];simp,by omega,?_,rfl⟩
   have:=hx4.1;have:=hK3.1;rw [hh2] at this;omega
  ·refine⟨false,rfl,?_⟩
   exact jc rfl ⟨⟨_,rfl⟩,.inr hJ3⟩
 ·have he:R=[]:=Classical.not_not.1 he
  subst he
  refine⟨⟨_,rfl⟩,.inl ⟨pieces L,rfl,?_⟩⟩
  rw [hpc]
  simpa [pieces] using hI
def zbt (acc:Path) (x:List UInt8):Path:=if x=[]\/x=[46] then acc else if x=[46,46] then acc.dropLast else acc++[x]
def zi3 (ps:Path):Path:=ps.foldl zbt []
def zqz (L:List UInt8):Bool:=L.all fun b=>decide (b=47) || ze0 b
def jm (L:List UInt8):Path×Int:=
 if 256 < L.length then ([],2) else if L.head?≠some 47 then ([],40) else if zqz L=false then ([],40)
 else if (pieces L).any (fun x=>decide (16 < x.length)) then ([],41) else if 8 < (zi3 (pieces L)).length then ([],42) else (zi3 (pieces L),0)
theorem zmc {ps:Path}{x:List UInt8}:zi3 (ps++[x])=zbt (zi3 ps) x:=by simp [zi3]
theorem zvv:∀ {ps acc:Path},(ps.foldl zbt acc).length<=acc.length+ps.length
 | [],acc=>by simp
 | x :: ps,acc=>by
  have:=zvv (ps:=ps) (acc:=zbt acc x)
  have h:(zbt acc x).length<=acc.length+1:=by
   unfold zbt;split
   ·omega
   ·split <;> simp;omega
  simp only [List.foldl_cons,List.length_cons];omega
theorem pieces_len:∀ {L:List UInt8},(pieces L).length<=L.length
 | []=>by simp [pieces]
 | c :: L=>by
  have:=pieces_len (L:=L)
  rw [pieces]
  split
  ·simp;omega
  ·split
   ·simp
   ·rename_i p ps h
    rw [h] at this
    split <;> (simp only [List.length_cons] at this |-;omega)
theorem z4u:Elem P qy 1 16:=znw (z:=.string .empty) (by kernel_rfl) rfl
theorem z8v:zc P zu=#[.slice none 0 0]:=by kernel_rfl
theorem zcE:zc P vk=#[.int .i64 0]:=by kernel_rfl
theorem Mine.cut {H:Heap}{B:Nat}{T:TypeId}{x:Option Addr×Nat×Nat}{vs:List Value}(h:Mine H B T 1 x vs){k:Nat}(hk:k<=x.2.1) :
  Mine H B T 1 (if x.2.2=0 then x.1 else x.1.map (·.add (0 * 1)),k-0,x.2.2-0) (vs.take k):=by
 rcases h with⟨rfl,rfl⟩ | ⟨b,c,hx,hB,hb,hc,hl,hle,he⟩
 ·simp only at hk
  obtain rfl:k=0:=by omega
  exact .inl ⟨by simp,by simp⟩
 ·have hkl:(vs.take k).length=k:=by simp;omega
  refine .inr ⟨b,c,?_,hB,hb,by simpa using hc,by rw [hkl];simp,by simp only;omega,?_⟩
  ·simp only [hx]
   split
   ·rfl
   ·simp [zan]
  ·rw [hkl]
   conv=>rhs;rw [<-he]
   simp only [Array.toList_extract,List.extract_eq_take_drop,List.drop_zero,Nat.sub_zero,List.take_take]
   congr 1;omega
theorem z0w {x:Option Addr×Nat×Nat}{k c:Nat}:zbu (if x.2.2=0 then x.1 else x.1.map (·.add (0 * 1)),k,c)=zbu x:=by
 by_cases h:x.2.2=0
 ·rw [if_pos h];rfl
 ·rw [if_neg h]
  cases hx:x.1 with
  | none=>simp [zbu,hx]
  | some a=>simp [zbu,hx,Addr.add]
theorem zra {w:World}{H:Heap}{b2 b3:Nat}{v2 v3:Value}{code:Int}{x:Option Addr×Nat×Nat}(hw:w.heap=H) (h2:H[b2]?=some (.cells #[v2] zu (0,0))) (h3:H[b3]?=some (.cells #[v3] vk (0,0))) (hne:b2≠b3){K:World->Prop}
  (hK:∀ w',Ext [b2,b3] H w'.heap->w'.heap[b2]?=some (.cells #[zhq x] zu (0,0))->w'.heap[b3]?=some (.cells #[.int .i64 code] vk (0,0))->w'.heap.size=H.size->K w') :
  stC ⟨b2,0,none⟩ (.slice x.1 x.2.1 x.2.2) w fun w3=>stC ⟨b3,0,none⟩ (.int .i64 code) w3 fun w4=>K w4:=by
 refine zdj hw h2 (by simp) fun w3 hw3=>?_
 have h33:w3.heap[b3]?=some (.cells #[v3] vk (0,0)):=by rw [hw3];exact zeh h3 (Ne.symm hne)
 have h32:w3.heap[b2]?=some (.cells #[zhq x] zu (0,0)):=by rw [hw3];exact xk h2
 refine zdj rfl h33 (by simp) fun w4 hw4=>?_
 refine hK w4 ?_ (by rw [hw4];exact zeh h32 hne) (by rw [hw4];exact xk h33) (by rw [hw4,hw3];simp)
 rw [hw4,hw3]
 exact ((Ext.refl _ _).set_own (.inr (by simp))).set_own (.inr (by simp))
theorem z0c {ps:Path}{x:List UInt8}:(ps++[x]).any (fun x=>decide (16 < x.length))=(ps.any (fun x=>decide (16 < x.length)) || decide (16 < x.length)):=by simp
set_option maxHeartbeats 8000000 in
theorem zj0 {w:World}{H:Heap}(L:List UInt8) (hw:w.heap=H) :
  zx P zau #[.string (strOf L)] w fun e w'=>∃ x,e=.returned (.tuple #[zhq x,.int .i64 (jm L).2])/\Mine w'.heap H.size qy 1 x (strRow (jm L).1)/\Ext [] H w'.heap:=by
 refine zqb ?_
 unfold zmg
 rw [z8v,zcE]
 refine jg hw fun w1 hw1=>?_
 refine jg hw1 fun w2 hw2=>?_
 have hsz:(H.push (.cells #[.slice none 0 0] zu)).size=H.size+1:=by simp
 have h2:w2.heap[H.size]?=some (.cells #[.slice none 0 0] zu (0,0)):=by rw [hw2];exact zac zn
 have h3:w2.heap[H.size+1]?=some (.cells #[.int .i64 0] vk (0,0)):=by rw [hw2,<-hsz];exact zn
 have hx2:Ext [] H w2.heap:=by rw [hw2];exact (Ext.push _).trans (Ext.push _)
 have hs2:w2.heap.size=H.size+2:=by rw [hw2];simp
 rw [hsz]
 clear hw1 hw2
 have fin:∀ {w w':World}{x:Option Addr×Nat×Nat}{code:Int},Ext [] H w.heap->Ext [H.size,H.size+1] w.heap w'.heap->x=(none,0,0)->jm L=([],code) ->
   ∃ y,Ending.returned (.tuple #[zhq x,.int .i64 code])=.returned (.tuple #[zhq y,.int .i64 (jm L).2])/\Mine w'.heap H.size qy 1 y (strRow (jm L).1)/\Ext [] H w'.heap:=by
  intro w w' x code h1 h2 hx hp
  subst hx
  rw [hp]
  exact⟨(none,0,0),rfl,.inl ⟨rfl,rfl⟩,h1.own h2 (by intro b hb hlt;simp at hb;omega)⟩
 refine qm (fun hbig=>?_) (fun hsm=>?_)
 ·refine zra (x:=(none,0,0)) rfl h2 h3 (by omega) fun w4 hx4 h24 h34 _=>?_
  refine jh (s:=.slc) (t:=(none,0,0)) rfl h24 rfl ?_
  refine jh (s:=.int .i64) (t:=2) rfl h34 rfl ?_
  exact fin hx2 hx4 rfl (by unfold jm;rw [if_pos (by simp only [zad] at hbig;omega)])
 have hL256:L.length<=256:=by simp only [zad] at hsm;omega
 have hhp:zx P zec #[.string (strOf L),.string (ByteArray.mk #[47])] w2 fun e w'=>e=.returned (.bool (decide (L.head?=some 47)))/\w'=w2:=by
  refine zkt ?_
  unfold zgz
  have h1:zx P zaz #[.string (strOf L),.string (ByteArray.mk #[47])] w2 fun e w'=>e=.returned (.bool (decide (L.head?=some 47)))/\w'=w2:=by
   refine ze5 ?_
   unfold zb6
   cases L with
   | nil=>exact qg rfl ⟨rfl,rfl⟩
   | cons c L=>
    refine jc (decide_eq_true (by show ((strOf (c :: L)).size:Int)>=1;rw [zad];simp only [List.length_cons];omega)) ?_
    refine qw (s:=.str) _ (zuw (l:=0) (h:=1) zv4 .no (.yes rfl) (by omega) (by simp)) ?_
    refine⟨?_,rfl⟩
    congr 2
    rw [Bool.eq_iff_iff,zj1,decide_eq_true_iff]
    simp
  exact zkf (decide (L.head?=some 47)) h1 ⟨rfl,rfl⟩
 refine zkf (decide (L.head?=some 47)) hhp ?_
 by_cases hhd:L.head?=some 47
 rotate_left
 ·refine jc (by simp [hhd]) ?_
  refine zra (x:=(none,0,0)) rfl h2 h3 (by omega) fun w4 hx4 h24 h34 _=>?_
  refine jh (s:=.slc) (t:=(none,0,0)) rfl h24 rfl ?_
  refine jh (s:=.int .i64) (t:=40) rfl h34 rfl ?_
  exact fin hx2 hx4 rfl (by unfold jm;rw [if_neg (by omega),if_pos hhd])
 refine qg (by simp [hhd]) ?_
 refine zds (fun (s:Int) W=>∃ i:Nat,s=(i:Int)/\i<=L.length/\W=w2/\∀ b∈L.take i,(decide (b=47) || ze0 b)=true) (fun s _=>(L.length-s).toNat) ⟨0,rfl,Nat.zero_le _,rfl,by simp⟩ ?_
 rintro _ w2 ⟨i,rfl,hi,rfl,hpl⟩
 refine qm (fun hlt=>?_) (fun hge=>?_)
 ·have hil:i < L.length:=by simp only [zad] at hlt;omega
  have hnext:(decide (L[i]=47) || ze0 L[i])=true->∀ b∈L.take (i+1),(decide (b=47) || ze0 b)=true:=by
   intro h b hm
   rw [List.take_add_one,List.getElem?_eq_getElem hil] at hm
   rcases List.mem_append.1 hm with hm | hm
   ·exact hpl b hm
   ·simp only [Option.toList_some,List.mem_singleton] at hm;subst hm;exact h
  have hgo:∀ {K:Int->Prop},(decide (L[i]=47) || ze0 L[i])=true->(∀ k,k=((i+1:Nat):Int)->K k)->zfl .i64 (i:Int) 1 K:=fun _ hK=>zas ((i+1:Nat):Int) (by omega) (by omega) (by omega) (hK _ rfl)
  refine x9 ?_
  refine x9 ?_
  refine zr7 i rfl hil ?_
  refine zdk (fun h47=>?_) (fun h47=>?_)
  ·refine zr7 i rfl hil ?_
   refine zkf (ze0 L[i]) (zzo _) ?_
   cases hb:ze0 L[i] with
   | false=>
    refine jc rfl ?_
    refine zra (x:=(none,0,0)) rfl h2 h3 (by omega) fun w4 hx4 h24 h34 _=>?_
    refine jh (s:=.slc) (t:=(none,0,0)) rfl h24 rfl ?_
    refine jh (s:=.int .i64) (t:=40) rfl h34 rfl ?_
    refine fin hx2 hx4 rfl ?_
    have:zqz L=false:=by
     unfold zqz
     rw [List.all_eq_false]
     refine⟨L[i],List.getElem_mem hil,?_⟩
     have:¬L[i]=47:=fun e=>h47 (by rw [e];rfl)
     simp [this,hb]
    unfold jm
    rw [if_neg (by omega),if_neg (by simp [hhd]),if_pos this]
   | true=>
    refine qg rfl ?_
    refine hgo (by simp [hb]) ?_
    rintro _ rfl
    exact⟨⟨i+1,rfl,by omega,rfl,hnext (by simp [hb])⟩,by omega⟩
  ·have h47':L[i]=47:=UInt8.toNat_inj.1 (by have h:((L[i]).toNat:Int)=47:=h47;show (L[i]).toNat=47;omega)
   refine hgo (by simp [h47']) ?_
   rintro _ rfl
   exact⟨⟨i+1,rfl,by omega,rfl,hnext (by simp [h47'])⟩,by omega⟩
 have hie:i=L.length:=by simp only [zad] at hge;omega
 subst hie
 rw [List.take_length] at hpl
 have hok:zqz L=true:=List.all_eq_true.2 hpl
 have hP:jm L=if (pieces L).any (fun x=>decide (16 < x.length)) then ([],41) else if 8 < (zi3 (pieces L)).length then ([],42) else (zi3 (pieces L),0):=by
  unfold jm;rw [if_neg (by omega),if_neg (by simp [hhd]),if_neg (by simp [hok])]
 refine jg rfl fun w12 hw12=>?_
 have h12:Ext [] w2.heap w12.heap:=by rw [hw12];exact .push _
 have hb5:w12.heap[H.size+2]?=some (.cells #[.slice none 0 0] zu (0,0)):=by rw [hw12,<-hs2];exact zn
 have hs12:w12.heap.size=H.size+3:=by rw [hw12];simp [hs2]
 rw [hs2]
 have hpieces:zx P zhj #[.string (strOf L)] w12 fun e w'=>e=.returned (.func (.func zeb) #[] #[.pointer (some ⟨H.size+3,0,none⟩)])/\w'.heap=w12.heap.push (.cells #[.string (strOf L)] qy):=by
  refine zph ?_
  unfold zk2
  refine jg rfl fun w13 hw13=>?_
  exact qw (s:=.any) _ rfl ⟨by rw [hs12],hw13⟩
 refine zl hpieces ?_
 rintro e w13 ⟨rfl,hw13⟩
 refine⟨_,rfl,?_⟩
 have h1213:Ext [] w12.heap w13.heap:=by rw [hw13];exact .push _
 have hb1:w13.heap[H.size+3]?=some (.cells #[.string (strOf L)] qy (0,0)):=by rw [hw13,<-hs12];exact zn
 have hs13:w13.heap.size=H.size+4:=by rw [hw13];simp [hs12]
 have h213:=h12.trans h1213
 have hx13:=hx2.trans h213
 have hpl2:=pieces_len (L:=L)
 refine zyg (α:=List UInt8) (shs:=[.str]) (tv:=fun x=>strOf x) (fp:=[H.size+3]) (A:=[H.size+3]) (zw9 rfl hb1 (by omega)) (fun _ h=>h) [H.size,H.size+1,H.size+2] ?_ (fun b hb=>by simp only [List.mem_singleton] at hb;omega)
  (fun pre W=>∃ x,Ext [] H W.heap/\W.heap[H.size]?=some (.cells #[.slice none 0 0] zu (0,0))/\W.heap[H.size+1]?=some (.cells #[.int .i64 0] vk (0,0))/\W.heap[H.size+2]?=some (.cells #[zhq x] zu (0,0))/\Mine W.heap (H.size+4) qy 1 x (strRow (zi3 pre))/\pre.any (fun x=>decide (16 < x.length))=false)
  (fun W=>Ext [] H W.heap/\W.heap[H.size]?=some (.cells #[.slice none 0 0] zu (0,0))/\W.heap[H.size+1]?=some (.cells #[.int .i64 41] vk (0,0))/\(pieces L).any (fun x=>decide (16 < x.length))=true)
  (fun _ _=>False) ?_ ?_ (fun _ _ _ h _=>h.elim) ?_ ?_ ?_ ?_ ?_ (fun _ _ h=>h.elim)
 ·intro b hb
  simp only [List.mem_cons,List.not_mem_nil,or_false] at hb |-
  omega
 ·rintro pre W W' ⟨x,h1,h2,h3,h4,h5,h6⟩ hB
  exact⟨x,hB.ext (by omega) h1,hB.cells h2,hB.cells h3,hB.cells h4,hB.mine h5,h6⟩
 ·rintro W W' ⟨h1,h2,h3,h4⟩ hB
  exact⟨hB.ext (by omega) h1,hB.cells h2,hB.cells h3,h4⟩
 ·rintro pre W W' ⟨x,h1,h2,h3,h4,h5,h6⟩ hx
  have hn:∀ b,b≠H.size+3->b∉[H.size+3]:=fun b h=>by simpa using h
  exact⟨x,h1.own hx (by intro b hb hlt;simp at hb;omega),hx.get h2 (hn _ (by omega)),hx.get h3 (hn _ (by omega)),hx.get h4 (hn _ (by omega)),h5.ext hx (fun b hb=>hn b (by have:=zak h5 b hb;omega)),h6⟩
 ·exact⟨(none,0,0),hx13,h213.get h2 (by simp),h213.get h3 (by simp),h1213.get hb5 (by simp),.inl ⟨rfl,rfl⟩,rfl⟩
 ·rintro pre y W ⟨rest,hrest⟩ ⟨x,k1,k2,k3,k4,k5,k6⟩ hsz beg kc kr kx hbeg
  have hprel:pre.length+1<=256:=by have:=congrArg List.length hrest;simp at this;omega
  have hwl:(zi3 pre).length<=pre.length:=by have:=zvv (ps:=pre) (acc:=[]);simpa [zi3] using this
  refine hbeg W _ (.refl _ _) fun W2 hB2 hs2' hkc hkr _=>?_
  have k12:Ext [] H W2.heap:=hB2.ext (by omega) k1
  have k22:=hB2.cells k2
  have k32:=hB2.cells k3
  have k42:=hB2.cells k4
  have k52:=hB2.mine k5
  have hxl:x.2.1=(zi3 pre).length:=by have:=k52.len;simp at this;omega
  have hW2:H.size+4<=W2.heap.size:=by omega
  have goOn:∀ {W3:World}{x':Option Addr×Nat×Nat},Ext ((H.size+2) :: zbu x) W2.heap W3.heap->W3.heap[H.size+2]?=some (.cells #[zhq x'] zu (0,0))->Mine W3.heap (H.size+4) qy 1 x' (strRow (zi3 (pre++[y])))->¬16 < y.length->kc W3:=by
   intro W3 x' hx h4 h5 hy
   have hown:=zak k52
   have hn:∀ b,b < H.size+2->b∉(H.size+2) :: zbu x:=fun b hb h=>by
    rcases List.mem_cons.1 h with h | h
    ·omega
    ·have:=hown b h;omega
   refine hkc W3 (.of hx (fun b hb=>?_) (by intro b hb;simp at hb;omega)) ⟨x',k12.own hx ?_,hx.get k22 (hn _ (by omega)),hx.get k32 (hn _ (by omega)),h4,h5,by rw [z0c,k6];simp;omega⟩
   ·rcases List.mem_cons.1 hb with rfl | hb
    ·left;simp
    ·right
     refine⟨by have:=hown b hb;omega,?_⟩
     rcases k52 with⟨rfl,_⟩ | ⟨b2,c2,hx2',_,hb2,_⟩
     ·simp [zbu] at hb
     ·simp only [zbu,hx2',List.mem_singleton] at hb;subst hb;exact⟨_,_,_,hb2⟩
   ·intro b hb hlt
    exact absurd hb (hn b (by omega))
  refine x9 ?_
  refine x9 ?_
  refine qm (fun hlong=>?_) (fun hshort=>?_)
  ·have hlong:16 < y.length:=by have h:=hlong;simp only [zad] at h;omega
   refine zra (x:=(none,0,0)) rfl k22 k32 (by omega) fun w4 hx4 h24 h34 hs4=>?_
   refine hkr w4 (.of hx4 (fun b hb=>.inl (by simp at hb |-;omega)) (by intro b hb;simp at hb;omega)) ⟨k12.own hx4 (by intro b hb hlt;simp at hb;omega),h24,h34,?_⟩
   rw [List.any_eq_true]
   exact⟨y,by rw [hrest];simp,by simpa using hlong⟩
  have hshort:¬16 < y.length:=by have h:=hshort;simp only [zad] at h;omega
  have hnone:zi3 (pre++[y])=zi3 pre->kc W2:=fun h=>goOn (.refl _ _) k42 (by rw [h];exact k52) hshort
  refine za8 (p:=y=[]) zj1 (fun h=>hnone (by rw [zmc,zbt,if_pos (.inl h)])) (fun hy0=>?_)
  refine za8 (p:=y=[46]) zj1 (fun h=>hnone (by rw [zmc,zbt,if_pos (.inr h)])) (fun hy1=>?_)
  refine za8 (p:=y=[46,46]) zj1 (fun h=>?_) (fun hy2=>?_)
  ·refine jh (s:=.slc) (t:=x) rfl k42 rfl ?_
   refine jh (s:=.slc) (t:=x) rfl k42 rfl ?_
   refine zh8 ((x.2.1:Int)-1) rfl (by omega) (by omega) ?_
   refine qw (s:=.int .i64) ((x.2.1-1:Nat):Int) ?_ ?_
   ·rw [run_max_int2]
    congr 2
    show (if (0:Int) > (x.2.1:Int)-1 then 0 else (x.2.1:Int)-1)=((x.2.1-1:Nat):Int)
    split <;> omega
   have hxc:x.2.1<=x.2.2:=by
    rcases k52 with⟨rfl,_⟩ | ⟨_,_,_,_,_,_,_,h,_⟩
    ·exact Nat.le_refl _
    ·exact h
   refine qw (s:=.slc) (if x.2.2=0 then x.1 else x.1.map (·.add (0 * 1)),(x.2.1-1)-0,x.2.2-0) (zbi zi4 zql .no (.yes rfl) (Nat.zero_le _) (by omega)) ?_
   refine zdj rfl k42 (by simp) fun W3 hW3=>?_
   have hx3:Ext [H.size+2] W2.heap W3.heap:=by rw [hW3];exact Ext.set _ (by simp)
   refine goOn (x':=(if x.2.2=0 then x.1 else x.1.map (·.add (0 * 1)),(x.2.1-1)-0,x.2.2-0)) (hx3.mono (by simp)) (by rw [hW3];exact xk k42) ?_ hshort
   have hcut:=(Mine.cut k52 (k:=x.2.1-1) (by omega)).ext hx3 (fun b hb=>by rw [z0w] at hb;have:=zak k52 b hb;simp only [List.mem_singleton];omega)
   rw [zcn] at hcut
   have hw2:zi3 (pre++[y])=(zi3 pre).take (x.2.1-1):=by rw [zmc,zbt,if_neg (by simp [hy0,hy1]),if_pos h,List.dropLast_eq_take,<-hxl]
   rw [hw2]
   exact hcut
  ·refine jh (s:=.slc) (t:=x) rfl k42 rfl ?_
   refine zbg (s:=.slc) (some ⟨W2.heap.size,0,none⟩,1,1) _ (zke z4u zi4 (v:=.string (strOf y)) rfl (by omega) (by omega)) ?_
   have hxp:Ext [] W2.heap (W2.heap.push (.cells (Value.string (strOf y)).cells qy)):=.push _
   refine zdr (n:=1) (us:=[.string (strOf y)]) (H:=W2.heap.push (.cells (Value.string (strOf y)).cells qy)) z4u (by omega) zi4 (zbs zi4) rfl (k52.ext hxp (by simp)) (by simp;omega)
    (Src.slc rfl (.inr ⟨W2.heap.size,0,_,_,_,rfl,zn,by simp [Value.cells],by simp [Value.cells]⟩) rfl) (by intro v hv;simp only [List.mem_singleton] at hv;subst hv;rfl) (by omega) ?_
   intro x' W4 hm4 hl4 hx4 _
   have hb4:W4.heap[H.size+2]?=some (.cells #[zhq x] zu (0,0)):=hx4.get (hxp.get k42 (by simp)) (fun h=>by have:=zak k52 _ h;omega)
   refine zdj rfl hb4 (by simp) fun W5 hW5=>?_
   have hx5:Ext [H.size+2] W4.heap W5.heap:=by rw [hW5];exact Ext.set _ (by simp)
   refine goOn (x':=x') (((hxp.mono (by simp)).trans (hx4.mono (fun b hb=>List.mem_cons_of_mem _ hb))).trans (hx5.mono (by simp))) (by rw [hW5];exact xk hb4) ?_ hshort
   rw [zmc,zbt,if_neg (by simp [hy0,hy1]),if_neg hy2,<-zh7]
   exact hm4.ext hx5 (fun b hb=>by have:=zak hm4 b hb;simp only [List.mem_singleton];omega)
 ·rintro xs W rfl ⟨x,k1,k2,k3,k4,k5,k6⟩ hD
  rw [if_neg (by simp [k6])] at hP
  have hxl:x.2.1=(zi3 (pieces L)).length:=by have:=k5.len;simp at this;omega
  refine jh (s:=.slc) (t:=x) rfl k4 rfl ?_
  have hne2:∀ {W':World}{o:Obj}{b:Nat},b≠w13.heap.size->W'.heap[b]?=some o->(W'.heap.setIfInBounds w13.heap.size (.deferred none))[b]?=some o:=fun h ho=>zeh ho h
  refine qm (fun hdeep=>?_) (fun hflat=>?_)
  ·refine zra (x:=(none,0,0)) rfl k2 k3 (by omega) fun w4 hx4 h24 h34 hs4=>?_
   refine⟨hx4.get hD (by simp;omega),fun w5 hw5=>?_⟩
   have hh5:w5.heap=w4.heap.setIfInBounds w13.heap.size (.deferred none):=by rw [hw5,zcx]
   refine jh (s:=.slc) (t:=(none,0,0)) rfl (by rw [hh5];exact hne2 (by omega) h24) rfl ?_
   refine jh (s:=.int .i64) (t:=42) rfl (by rw [hh5];exact hne2 (by omega) h34) rfl ?_
   rw [if_pos (by omega)] at hP
   rw [hP]
   refine⟨(none,0,0),rfl,.inl ⟨rfl,rfl⟩,?_⟩
   rw [hh5]
   exact (k1.own hx4 (by intro b hb hlt;simp at hb;omega)).set_own (.inl (by omega))
  ·refine jh (s:=.slc) (t:=x) rfl k4 rfl ?_
   refine zra (x:=x) rfl k2 k3 (by omega) fun w4 hx4 h24 h34 hs4=>?_
   have hD4:=hx4.get hD (by simp;omega)
   refine⟨hD4,fun w5 hw5=>?_⟩
   have hh5:w5.heap=w4.heap.setIfInBounds w13.heap.size (.deferred none):=by rw [hw5,zcx]
   refine jh (s:=.slc) (t:=x) rfl (by rw [hh5];exact hne2 (by omega) h24) rfl ?_
   refine jh (s:=.int .i64) (t:=0) rfl (by rw [hh5];exact hne2 (by omega) h34) rfl ?_
   rw [if_neg (by omega)] at hP
   rw [hP]
   refine⟨x,rfl,?_,?_⟩
   ·have hm4:=k5.ext hx4 (fun b hb=>by have:=zak k5 b hb;simp;omega)
    have hB:Beside w13.heap.size w4 w5:=by rw [hw5];exact .put (Nat.le_refl _) hD4 (by intro _ _ _ h;cases h)
    exact (hB.mine hm4).mono (by omega)
   ·rw [hh5]
    exact (k1.own hx4 (by intro b hb hlt;simp at hb;omega)).set_own (.inl (by omega))
 ·rintro W ⟨k1,k2,k3,k4⟩ hD
  refine⟨hD,fun w5 hw5=>?_⟩
  have hh5:w5.heap=W.heap.setIfInBounds w13.heap.size (.deferred none):=by rw [hw5,zcx]
  refine jh (s:=.slc) (t:=(none,0,0)) rfl (by rw [hh5];exact zeh k2 (by omega)) rfl ?_
  refine jh (s:=.int .i64) (t:=41) rfl (by rw [hh5];exact zeh k3 (by omega)) rfl ?_
  rw [if_pos k4] at hP
  rw [hP]
  refine⟨(none,0,0),rfl,.inl ⟨rfl,rfl⟩,?_⟩
  rw [hh5]
  exact k1.set_own (.inl (by omega))
def z7h:List UInt8->List (List UInt8)
 | []=>[[]]
 | c :: L=>if c=47 then [] :: z7h L else match z7h L with | []=>[[c]] | p :: ps=>(c :: p) :: ps
def rem (L:List UInt8) (f:Nat):Path:=if f<=L.length then z7h (L.drop f) else []
theorem z9q {w:World}{H:Heap}(hw:w.heap=H){K:(Option Addr×Nat×Nat)->World->Prop}(hK:∀ w',Ext [] H w'.heap->Mine w'.heap H.size qy 1 (some ⟨H.size,0,none⟩,0,0) []->K (some ⟨H.size,0,none⟩,0,0) w'):zde P (Instr.buildSlice zu 0 #[]) .slc w K:=by
 refine zbg (s:=.slc) (some ⟨H.size,0,none⟩,0,0) { w with heap:=H.push (.cells #[] qy) } (by rw [<-hw];kernel_rfl) ?_
 exact hK _ (.push _) (.inr ⟨H.size,#[],rfl,Nat.le_refl _,zn,rfl,rfl,Nat.le_refl _,rfl⟩)
theorem z8p {w:World}{H:Heap}{B:Nat}{x:Option Addr×Nat×Nat}{a:Option Addr}{l c:Nat}{xs ys:Path}(hw:w.heap=H) (hx:Mine H B qy 1 x (strRow xs)) (hB:B<=H.size) (hL:Cells H a (strRow ys)) (hl:l=ys.length) (hlen:xs.length+ys.length<=1099511627776){K:(Option Addr×Nat×Nat)->World->Prop}
  (hK:∀ x' w',Mine w'.heap B qy 1 x' (strRow (xs++ys))->Ext (zbu x) H w'.heap->K x' w'):zde P (Builtin.append_ #[zu,zu] zu #[.slice x.1 x.2.1 x.2.2,.slice a l c]) .slc w K:=by
 have hxl:x.2.1=xs.length:=by have:=hx.len;simp at this;omega
 refine zdr z4u (by omega) zi4 (zbs zi4) hw hx hB (Src.slc hw hL (by simp [hl])) zq2 (by omega) ?_
 intro x' w' hm hl' hx' hs
 refine hK x' w' ?_ hx'
 rw [<-zh7];exact hm
theorem z5x {w:World}{H:Heap}(L:List UInt8) (hw:w.heap=H){K:(Option Addr×Nat×Nat)->World->Prop}(hK:∀ a w',Ext [] H w'.heap->Cells w'.heap a (strRow [L])->K (a,1,1) w'):zde P (Instr.buildSlice zu 1 #[(0,.string (strOf L))]) .slc w K:=by
 refine zbg (s:=.slc) (some ⟨w.heap.size,0,none⟩,1,1) _ (zke z4u zi4 (v:=.string (strOf L)) rfl (by omega) (by omega)) ?_
 exact hK _ _ (by rw [<-hw];exact .push _) (.inr ⟨w.heap.size,0,_,_,_,rfl,zn,by simp [Value.cells,strRow],by simp [Value.cells,strRow]⟩)
open Go.Sort
theorem zgs:∀ {p q:Path},zer p q=0 ↔ p=q
 | [],[]=>by simp [zer]
 | [],_ :: _=>by simp [zer]
 | _ :: _,[]=>by simp [zer]
 | x :: p,y :: q=>by
  simp only [zer]
  by_cases h:Lib.compareBytes x y=0
  ·rw [if_neg (fun e=>e h),zgs,zih.1 h];simp
  ·rw [if_pos h]
   have:x≠y:=fun e=>h (zih.2 e)
   simp [h,this]
theorem zki:∀ {p q:Path},zer p q=- zer q p
 | [],[]=>by simp [zer]
 | [],_ :: _=>by simp [zer]
 | _ :: _,[]=>by simp [zer]
 | x :: p,y :: q=>by
  simp only [zer]
  have hn:=zvy (a:=x) (b:=y)
  by_cases h:Lib.compareBytes x y=0
  ·rw [if_neg (fun e=>e h),if_neg (fun e=>e (by omega)),zki]
  ·rw [if_pos h,if_pos (by omega),hn]
theorem znj:∀ {p q:Path},zer p q=-1\/zer p q=0\/zer p q=1
 | [],[]=>by simp [zer]
 | [],_ :: _=>by simp [zer]
 | _ :: _,[]=>by simp [zer]
 | x :: p,y :: q=>by
  simp only [zer]
  split
  ·exact znu
  ·exact znj
theorem zkk:∀ {p q r:Path},zer p q < 0->zer q r < 0->zer p r < 0
 | [],[],_,h,_=>by simp [zer] at h
 | [],_ :: _,[],_,h=>by simp [zer] at h
 | [],_ :: _,_ :: _,_,_=>by simp [zer]
 | _ :: _,[],_,h,_=>by simp [zer] at h
 | _ :: _,_ :: _,[],_,h=>by simp [zer] at h
 | x :: p,y :: q,z :: r,h1,h2=>by
  simp only [zer] at h1 h2 |-
  by_cases hxy:Lib.compareBytes x y=0
  ·rw [if_neg (fun e=>e hxy)] at h1
   obtain rfl:=zih.1 hxy
   by_cases hyz:Lib.compareBytes x z=0
   ·rw [if_neg (fun e=>e hyz)] at h2 |-
    exact zkk h1 h2
   ·rw [if_pos hyz] at h2 |-
    exact h2
  ·rw [if_pos hxy] at h1
   by_cases hyz:Lib.compareBytes y z=0
   ·obtain rfl:=zih.1 hyz
    rw [if_pos hxy];exact h1
   ·rw [if_pos hyz] at h2
    have h3:=zne.2 (List.lt_trans (zne.1 h1) (zne.1 h2))
    rw [if_pos (by omega)];exact h3
theorem z00 {α:Type}(f:α->Path):SWO (ltOf fun x y=>zer (f x) (f y)):=by
 have h:∀ x y,ltOf (fun x y=>zer (f x) (f y)) x y=true ↔ zer (f x) (f y) < 0:=by
  intro x y;unfold ltOf;exact decide_eq_true_iff
 refine⟨fun x=>?_,fun x y z h1 h2=>?_,fun x y z h1 h2=>?_⟩
 ·rw [<-Bool.not_eq_true,h,zgs.2 rfl];omega
 ·rw [h] at *;exact zkk h1 h2
 ·rw [<-Bool.not_eq_true,h] at *
  intro h3
  have hxy:=znj (p:=f x) (q:=f y)
  have hyz:=znj (p:=f y) (q:=f z)
  have n1:=zki (p:=f x) (q:=f y)
  have n2:=zki (p:=f y) (q:=f z)
  rcases Int.lt_or_eq_of_le (show zer (f y) (f x)<=0 by omega) with h4 | h4
  ·rcases Int.lt_or_eq_of_le (show zer (f z) (f y)<=0 by omega) with h5 | h5
   ·have h6:=zkk h5 h4
    have n3:=zki (p:=f x) (q:=f z)
    omega
   ·rw [zgs.1 h5] at h3;omega
  ·rw [zgs.1 h4] at h2;omega
theorem zuh:∀ {i:Nat}{p q:Path},p.take i=q.take i->i<=p.length->i<=q.length->zer p q=zer (p.drop i) (q.drop i)
 | 0,p,q,_,_,_=>by simp
 | i+1,[],q,_,h,_=>by simp at h
 | i+1,x :: p,[],_,_,h=>by simp at h
 | i+1,x :: p,y :: q,h,h1,h2=>by
  simp only [List.take_succ_cons,List.cons.injEq] at h
  obtain⟨rfl,h⟩:=h
  simp only [zer,List.drop_succ_cons]
  rw [if_neg (fun e=>e (zih.2 rfl))]
  exact zuh h (by simpa using h1) (by simpa using h2)
theorem zzf {w:World}{H:Heap}{a b:Option Addr}{n nc m mc:Nat}{p q:Path}(hw:w.heap=H) (hL:Cells H a (strRow p)) (hn:n=p.length) (hM:Cells H b (strRow q)) (hm:m=q.length) (hp:p.length<=1099511627776) :
  zx P zet #[.slice a n nc,.slice b m mc] w fun e w'=>e=.returned (.int .i64 (zer p q))/\w'=w:=by
 subst hn hm
 refine zoc ?_
 unfold zjc
 have h:zx P jq #[.slice a p.length nc,.slice b q.length mc,.func (.func zca) #[] #[]] w fun e w'=>e=.returned (.int .i64 (zer p q))/\w'=w:=by
  refine zbl ?_
  unfold zaf
  refine zds (fun (s:Int) W=>∃ i:Nat,s=(i:Int)/\i<=p.length/\i<=q.length/\W=w/\p.take i=q.take i) (fun s _=>(p.length-s).toNat) ⟨0,rfl,Nat.zero_le _,Nat.zero_le _,rfl,by simp⟩ ?_
  rintro _ w ⟨i,rfl,hi,hj,rfl,hs⟩
  have hd:=zuh hs hi hj
  refine qm (fun hlt=>?_) (fun hge=>?_)
  ·have hil:i < p.length:=by omega
   refine zps hw hL rfl hil rfl ?_
   refine qm (fun hge=>?_) (fun hlt2=>?_)
   ·have:i=q.length:=by omega
    rw [List.drop_eq_getElem_cons hil,List.drop_eq_nil_of_le (show q.length<=i by omega)] at hd
    exact⟨by rw [hd];rfl,rfl⟩
   ·have hjl:i < q.length:=by omega
    refine zps hw hM rfl hjl rfl ?_
    refine zxp ((z0x _ _).mono ?_)
    rintro e w' ⟨rfl,rfl⟩
    refine⟨_,rfl,?_⟩
    rw [List.drop_eq_getElem_cons hil,List.drop_eq_getElem_cons hjl,zer] at hd
    refine zdk (fun hne=>?_) (fun heq=>?_)
    ·rw [if_pos hne] at hd
     exact⟨by rw [hd],rfl⟩
    ·refine zas ((i+1:Nat):Int) (by omega) (by omega) (by omega) ?_
     exact⟨⟨i+1,rfl,by omega,by omega,rfl,zui hil hjl hs (zih.1 heq)⟩,by omega⟩
  ·have:i=p.length:=by omega
   rw [List.drop_eq_nil_of_le (show p.length<=i by omega)] at hd
   refine qm (fun h=>?_) (fun h=>?_)
   ·rw [List.drop_eq_getElem_cons (show i < q.length by omega)] at hd
    exact⟨by rw [hd];rfl,rfl⟩
   ·rw [List.drop_eq_nil_of_le (show q.length<=i by omega)] at hd
    exact⟨by rw [hd];rfl,rfl⟩
 refine zl h ?_
 rintro e w' ⟨rfl,rfl⟩
 exact⟨_,rfl,rfl,rfl⟩
theorem plain47:ze0 47=false:=by decide
theorem zdv {L:List UInt8}:zd6 L=true ↔ (L≠[]/\L.length<=16/\L≠[46]/\L≠[46,46])/\∀ b∈L,ze0 b=true:=by
 unfold zd6
 rw [Bool.and_eq_true,decide_eq_true_iff,List.all_eq_true]
theorem zpj {L:List UInt8}(h:zd6 L=true):(47:UInt8)∉L:=by
 intro hm
 have:=(zdv.1 h).2 47 hm
 rw [plain47] at this;cases this
def okP (p:Path):Prop:=(∀ L∈p,zd6 L=true)/\p.length<=8
theorem zsm {p:Path}:zpq p=0 ↔ okP p:=by
 unfold zpq okP
 by_cases h:p.all zd6=true
 ·rw [if_pos h]
  rw [List.all_eq_true] at h
  by_cases h2:8 < p.length
  ·rw [if_pos h2]
   constructor
   ·intro h3;omega
   ·intro h3;omega
  ·rw [if_neg h2]
   exact⟨fun _=>⟨h,by omega⟩,fun _=>rfl⟩
 ·rw [if_neg h]
  rw [List.all_eq_true] at h
  constructor
  ·intro h3;omega
  ·intro h3;exact absurd h3.1 h
theorem okP.take {p:Path}(h:okP p) (i:Nat):okP (p.take i):=⟨fun L hL=>h.1 L (List.mem_of_mem_take hL),by have:=h.2;simp;omega⟩
theorem okP.tlen {p:Path}(h:okP p):tlen p<=16 * p.length:=by
 obtain⟨h,h8⟩:=h
 clear h8
 induction p with
 | nil=>simp [Go.Proofs.YthaaekcaaecdeaaGreatDoor.tlen]
 | cons x p ih=>
  have h1:=(zdv.1 (h x (by simp))).1.2.1
  have h2:=ih fun L hL=>h L (by simp [hL])
  simp only [Go.Proofs.YthaaekcaaecdeaaGreatDoor.tlen,List.map_cons,List.sum_cons,List.length_cons] at h2 |-
  omega
theorem okP.small {p:Path}(h:okP p):Go.Proofs.YthaaekcaaecdeaaGreatDoor.tlen p+p.length<=136:=by have:=h.tlen;have:=h.2;omega
theorem okP.fit {p:Path}(h:okP p):Fit p:=fun L hL=>by have:=(zdv.1 (h.1 L hL)).1.2.1;omega
theorem zpd:∀ {p:Path},p≠[]->(∀ L∈p,zd6 L=true)->pieces (joinP p)=p
 | [],h,_=>absurd rfl h
 | [x],_,h=>by
  have hx:=h x (by simp)
  have:joinP [x]=x:=by simp [joinP]
  rw [this,zlq (zpj hx) (zdv.1 hx).1.1]
 | x :: y :: p,_,h=>by
  have hx:=h x (by simp)
  have e:joinP (x :: y :: p)=x++47 :: joinP (y :: p):=by simp [joinP]
  rw [e,zkm (zpj hx),zpd (by simp) fun L hL=>h L (List.mem_cons_of_mem _ hL)]
theorem zq4:∀ {p acc:Path},(∀ L∈p,zd6 L=true)->p.foldl zbt acc=acc++p
 | [],acc,_=>by simp
 | x :: p,acc,h=>by
  obtain⟨⟨h1,h2,h3,h4⟩,_⟩:=zdv.1 (h x (by simp))
  rw [List.foldl_cons]
  have e:zbt acc x=acc++[x]:=by rw [zbt,if_neg (by simp [h1,h3]),if_neg h4]
  rw [e,zq4 fun L hL=>h L (List.mem_cons_of_mem _ hL)];simp
theorem zxd:∀ {p:Path},∀ b∈joinP p,b=47\/∃ L∈p,b∈L
 | [],b,h=>by simp [joinP] at h
 | x :: p,b,h=>by
  simp only [joinP,List.mem_append,List.mem_flatMap,List.mem_cons] at h
  rcases h with h | ⟨L,hL,h | h⟩
  ·exact .inr ⟨x,by simp,h⟩
  ·exact .inl h
  ·exact .inr ⟨L,by simp [hL],h⟩
theorem zbe {p:Path}(h:okP p):jm (jd p)=(p,0):=by
 have hlen:(jd p).length<=137:=by
  have h1:=h.small
  unfold jd
  cases p with
  | nil=>simp [joinP]
  | cons x p=>
   simp only [List.length_cons,zpr]
   simp only [List.length_cons] at h1
   omega
 have hok:zqz (jd p)=true:=by
  unfold zqz jd
  rw [List.all_eq_true]
  intro b hb
  rcases List.mem_cons.1 hb with rfl | hb
  ·simp
  ·rcases zxd b hb with rfl | ⟨L,hL,hm⟩
   ·simp
   ·rw [(zdv.1 (h.1 L hL)).2 b hm];simp
 have hpc:pieces (jd p)=[] :: p:=by
  unfold jd
  have h0:pieces (47 :: joinP p)=[] :: pieces (joinP p):=zkm (p:=[]) (by simp)
  rw [h0]
  by_cases hp:p=[]
  ·subst hp;rfl
  ·rw [zpd hp h.1]
 have hwalk:zi3 (pieces (jd p))=p:=by
  rw [hpc]
  show (p.foldl zbt (zbt [] []))=p
  rw [zq4 h.1];simp [zbt]
 have hany:(pieces (jd p)).any (fun x=>decide (16 < x.length))=false:=by
  rw [hpc,List.any_eq_false]
  intro x hx
  rcases List.mem_cons.1 hx with rfl | hx
  ·simp
  ·have:=(zdv.1 (h.1 x hx)).1.2.1
   simp;omega
 have h8:=h.2
 unfold jm
 rw [if_neg (by omega),if_neg (by simp [jd]),if_neg (by simp [hok]),hany,hwalk,if_neg (by simp),if_neg (by omega)]
theorem zr2 {p q:Path}(hp:okP p) (hq:okP q) (h:jd p=jd q):p=q:=by
 have:=zbe hp
 rw [h,zbe hq] at this
 simpa using this.symm
theorem zh0:∀ {L x:List UInt8},x∈pieces L->(47:UInt8)∉x/\∀ b∈x,b∈L
 | [],x,h=>by simp [pieces] at h
 | c :: L,x,h=>by
  rw [pieces] at h
  by_cases hc:c=47
  ·rw [if_pos hc] at h
   rcases List.mem_cons.1 h with rfl | h
   ·simp
   ·have:=zh0 h
    exact⟨this.1,fun b hb=>List.mem_cons_of_mem _ (this.2 b hb)⟩
  ·rw [if_neg hc] at h
   cases hps:pieces L with
   | nil=>
    rw [hps] at h
    simp only [List.mem_singleton] at h
    subst h
    exact⟨by simp [Ne.symm hc],by simp⟩
   | cons p ps=>
    rw [hps] at h
    have hp:=zh0 (L:=L) (x:=p) (by rw [hps];simp)
    simp only at h
    split at h
    ·rcases List.mem_cons.1 h with rfl | h
     ·exact⟨by simp [Ne.symm hc],by simp⟩
     ·have:=zh0 (L:=L) (x:=x) (by rw [hps];simp [h])
      exact⟨this.1,fun b hb=>List.mem_cons_of_mem _ (this.2 b hb)⟩
    ·rcases List.mem_cons.1 h with rfl | h
     ·refine⟨by simp [Ne.symm hc,hp.1],fun b hb=>?_⟩
      rcases List.mem_cons.1 hb with rfl | hb
      ·simp
      ·exact List.mem_cons_of_mem _ (hp.2 b hb)
     ·have:=zh0 (L:=L) (x:=x) (by rw [hps];simp [h])
      exact⟨this.1,fun b hb=>List.mem_cons_of_mem _ (this.2 b hb)⟩
theorem zwh:∀ {ps acc:Path}{x:List UInt8},x∈ps.foldl zbt acc->x∈acc\/(x∈ps/\x≠[]/\x≠[46]/\x≠[46,46])
 | [],acc,x,h=>.inl h
 | y :: ps,acc,x,h=>by
  rw [List.foldl_cons] at h
  rcases zwh h with h | ⟨h1,h2⟩
  ·unfold zbt at h
   split at h
   ·exact .inl h
   ·rename_i h1
    split at h
    ·exact .inl ((List.dropLast_sublist acc).subset h)
    ·rename_i h2
     rcases List.mem_append.1 h with h | h
     ·exact .inl h
     ·simp only [List.mem_singleton] at h
      subst h
      simp only [not_or] at h1
      exact .inr ⟨by simp,h1.1,h1.2,h2⟩
  ·exact .inr ⟨List.mem_cons_of_mem _ h1,h2⟩
theorem zka (L:List UInt8):okP (jm L).1:=by
 have nil:okP []:=⟨by simp,by simp⟩
 unfold jm
 split
 ·exact nil
 split
 ·exact nil
 split
 ·exact nil
 rename_i hok
 split
 ·exact nil
 rename_i hany
 split
 ·exact nil
 rename_i hdeep
 refine⟨fun x hx=>?_,by simp only;omega⟩
 rcases zwh hx with h | ⟨h1,h2,h3,h4⟩
 ·cases h
 ·have hm:=zh0 h1
  rw [zdv]
  refine⟨⟨h2,?_,h3,h4⟩,fun b hb=>?_⟩
  ·simp only [Bool.not_eq_true,List.any_eq_false] at hany
   have:=hany x h1
   simp at this;omega
  ·have hb2:=hm.2 b hb
   simp only [Bool.not_eq_false] at hok
   have h5:=List.all_eq_true.1 hok b hb2
   have h6:b≠47:=fun e=>hm.1 (by rw [<-e];exact hb)
   simpa [h6] using h5
theorem ztn {vs:List Value}:(Value.cells (.agg vs.toArray):Array Value)=vs.toArray:=rfl
theorem zrk {T E:TypeId}{sz:Nat}{H:Heap}{a:Option Addr}{l c:Nat}{vs:List Value}{i:Nat}{n:Int}(hu:P.underlying T=some (.slice E)) (hs:(P.info? E).map (·.size)=some sz) (hL:Cells H a vs) (hc:l<=c) (hi:i<=l) (hn:n=(i:Int)) :
  ∃ a',(∀ w,(Instr.sliceAt T (.slice a l c) none (some (.int .i64 n)) none).run P w=.ok (.slice a' i c) w)/\Cells H a' (vs.take (i * sz)):=by
 refine⟨_,fun w=>zbi (l:=0) (h:=i) hu hs .no (.yes hn) (Nat.zero_le _) (by omega),?_⟩
 by_cases h:c=0
 ·rw [if_pos h];exact hL.take _
 ·rw [if_neg h,Nat.zero_mul]
  have:=hL.part 0 vs.length (by omega)
  simp only [List.drop_zero,List.take_length] at this
  exact this.take _
theorem zz7 {κ ν:Type} [DecidableEq κ] {kt et mt:TypeId}{ok:κ->Prop}{enc:κ->Value}{ev:ν->Value}{w:World}{H:Heap}{m c:Nat}{l:ML κ ν}(K:KeyOk P kt κ ok enc) (hu:P.underlying mt=some (.map kt et)){z:Value}(hz:∀ w,(zeroValue et).run P w=.ok z w) (hw:w.heap=H) (hm:H[m]?=some (.map (ents enc (vl ev l)) c)) (hl:MOk ok l c){k:κ}(hk:ok k) :
  (Instr.lookup mt (.map (some m)) (enc k) false).run P w=.ok (((zi9 l k).map ev).getD z) w:=by
 have hf:=K.find w k (ents enc (vl ev l)).toList (vl ev l) hk hl.vl.fine (by simp [ents])
 have hg:=zow (l:=vl ev l) (k:=k)
 generalize (((vl ev l).findIdx? (fun x=>x.1==k)).bind fun i=>((vl ev l)[i]?).map fun x=>(i,x.2.1))=r at hf hg
 simp only [Instr.lookup,Sem.run_bind,zy hu,Result.andThen_ok,zwv hw hm (by intros;simp),Sem.run_pure,K.chk w k _ hk,hf]
 rw [<-zss,<-hg]
 cases r with
 | none=>simp [hz]
 | some x=>simp
theorem zww {cs:Array Value}{t:TypeId}{o:Nat}{v:Value}{w:World}(ha:(isAgg t).run P w=.ok false w) (hc:cs[o]?=some v):(part t cs o).run P w=.ok v w:=by
 simp [part,ha,hc]
theorem z7o {a b:List UInt8}:(a==b)=decide (a=b):=by rw [Bool.eq_iff_iff];simp
structure Fil where
 path:List UInt8
 dir:Bool
 data:List UInt8
deriving DecidableEq,Inhabited
def zg5 (f:Fil):List Value:=[.string (strOf f.path),.bool f.dir,.string (strOf f.data)]
theorem zkh (f:Fil):(zg5 f).length=3:=rfl
theorem zoj {f:Fil}:zbf (zg5 f):=by
 intro v hv
 simp only [zg5,List.mem_cons,List.not_mem_nil,or_false] at hv
 rcases hv with rfl | rfl | rfl <;> rfl
def nm (f:Fil):Path:=(jm f.path).1
def clean (f:Fil):Fil:=⟨jd (nm f),f.dir,f.data⟩
theorem zcF:(zc P qj).size=3:=by kernel_rfl
theorem szF:P.cellsOf qj=3:=by kernel_rfl
theorem z6t {w:World}{H:Heap}(f:Fil) (hw:w.heap=H){K:Nat->World->Prop}(hK:∀ w',w'.heap=H.push (.cells (zg5 f).toArray qj (0,0))->K H.size w') :
  zam (zc P qj) qj w fun b w1=>jy P (storeVar qj (⟨b,0,none⟩:Addr) (.agg (zg5 f).toArray)) w1 fun w2=>K b w2:=
 zqr (v:=.agg (zg5 f).toArray) szF zcF (by simp [Value.cells,zg5]) (by simpa [Value.cells] using zoj) hw hK
theorem uFs:P.underlying vw=some (.slice qj):=by kernel_rfl
theorem EFi:Elem P qj 3 40:=znw (z:=.agg #[.string .empty,.bool false,.string .empty]) (by kernel_rfl) rfl
theorem z3m (S:List Fil):(S.flatMap zg5).length=S.length * 3:=by rw [ji zg5 zkh]
theorem z7q {S:List Fil}:zbf (S.flatMap zg5):=by
 intro v hv
 obtain⟨i,_,hi⟩:=List.mem_flatMap.1 hv
 exact zoj v hi
theorem qao {w:World}{H:Heap}(hw:w.heap=H){K:(Option Addr×Nat×Nat)->World->Prop}(hK:∀ w',Ext [] H w'.heap->Mine w'.heap H.size qj 3 (some ⟨H.size,0,none⟩,0,0) (([]:List Fil).flatMap zg5)->K (some ⟨H.size,0,none⟩,0,0) w'):zde P (Instr.buildSlice vw 0 #[]) .slc w K:=by
 refine zbg (s:=.slc) (some ⟨H.size,0,none⟩,0,0) { w with heap:=H.push (.cells #[] qj) } (by rw [<-hw];kernel_rfl) ?_
 exact hK _ (.push _) (.inr ⟨H.size,#[],rfl,Nat.le_refl _,zn,rfl,rfl,Nat.le_refl _,rfl⟩)
theorem z9o {w:World}{H:Heap}{B:Nat}{x:Option Addr×Nat×Nat}{a:Option Addr}{l c:Nat}{xs ys:List Fil}(hw:w.heap=H) (hx:Mine H B qj 3 x (xs.flatMap zg5)) (hB:B<=H.size) (hL:Cells H a (ys.flatMap zg5)) (hl:l=ys.length) (hlen:xs.length+ys.length<=1099511627){K:(Option Addr×Nat×Nat)->World->Prop}
  (hK:∀ x' w',Mine w'.heap B qj 3 x' ((xs++ys).flatMap zg5)->Ext (zbu x) H w'.heap->K x' w'):zde P (Builtin.append_ #[vw,vw] vw #[.slice x.1 x.2.1 x.2.2,.slice a l c]) .slc w K:=by
 have hxl:x.2.1=xs.length:=by have:=hx.len;rw [z3m] at this;omega
 refine zdr EFi (by omega) uFs (zbs uFs) hw hx hB (Src.slc hw hL (by rw [z3m,hl])) z7q (by omega) ?_
 intro x' w' hm hl' hx' hs
 refine hK x' w' ?_ hx'
 rw [List.flatMap_append];exact hm
theorem z3y {w:World}{H:Heap}{B:Nat}{x:Option Addr×Nat×Nat}{T:List Fil}{i:Fil}(hw:w.heap=H) (hm:Mine H B qj 3 x (T.flatMap zg5)) (hBs:B<=H.size) (hlen:T.length<=1073741824){K:(Option Addr×Nat×Nat)->World->Prop}
  (hK:∀ x' w',Mine w'.heap B qj 3 x' ((T++[i]).flatMap zg5)->Ext (zbu x) H w'.heap->(∀ c∈zbu x',c∈zbu x\/H.size<=c)->K x' w') :
  zde P (Instr.buildSlice vw 1 #[(0,.agg (zg5 i).toArray)]) .slc w fun (t27:(Option Addr×Nat×Nat)) w_13=>
  zde P (Builtin.append_ #[vw,vw] vw #[(Value.slice x.1 x.2.1 x.2.2),(Value.slice t27.1 t27.2.1 t27.2.2)]) .slc w_13 K:=by
 have hlx:x.2.1=T.length:=by have:=hm.len;rw [z3m] at this;omega
 refine zbg (s:=.slc) (some ⟨w.heap.size,0,none⟩,1,1) _ (zke EFi uFs (v:=.agg (zg5 i).toArray) (by simp [Value.cells,zkh]) (by omega) (by omega)) ?_
 subst hw
 have hxp:Ext [] w.heap (w.heap.push (.cells (Value.agg (zg5 i).toArray).cells qj)):=.push _
 refine zdr (bts:=40) (n:=1) (us:=zg5 i) (H:=w.heap.push (.cells (Value.agg (zg5 i).toArray).cells qj)) EFi (by omega) uFs (zbs uFs) rfl (hm.ext hxp (by simp)) (by simp;omega)
  (Src.slc rfl (.inr ⟨w.heap.size,0,_,_,_,rfl,zn,by simp [ztn],by simp [ztn,List.take_of_length_le]⟩) (by rw [zkh])) zoj (by omega) ?_
 intro x' w4 hm4 hl4 hx4 hs4
 refine hK x' w4 (by rw [List.flatMap_append,List.flatMap_singleton];exact hm4) ((hxp.mono (by simp)).trans hx4) (fun c hc=>?_)
 rcases hs4 c hc with h | h
 ·exact .inl h
 ·right;have:=hxp.1;omega
theorem z08 {w:World}{H:Heap}{B:Nat}{x:Option Addr×Nat×Nat}{p:Path}(hw:w.heap=H) (hm:Mine H B qy 1 x (strRow p)) (hp:p.length<=1099511627776) :
  zx P zba #[.slice x.1 x.2.1 x.2.2] w fun e w'=>∃ x',e=.returned (zhq x')/\Mine w'.heap H.size qy 1 x' (strRow p)/\Ext [] H w'.heap:=by
 have hl:x.2.1=p.length:=by have:=hm.len;simp at this;omega
 have hC:=hm.cells
 refine zfo ?_
 unfold zcf
 by_cases h:x.1.isNone=true
 ·have hx0:x.1=none:=by simpa using h
  refine jc h ?_
  rcases hm with⟨_,h2⟩ | ⟨_,_,h2,_⟩
  ·exact⟨(none,0,0),rfl,.inl ⟨rfl,h2⟩,by rw [hw];exact .refl _ _⟩
  ·rw [hx0] at h2;cases h2
 ·refine qg (by cases hh:x.1 with
   | none=>rw [hh] at h;exact absurd rfl h
   | some v=>rfl) ?_
  refine z9q hw fun w1 hx1 hm1=>?_
  refine z8p (xs:=[]) (ys:=p) rfl hm1 hx1.1 (hC.ext hx1 (by simp)) hl (by simp;omega) fun x' w2 hm2 hx2=>?_
  exact⟨x',rfl,hm2,hx1.own hx2 (fun c hc hlt=>by simp [zbu] at hc;omega)⟩
theorem z3v {w:World}{H:Heap}{a b:Option Addr}{n nc m mc:Nat}{p q:Path}(hw:w.heap=H) (hL:Cells H a (strRow p)) (hn:n=p.length) (hM:Cells H b (strRow q)) (hm:m=q.length) (hp:p.length<=9223372036854775807) :
  zx P za6 #[.slice a n nc,.slice b m mc] w fun e w'=>e=.returned (.bool (decide (p=q)))/\w'.heap=H:=by
 subst hn hm
 refine zfk ?_
 unfold zck
 refine zdk (fun h=>⟨by rw [decide_eq_false];rintro rfl;exact h rfl,hw⟩) (fun hl=>?_)
 have hl:p.length=q.length:=by omega
 refine zds (fun (s:Int) W=>∃ i:Nat,s=(i:Int)/\i<=p.length/\W.heap=H/\p.take i=q.take i) (fun s _=>(p.length-s).toNat) ⟨0,rfl,Nat.zero_le _,hw,by simp⟩ ?_
 rintro _ W ⟨i,rfl,hi,hW,hs⟩
 refine qm (fun hlt=>?_) (fun hge=>?_)
 ·have hil:i < p.length:=by omega
  refine zaj hW fun W1 hW1=>?_
  refine z6g hW1 hL rfl hil rfl hM rfl (by omega) rfl ?_
  by_cases e:p[i]=q[i]
  ·refine qg (by simp [e]) ?_
   refine zas ((i+1:Nat):Int) (by omega) (by omega) (by omega) ?_
   exact⟨⟨i+1,rfl,by omega,hW1,zui hil (by omega) hs e⟩,by omega⟩
  ·refine jc (by simp [e]) ?_
   exact⟨by rw [decide_eq_false (z09 hil (by omega) e)],hW1⟩
 ·have:i=p.length:=by omega
  subst this
  rw [List.take_length,hl,List.take_length] at hs
  exact⟨by rw [decide_eq_true hs],hW⟩
theorem zvx {w:World}{H:Heap}{a b:Option Addr}{n nc m mc:Nat}{p q:Path}(hw:w.heap=H) (hL:Cells H a (strRow p)) (hn:n=p.length) (hnc:n<=nc) (hM:Cells H b (strRow q)) (hm:m=q.length) (hp:p.length<=9223372036854775807) (hq:q.length<=9223372036854775807) :
  zx P zfr #[.slice a n nc,.slice b m mc] w fun e w'=>e=.returned (.bool (zjn p q))/\w'.heap=H:=by
 refine zpf ?_
 unfold zk4
 refine qm (fun h=>?_) (fun h=>⟨by congr 2;refine (Bool.eq_false_iff.2 ?_).symm;intro h2;have:=(within_iff.1 h2).1;omega,hw⟩)
 refine qw (s:=.slc) (if nc=0 then a else a.map (·.add (0 * 1)),m-0,nc-0) (zbi zi4 zql .no (.yes rfl) (Nat.zero_le _) (by omega)) ?_
 have hC:Cells H (if nc=0 then a else a.map (·.add (0 * 1))) (strRow (p.take m)):=by
  have:=(hL.drop 0 nc (by simp;omega)).take m
  rwa [List.drop_zero,zcn] at this
 refine zl (z3v hw hC (by simp;omega) hM hm (by simp;omega)) ?_
 rintro e w' ⟨rfl,hw'⟩
 refine⟨_,rfl,?_⟩
 refine⟨?_,hw'⟩
 congr 2
 rw [Bool.eq_iff_iff,decide_eq_true_iff,within_iff,hm]
 exact⟨fun h=>⟨by omega,h⟩,fun h=>h.2⟩
theorem jf {w:World}{H:Heap}(L:List UInt8) (hw:w.heap=H) :
  zx P ze2 #[.string (strOf L)] w fun e w'=>∃ x,e=.returned (zhq x)/\Mine w'.heap H.size qy 1 x (strRow (jm L).1)/\Ext [] H w'.heap:=by
 refine zqk ?_
 unfold zl5
 refine zl (zj0 L hw) ?_
 rintro e w' ⟨x,rfl,h⟩
 exact⟨(x,_),rfl,x,rfl,h⟩
structure Ino where
 names:Path
 kind:Int
 opq:Bool
 data:List UInt8
deriving DecidableEq,Inhabited
def raw (t:List UInt8) (k:Int) (o:Bool) (d:List UInt8):List Value:=[.string (strOf t),.int .i64 k,.bool o,.string (strOf d)]
def encI (i:Ino):List Value:=raw (jd i.names) i.kind i.opq i.data
def z1w (i:Ino):Value:=.agg (encI i).toArray
def z6q (t:List UInt8) (k:Int) (o:Bool) (d:List UInt8):Value:=.agg (raw t k o d).toArray
def keyS (L:List UInt8):Value:=.string (strOf L)
theorem zhg (i:Ino):(encI i).length=4:=rfl
theorem zpv {t d:List UInt8}{k:Int}{o:Bool}:zbf (raw t k o d):=by
 intro v hv
 simp only [raw,List.mem_cons,List.not_mem_nil,or_false] at hv
 rcases hv with rfl | rfl | rfl | rfl <;> rfl
theorem zon {i:Ino}:zbf (encI i):=zpv
structure Good (L:List Ino):Prop where
 ok:∀ i∈L,okP i.names/\i.names≠[]
 rise:L.Pairwise fun a b=>zer a.names b.names < 0
 small:∀ i∈L,i.data.length<=1024
 many:L.length<=1024
def tot (L:List Ino):Nat:=(L.map fun i=>i.data.length).sum
abbrev IM:=ML (List UInt8) Ino
structure St (M:IM) (L:List Ino):Prop where
 perm:(M.map (·.2.1)).Perm L
 key:∀ x∈M,x.1=jd x.2.1.names
 good:Good L
def Up (H:Heap) (p m:Nat) (nodes bytes:Int) (L:List Ino):Prop:=∃ M c,H[p]?=some (.cells #[.int .i64 nodes,.int .i64 bytes,.int .i64 (tot L:Int),.map (some m)] zao (0,0)) /\
 H[m]?=some (.map (ents keyS (vl z1w M)) c)/\MOk (fun _=>True) M c/\St M L
theorem Up.ext {F:List Nat}{H H':Heap}{p m:Nat}{n b:Int}{L:List Ino}(h:Up H p m n b L) (hx:Ext F H H') (hp:p∉F) (hm:m∉F):Up H' p m n b L:=by
 obtain⟨M,c,h1,h2,h3⟩:=h
 exact⟨M,c,hx.get h1 hp,hx.get h2 hm,h3⟩
theorem z3p:KeyOk P qy (List UInt8) (fun _=>True) keyS:=KeyOk.str zv4
theorem uM:P.underlying qp=some (.map qy zk):=by kernel_rfl
def zI:Value:=z6q [] 0 false []
theorem zMI (w:World):(zeroValue zk).run P w=.ok zI w:=by kernel_rfl
theorem zcI:zc P zk=(raw [] 0 false []).toArray:=by kernel_rfl
theorem szI:P.cellsOf zk=4:=by kernel_rfl
theorem bI (w:World):(Instr.build zk #[]).run P w=.ok zI w:=by kernel_rfl
theorem bU (n b:Int) (m:Option Nat) (w:World):(Instr.build zao #[(0,.int .i64 n),(1,.int .i64 b),(3,.map m)]).run P w=.ok (.agg #[.int .i64 n,.int .i64 b,.int .i64 0,.map m]) w:=by kernel_rfl
theorem uI:P.underlying zez=some (.slice zk):=by kernel_rfl
theorem EI:Elem P zk 4 48:=znw (z:=z6q [] 0 false []) (by kernel_rfl) rfl
theorem zjz {H:Heap}{B:Nat}{T:TypeId}{sz:Nat}{x:Option Addr×Nat×Nat}{vs:List Value}(h:Mine H B T sz x vs):∀ b∈zbu x,b < H.size/\∃ c,H[b]?=some (.cells c T (0,0)):=by
 intro b hb
 rcases h with⟨rfl,_⟩ | ⟨b2,c,hx,_,hb2,_⟩
 ·simp [zbu] at hb
 ·simp only [zbu,hx,List.mem_singleton] at hb
  subst hb;exact⟨lt_of_get hb2,c,hb2⟩
def zqo (n b:Int):Prop:=0<=n/\n<=128/\0<=b/\b<=8192
instance (n b:Int):Decidable (zqo n b):=by unfold zqo;infer_instance
theorem St.nil:St [] []:=⟨.refl _,by simp,⟨by simp,.nil,by simp,by simp⟩⟩
theorem new_c {w:World}{H:Heap}(n b:Int) (hw:w.heap=H):zx P zlk #[.int .i64 n,.int .i64 b] w fun e w'=>
  (¬zqo n b/\e=.returned (.tuple #[.pointer none,.int .i64 1])/\w'.heap=H)\/(zqo n b/\∃ p m,e=.returned (.tuple #[.pointer (some ⟨p,0,none⟩),.int .i64 0])/\Up w'.heap p m n b []/\Ext [] H w'.heap/\H.size<=p/\p < w'.heap.size/\H.size<=m/\m < w'.heap.size):=by
 refine ztg ?_
 unfold zpx
 refine x9 ?_
 refine qm (fun h=>.inl ⟨fun h2=>by have:=h2.1;omega,rfl,hw⟩) (fun h1=>?_)
 refine qm (fun h=>.inl ⟨fun h2=>by have:=h2.2.1;omega,rfl,hw⟩) (fun h2=>?_)
 refine qm (fun h=>.inl ⟨fun h2=>by have:=h2.2.2.1;omega,rfl,hw⟩) (fun h3=>?_)
 refine qm (fun h=>.inl ⟨fun h2=>by have:=h2.2.2.2;omega,rfl,hw⟩) (fun h4=>?_)
 refine zbg (s:=.map) (some H.size) _ (zpa hw) ?_
 refine qw (s:=.any) _ (bU _ _ _ _) ?_
 refine jg (H:=H.push (.map #[] 0)) rfl fun w2 hw2=>?_
 refine .inr ⟨⟨by omega,by omega,by omega,by omega⟩,H.size+1,H.size,by simp,⟨[],0,?_,?_,.nil,.nil⟩,by rw [hw2];exact (Ext.push _).push_own,by omega,by rw [hw2];simp,by omega,by rw [hw2];simp;omega⟩
 ·rw [hw2]
  have:(H.push (.map #[] 0)).size=H.size+1:=by simp
  rw [<-this];exact zn
 ·rw [hw2];exact zac zn
def zji (k:Int) (o:Bool) (d:List UInt8):Int:=
 if k < 1\/3 < k then 100 else if (d≠[]/\k≠1)\/(o=true/\k≠2) then 1 else if 1024 < d.length then 134 else 0
theorem z4o {w:World}{H:Heap}(t d:List UInt8) (k:Int) (o:Bool) (hw:w.heap=H):zx P zjt #[z6q t k o d] w fun e w'=>e=.returned (.int .i64 (zji k o d))/\Ext [] H w'.heap:=by
 refine zsp ?_
 unfold zn7
 refine jg hw fun w1 hw1=>?_
 have hx1:Ext [] H w1.heap:=by rw [hw1];exact .push _
 have hb:w1.heap[H.size]?=some (.cells (raw t k o d).toArray zk (0,0)):=by rw [hw1];exact zn
 refine jh (s:=.int .i64) (t:=k) rfl hb rfl ?_
 have data:∀ {R1 R2:Prop},(d≠[]->R1)->(d=[]->R2)->ld .str (⟨H.size,3,none⟩:Addr) w1 fun (t14:ByteArray)=>qx (!(t14.toList==(ByteArray.mk #[]).toList)) R1 R2:=by
  intro R1 R2 h1 h2
  refine jh (s:=.str) (t:=strOf d) rfl hb rfl ?_
  exact za8 (p:=d≠[]) (by rw [Bool.not_eq_true',<-Bool.not_eq_true,zj1]) h1 (fun h=>h2 (Classical.not_not.1 h))
 refine x9 ?_
 refine x9 ?_
 refine x9 ?_
 refine zc9 (fun h3=>?_) (fun h3=>zc9 (fun h2=>?_) (fun h2=>zc9 (fun h1=>?_) (fun h1=>?_)))
 ·subst h3
  refine jh (s:=.bool) (t:=o) rfl hb rfl ?_
  cases o with
  | true=>exact jc rfl ⟨by simp [zji],hx1⟩
  | false=>
   refine qg rfl ?_
   refine data (fun h=>⟨by simp [zji,h],hx1⟩) (fun h=>⟨by simp [zji,h],hx1⟩)
 ·subst h2
  refine data (fun h=>⟨by simp [zji,h],hx1⟩) (fun h=>⟨by simp [zji,h],hx1⟩)
 ·subst h1
  refine jh (s:=.bool) (t:=o) rfl hb rfl ?_
  cases o with
  | true=>exact jc rfl ⟨by simp [zji],hx1⟩
  | false=>
   refine qg rfl ?_
   refine jh (s:=.str) (t:=strOf d) rfl hb rfl ?_
   refine qm (fun h=>⟨?_,hx1⟩) (fun h=>⟨?_,hx1⟩)
   ·have h:1024 < d.length:=by simp only [zad] at h;omega
    simp [zji,h]
   ·have h:¬1024 < d.length:=by simp only [zad] at h;omega
    simp [zji,h]
 ·exact⟨by unfold zji;rw [if_pos (by omega)],hx1⟩
def zz5 (n b:Int) (L:List Ino):Bool:=decide ((L.length:Int) > n) || decide ((tot L:Int) > b)
theorem z4z {w:World}{H:Heap}{p m:Nat}{n b:Int}{L:List Ino}(hw:w.heap=H) (hU:Up H p m n b L):zx P zew #[.pointer (some ⟨p,0,none⟩)] w fun e w'=>e=.returned (.bool (zz5 n b L))/\w'.heap=H:=by
 obtain⟨M,c,h1,h2,h3,h4⟩:=hU
 have hl:M.length=L.length:=by have:=h4.perm.length_eq;rwa [List.length_map] at this
 refine zl0 ?_
 unfold zha
 refine zaj hw fun w1 hw1=>?_
 refine jc rfl ?_
 simp only [qo,zan,Nat.zero_add]
 refine jh (s:=.map) (t:=some m) hw1 h1 rfl ?_
 refine qw (s:=.int .i64) _ (ztv uM hw1 h2) ?_
 refine jh (s:=.int .i64) (t:=n) hw1 h1 rfl ?_
 refine qm (fun h=>⟨?_,hw1⟩) (fun h=>?_)
 ·unfold zz5;rw [decide_eq_true (by omega)];rfl
 ·refine jh (s:=.int .i64) (t:=(tot L:Int)) hw1 h1 rfl ?_
  refine jh (s:=.int .i64) (t:=b) hw1 h1 rfl ?_
  refine⟨?_,hw1⟩
  unfold zz5;rw [decide_eq_false (p:=(L.length:Int) > n) (by omega)];rfl
def zei (L:List Ino) (p:Path):Option Ino:=if p≠[]/\zpq p=0 then L.find? (fun i=>decide (i.names=p)) else none
def zoh (o:Option Ino):List Value:=match o with | some i=>encI i | none=>raw [] 0 false []
theorem zj9 {o:Option Ino}:(zoh o).length=4:=by cases o <;> rfl
theorem zm7 {o:Option Ino}:zbf (zoh o):=by cases o;exact zpv;exact zon
theorem zzt {M:IM}{c:Nat}{L:List Ino}(hM:MOk (fun _=>True) M c) (h:St M L){p:Path}(hp:okP p):zi9 M (jd p)=L.find? (fun i=>decide (i.names=p)):=by
 cases hf:L.find? (fun i=>decide (i.names=p)) with
 | some i=>
  have h1:=List.mem_of_find?_eq_some hf
  have h2:i.names=p:=by simpa using List.find?_some hf
  obtain⟨x,hx,rfl⟩:=List.mem_map.1 (h.perm.mem_iff.2 h1)
  have h3:=h.key x hx
  rw [h2] at h3
  rw [<-h3]
  exact zvh hM.keys (c:=x.2.2) (by exact hx)
 | none=>
  refine zn2 fun x hx e=>?_
  have h1:x.2.1∈L:=h.perm.mem_iff.1 (List.mem_map.2 ⟨x,hx,rfl⟩)
  have h2:=h.key x hx
  have h3:x.2.1.names=p:=zr2 (h.good.ok _ h1).1 hp (by rw [<-h2,e])
  have:=List.find?_eq_none.1 hf _ h1
  exact this (by simpa using h3)
theorem stI {w:World}{H:Heap}{b:Nat}{c:Array Value}{vs:List Value}{K:World->Prop}(hw:w.heap=H) (hb:H[b]?=some (.cells c zk (0,0))) (hc:c.size=4) (h4:vs.length=4) (h1:zbf vs) (hK:∀ w',w'.heap=H.setIfInBounds b (.cells vs.toArray zk (0,0))->K w') :
  jy P (storeVar zk (⟨b,0,none⟩:Addr) (.agg vs.toArray)) w K:=by
 have hcs:(Value.agg vs.toArray).cells=vs.toArray:=rfl
 refine zb0 (v:=.agg vs.toArray) (by rw [szI,hcs];simp [h4]) (by rw [hcs];simp [h4]) (by rw [hcs];exact h1) hw hb (by rw [hcs];simp [h4,hc]) fun w' hw'=>?_
 refine hK w' ?_
 rw [hw',hcs,zb3 (by simp [h4,hc])]
theorem z7u:zI=.agg (raw [] 0 false []).toArray:=rfl
set_option maxHeartbeats 4000000 in
theorem z4a {w:World}{H:Heap}{p m:Nat}{nn bb:Int}{L:List Ino}{a:Option Addr}{n nc:Nat}{q:Path}(hw:w.heap=H) (hU:Up H p m nn bb L) (hL:Cells H a (strRow q)) (hn:n=q.length) (hnc:n<=nc) (hf:Fit q) (hq:q.length<=9223372036854775807) :
  zx P zcd #[.pointer (some ⟨p,0,none⟩),.slice a n nc] w fun e w'=>e=.returned (.tuple #[.agg (zoh (zei L q)).toArray,.bool (zei L q).isSome])/\Ext [] H w'.heap:=by
 refine zmi ?_
 unfold zh2
 rw [zcI]
 refine jg hw fun w1 hw1=>?_
 have hx1:Ext [] H w1.heap:=by rw [hw1];exact .push _
 have hb1:w1.heap[H.size]?=some (.cells (raw [] 0 false []).toArray zk (0,0)):=by rw [hw1];exact zn
 have none_way:∀ {w:World},zei L q=none->Ext [] H w.heap->w.heap[H.size]?=some (.cells (raw [] 0 false []).toArray zk (0,0))->jv P (Instr.build zk #[]) .any w fun (t20:Value)=>jy P (storeVar zk (⟨H.size,0,none⟩:Addr) t20) w fun w_2=>ldA P 4 (⟨H.size,0,none⟩:Addr) w_2 fun t4=>
   (Ending.returned (Value.tuple #[(Value.agg t4),(Value.bool false)])=.returned (.tuple #[.agg (zoh (zei L q)).toArray,.bool (zei L q).isSome])/\Ext [] H w_2.heap):=by
  intro w hg hx hb
  refine qw (s:=.any) zI (bI w) ?_
  rw [z7u]
  refine stI rfl hb rfl rfl zpv fun w2 hw2=>?_
  refine xw rfl (by rw [hw2];exact xk hb) rfl ?_
  rw [hg]
  exact⟨rfl,by rw [hw2];exact hx.set_own (.inl (Nat.le_refl _))⟩
 refine x9 ?_
 refine qg rfl ?_
 refine zc9 (fun h0=>none_way (by unfold zei;rw [if_neg];intro h;exact h.1 (List.eq_nil_of_length_eq_zero (by omega))) hx1 hb1) (fun h0=>?_)
 refine zl (zyn rfl (hL.ext hx1 (by simp)) hn hf (by omega)) ?_
 rintro e w4 ⟨rfl,hw4⟩
 subst w4
 refine⟨_,rfl,?_⟩
 refine zdk (fun h=>none_way (by unfold zei;rw [if_neg fun h2=>h h2.2]) hx1 hb1) (fun hok=>?_)
 have hqok:=zsm.1 hok
 have hne:q≠[]:=by rintro rfl;simp at hn;omega
 have hgl:zei L q=L.find? (fun i=>decide (i.names=q)):=by unfold zei;rw [if_pos ⟨hne,hok⟩]
 obtain⟨M,c,h1,h2,h3,h4⟩:=hU
 have hget:=zzt h3 h4 hqok
 rw [<-hgl] at hget
 have hval:((zi9 M (jd q)).map z1w).getD zI=.agg (zoh (zei L q)).toArray:=by rw [hget];cases zei L q <;> rfl
 have look:∀ {w:World},w.heap[m]?=some (.map (ents keyS (vl z1w M)) c)->(Instr.lookup qp (.map (some m)) (.string (strOf (jd q))) true).run P w=.ok (.tuple #[.agg (zoh (zei L q)).toArray,.bool (zei L q).isSome]) w:=by
  intro w hm
  have h:=zom z3p uM zMI rfl hm h3 (k:=jd q) trivial
  rw [hval,hget] at h
  exact h
 have hsmall:=hqok.small
 have fin:∀ {w:World},Ext [] H w.heap->w.heap[H.size]?=some (.cells (raw [] 0 false []).toArray zk (0,0))->∀ {b6:Nat},H.size<=b6->b6≠H.size->w.heap[b6]?=some (.cells (raw [] 0 false []).toArray zk (0,0)) ->
   jy P (storeVar zk (⟨b6,0,none⟩:Addr) (.agg (zoh (zei L q)).toArray)) w fun w_10=>ldA P 4 (⟨b6,0,none⟩:Addr) w_10 fun t31=>jy P (storeVar zk (⟨H.size,0,none⟩:Addr) (Value.agg t31)) w_10 fun w_11=>ldA P 4 (⟨H.size,0,none⟩:Addr) w_11 fun t4_3=>
   (Ending.returned (Value.tuple #[(Value.agg t4_3),(Value.bool (zei L q).isSome)])=.returned (.tuple #[.agg (zoh (zei L q)).toArray,.bool (zei L q).isSome])/\Ext [] H w_11.heap):=by
  intro w hx hb b6 hb6 hne6 h6
  refine stI rfl h6 rfl zj9 zm7 fun w2 hw2=>?_
  refine xw rfl (by rw [hw2];exact xk h6) (by simp [zj9]) ?_
  have hb2:w2.heap[H.size]?=some (.cells (raw [] 0 false []).toArray zk (0,0)):=by rw [hw2];exact zeh hb (Ne.symm hne6)
  refine stI rfl hb2 rfl zj9 zm7 fun w3 hw3=>?_
  refine xw rfl (by rw [hw3];exact xk hb2) (by simp [zj9]) ?_
  exact⟨rfl,by rw [hw3,hw2];exact (hx.set_own (.inl hb6)).set_own (.inl (Nat.le_refl _))⟩
 refine zaj rfl fun w7 hw7=>?_
 have hx17:Ext [] w1.heap w7.heap:=by rw [hw7];exact .refl _ _
 have hx07:=hx1.trans hx17
 simp only [qo,zan,Nat.zero_add]
 refine jh (s:=.map) (t:=some m) rfl (hx07.get h1 (by simp)) rfl ?_
 constructor
 ·refine zl (zg8 rfl (hL.ext hx07 (by simp)) hn hnc (by omega)) ?_
  rintro e w8 ⟨rfl,hx8⟩
  refine⟨strOf (jd q),rfl,?_⟩
  have hx08:=hx07.trans hx8
  refine⟨jh (s:=.map) (t:=some m) rfl (hx08.get h1 (by simp)) rfl rfl,?_⟩
  refine zb4 (l:=[.any,.bool]) (.agg (zoh (zei L q)).toArray,(zei L q).isSome) (look (hx08.get h2 (by simp))) ?_
  refine jg rfl fun w9 hw9=>?_
  have hx89:Ext [] w8.heap w9.heap:=by rw [hw9];exact .push _
  have hx09:=hx08.trans hx89
  refine⟨zb4 (l:=[.any,.bool]) (.agg (zoh (zei L q)).toArray,(zei L q).isSome) (look (hx09.get h2 (by simp))) rfl,?_⟩
  refine⟨jh (s:=.map) (t:=some m) rfl (hx09.get h1 (by simp)) rfl rfl,?_⟩
  exact fin hx09 ((hx17.trans (hx8.trans hx89)).get hb1 (by simp)) (by have:=hx08.1;omega) (by have:=lt_of_get hb1;have:=(hx17.trans hx8).1;omega) (by rw [hw9];exact zn)
 ·refine jg rfl fun w12 hw12=>?_
  have hx712:Ext [] w7.heap w12.heap:=by rw [hw12];exact .push _
  have hx012:=hx07.trans hx712
  refine⟨jh (s:=.map) (t:=some m) rfl (hx012.get h1 (by simp)) rfl rfl,?_⟩
  refine zl (zg8 rfl (hL.ext hx012 (by simp)) hn hnc (by omega)) ?_
  rintro e w13 ⟨rfl,hx13⟩
  refine⟨strOf (jd q),rfl,?_⟩
  have hx013:=hx012.trans hx13
  refine⟨jh (s:=.map) (t:=some m) rfl (hx013.get h1 (by simp)) rfl rfl,?_⟩
  refine zb4 (l:=[.any,.bool]) (.agg (zoh (zei L q)).toArray,(zei L q).isSome) (look (hx013.get h2 (by simp))) ?_
  exact fin hx013 ((hx17.trans (hx712.trans hx13)).get hb1 (by simp)) (by have:=hx07.1;omega) (by have:=lt_of_get hb1;have:=hx17.1;omega) (hx13.get (by rw [hw12];exact zn) (by simp))
theorem ix1 {s:Sh}{w:World}{H:Heap}{a:Option Addr}{len i:Nat}{n:Int}{vs:List Value}{t:s.T}(hw:w.heap=H) (hL:Cells H a vs) (hlen:len=vs.length) (hi:vs[i]?=some (s.val t)) (hn:n=(i:Int)){K:s.T->Prop}(hK:K t) :
  ixS a len 1 n fun p=>ld s p w K:=by
 have hlt:=(List.getElem?_eq_some_iff.1 hi).1
 rcases hL with h | ⟨b,o,c,T,fr,rfl,hb,hsz,hc⟩
 ·subst h;simp at hlt
 ·refine zx0 i hn (by omega) ?_
  refine jh (s:=s) hw hb ?_ hK
  rw [<-hc,Array.getElem?_toList,Array.getElem?_extract] at hi
  split at hi
  ·exact hi
  ·cases hi
theorem z3r {w:World}{H:Heap}{st e:TypeId}{sz bts:Nat}{v:Value}{us:List Value}(E:Elem P e sz bts) (hu:P.underlying st=some (.slice e)) (hv:v.cells=us.toArray) (hl:us.length=sz) (h0:0 < sz) (h1:sz<=16777216) (hw:w.heap=H){K:(Option Addr×Nat×Nat)->World->Prop}
  (hK:∀ w',Cells w'.heap (some ⟨H.size,0,none⟩) us->Ext [] H w'.heap->w'.heap.size=H.size+1->K (some ⟨H.size,0,none⟩,1,1) w'):zde P (Instr.buildSlice st 1 #[(0,v)]) .slc w K:=by
 subst hw
 refine zbg (s:=.slc) (some ⟨w.heap.size,0,none⟩,1,1) _ (zke E hu (v:=v) (by rw [hv];simpa using hl) h0 h1) ?_
 rw [hv]
 exact hK _ (.inr ⟨w.heap.size,0,_,_,_,rfl,zn,by simp,by simp⟩) (.push _) (by simp)
structure Sn where
 file:Fil
 dirs:List Nat
 up:Bool
def zh5:Fil:=⟨[],false,[]⟩
def sn0:Sn:=⟨zh5,[],false⟩
def snC (s:Sn) (x:Option Addr×Nat×Nat):List Value:=[.string (strOf s.file.path),.bool s.file.dir,.string (strOf s.file.data),zhq x,.bool s.up]
theorem zyk {s:Sn}{x:Option Addr×Nat×Nat}:zbf (snC s x):=by
 intro v hv
 simp only [snC,zhq,List.mem_cons,List.not_mem_nil,or_false] at hv
 rcases hv with rfl | rfl | rfl | rfl | rfl <;> rfl
theorem z1v:zc P zh=(snC sn0 (none,0,0)).toArray:=by kernel_rfl
theorem z8y:P.cellsOf zh=5:=by kernel_rfl
theorem zyo {w:World}{H:Heap}(s:Sn) (x:Option Addr×Nat×Nat) (hw:w.heap=H){K:Nat->World->Prop}(hK:∀ w',w'.heap=H.push (.cells (snC s x).toArray zh (0,0))->K H.size w') :
  zam (zc P zh) zh w fun b w1=>jy P (storeVar zh (⟨b,0,none⟩:Addr) (.agg (snC s x).toArray)) w1 fun w2=>K b w2:=
 zqr (v:=.agg (snC s x).toArray) z8y (by rw [z1v];rfl) (by simp [Value.cells,snC]) (by simpa [Value.cells] using zyk) hw hK
theorem z1m {w:World}{H:Heap}{b:Nat}{c:Array Value}{s:Sn}{x:Option Addr×Nat×Nat}{K:World->Prop}(hw:w.heap=H) (hb:H[b]?=some (.cells c zh (0,0))) (hc:c.size=5) (hK:∀ w',w'.heap=H.setIfInBounds b (.cells (snC s x).toArray zh (0,0))->K w') :
  jy P (storeVar zh (⟨b,0,none⟩:Addr) (.agg (snC s x).toArray)) w K:=by
 refine zb0 (v:=.agg (snC s x).toArray) (by rw [z8y];rfl) (by simp [Value.cells,snC]) (by simpa [Value.cells] using zyk) hw hb (by simp [Value.cells,snC,hc]) fun w' hw'=>hK w' ?_
 rw [hw',show (Value.agg (snC s x).toArray).cells.toList=snC s x from rfl,zb3 (by rw [hc];rfl)]
def zlj (Ly:List Fil) (p:List UInt8):Option Fil:=Ly.find? fun f=>f.path=p
def zbd (ls:List (List Fil)) (p:List UInt8):List Nat->Sn->Sn
 | [],s=>s
 | i :: is,s=>match zlj (ls.getD i []) p with
  | none=>zbd ls p is s
  | some f=>if f.dir then zbd ls p is ⟨f,s.dirs++[i],s.up⟩ else if s.dirs=[] then ⟨f,s.dirs,s.up⟩ else s
def z3h (f:Fil):Value:=.agg (zg5 f).toArray
def z5c (H:Heap) (m:Nat) (Ly:List Fil):Prop:=∃ (M:ML (List UInt8) Fil) (c:Nat),H[m]?=some (.map (ents keyS (vl z3h M)) c)/\MOk (fun _=>True) M c/\(M.map (·.2.1)).Perm Ly/\∀ x∈M,x.1=x.2.1.path
def z5e (m:Nat):Value:=.map (some m)
def zx4 (H:Heap) (u:Nat) (pu:Value) (ls:List (List Fil)):Prop:=∃ (x:Option Addr×Nat×Nat) (ms:List Nat),H[u]?=some (.cells #[zhq x,pu] zdu (0,0))/\Cells H x.1 (ms.map z5e)/\x.2.1=ms.length/\ms.length=ls.length/\∀ i m,ms[i]?=some m->z5c H m (ls.getD i [])
theorem z5c.ext {H H':Heap}{m:Nat}{Ly:List Fil}{fp:List Nat}(h:z5c H m Ly) (hx:Ext fp H H') (hm:m∉fp):z5c H' m Ly:=by
 obtain⟨M,c,h1,h2⟩:=h
 exact⟨M,c,hx.get h1 hm,h2⟩
theorem zx4.ext {H H':Heap}{u:Nat}{pu:Value}{ls:List (List Fil)}(h:zx4 H u pu ls) (hx:Ext [] H H'):zx4 H' u pu ls:=by
 obtain⟨x,ms,h1,h2,h3,h4,h5⟩:=h
 exact⟨x,ms,hx.get h1 (by simp),h2.ext hx (by simp),h3,h4,fun i m hi=>(h5 i m hi).ext hx (by simp)⟩
theorem zma {M:ML (List UInt8) Fil}{c:Nat}{Ly:List Fil}(hM:MOk (fun _=>True) M c) (hp:(M.map (·.2.1)).Perm Ly) (hk:∀ x∈M,x.1=x.2.1.path) (p:List UInt8):zi9 M p=zlj Ly p:=by
 cases hg:zi9 M p with
 | none=>
  symm
  refine List.find?_eq_none.2 fun f hf=>?_
  obtain⟨x,hx,rfl⟩:=List.mem_map.1 (hp.mem_iff.2 hf)
  have:=zmd hg x hx
  rw [hk x hx] at this
  simpa using this
 | some f=>
  obtain⟨c',hm⟩:=zm5 hg
  have hf:f∈Ly:=hp.mem_iff.1 (List.mem_map.2 ⟨_,hm,rfl⟩)
  have hpf:p=f.path:=hk _ hm
  symm
  unfold zlj
  cases hl:Ly.find? (fun f=>f.path=p) with
  | none=>exact absurd hpf.symm (by simpa using List.find?_eq_none.1 hl f hf)
  | some g=>
   have h1:=List.mem_of_find?_eq_some hl
   have h2:g.path=p:=by simpa using List.find?_some hl
   obtain⟨x,hx,rfl⟩:=List.mem_map.1 (hp.mem_iff.2 h1)
   have:=key_inj hM hx hm (by rw [hk x hx,h2])
   rw [this]
theorem z8x {L M:List UInt8}:((strOf L).toList==(strOf M).toList)=decide (L=M):=by
 rw [Bool.eq_iff_iff,zyz,decide_eq_true_iff]
theorem uLm:P.underlying zdx=some (.map qy qj):=by kernel_rfl
theorem zMF (w:World):(zeroValue qj).run P w=.ok (z3h zh5) w:=by kernel_rfl
theorem uSi:P.underlying zik=some (.slice zai):=by kernel_rfl
theorem Ei:Elem P zai 1 8:=znw (z:=.int .i64 0) (by kernel_rfl) rfl
def intRow (ds:List Nat):List Value:=ds.map fun (i:Nat)=>.int .i64 (i:Int)
theorem len_intRow {ds:List Nat}:(intRow ds).length=ds.length:=by simp [intRow]
theorem z6u {w:World}{H:Heap}{m:Nat}{Ly:List Fil}(hw:w.heap=H) (hm:z5c H m Ly) (p:List UInt8) :
  (Instr.lookup zdx (.map (some m)) (.string (strOf p)) true).run P w=.ok (.tuple #[z3h ((zlj Ly p).getD zh5),.bool (zlj Ly p).isSome]) w:=by
 obtain⟨M,c,h1,h2,h3,h4⟩:=hm
 have:=zom (ev:=z3h) z3p uLm zMF hw h1 h2 (k:=p) trivial
 rw [zma h2 h3 h4 p] at this
 rw [show (Value.string (strOf p))=keyS p from rfl,this]
 cases zlj Ly p <;> rfl
theorem z8z {w:World}{H:Heap}{b:Nat}{s:Sn}{y:Option Addr×Nat×Nat}(f:Fil){K:World->Prop}(hw:w.heap=H) (hb:H[b]?=some (.cells (snC s y).toArray zh (0,0))) (hK:∀ w',w'.heap=H.setIfInBounds b (.cells (snC ⟨f,s.dirs,s.up⟩ y).toArray zh (0,0))->K w') :
  jy P (storeVar qj (⟨b,0,none⟩:Addr) (.agg (zg5 f).toArray)) w K:=by
 refine zb0 (v:=.agg (zg5 f).toArray) (by rw [szF];rfl) (by simp [Value.cells,zg5]) (by simpa [Value.cells] using zoj) hw hb (by simp [Value.cells,snC,zg5]) fun w' hw'=>hK w' ?_
 rw [hw'];rfl
set_option maxHeartbeats 4000000 in
theorem zwg {w:World}{H:Heap}{u n nc:Nat}{pu:Value}{ls:List (List Fil)}{a:Option Addr}{ds:List Nat}(p:List UInt8) (hw:w.heap=H) (hU:zx4 H u pu ls) (hD:Cells H a (intRow ds)) (hn:n=ds.length) (hds:∀ i∈ds,i < ls.length) (hm:ds.length<=1000000) :
  zx P zcq #[.pointer (some ⟨u,0,none⟩),.slice a n nc,.string (strOf p)] w fun e w'=>∃ y,e=.returned (.tuple #[.agg (snC (zbd ls p ds sn0) y).toArray,.bool (!decide ((zbd ls p ds sn0).file.path=[]))])/\Mine w'.heap H.size zai 1 y (intRow (zbd ls p ds sn0).dirs)/\Ext [] H w'.heap:=by
 refine zkp ?_
 unfold zgp
 refine jg hw fun w1 hw1=>?_
 refine jg rfl fun w2 hw2=>?_
 have hx2:Ext [] H w2.heap:=by rw [hw2,hw1];exact (Ext.push _).push_own
 have h6:w2.heap[H.size]?=some (.cells (snC sn0 (none,0,0)).toArray zh (0,0)):=by rw [hw2,hw1];exact zac (by rw [z1v];exact zn)
 have e1:w1.heap.size=H.size+1:=by rw [hw1];simp
 have h8:w2.heap[H.size+1]?=some (.cells (snC sn0 (none,0,0)).toArray zh (0,0)):=by rw [hw2,<-e1,z1v];exact zn
 rw [e1]
 let St:=fun (st:Sn) (y:Option Addr×Nat×Nat) (w':World)=>w'.heap[H.size]?=some (.cells (snC sn0 (none,0,0)).toArray zh (0,0))/\w'.heap[H.size+1]?=some (.cells (snC st y).toArray zh (0,0))/\Mine w'.heap (H.size+2) zai 1 y (intRow st.dirs)/\Ext [] H w'.heap
 refine ku (fun _ w'=>∃ y,St (zbd ls p ds sn0) y w') ?_ ?_
 ·refine x9 ?_
  refine za3 (fun k s w'=>∃ (i:Nat) (st:Sn) (y:Option Addr×Nat×Nat),s=(i:Int)/\k+i=ds.length/\st.dirs.length<=i/\zbd ls p (ds.drop i) st=zbd ls p ds sn0/\St st y w') ds.length ⟨0,sn0,(none,0,0),rfl,rfl,by simp [sn0],rfl,h6,h8,.inl ⟨rfl,rfl⟩,hx2⟩ ?_
  rintro k s w3 ⟨i,st,y,rfl,hk,hdl,he,g6,g8,hY,hx3⟩ K hK
  refine qm (fun h=>?_) (fun h=>?_)
  ·have hi:i < ds.length:=by omega
   have hdrop:ds.drop i=ds[i] :: ds.drop (i+1):=List.drop_eq_getElem_cons hi
   have hU3:=hU.ext hx3
   obtain⟨x,ms,u1,u2,u3,u4,u5⟩:=hU3
   have hdi:=hds _ (List.getElem_mem hi)
   obtain⟨m,hmi⟩:∃ m,ms[ds[i]]?=some m:=⟨ms[ds[i]]'(by omega),by simp⟩
   refine ku (fun _ w'=>∃ (st':Sn) (y':Option Addr×Nat×Nat),st'.dirs.length<=i+1/\zbd ls p (ds.drop (i+1)) st'=zbd ls p ds sn0/\St st' y' w') ?_ ?_
   ·refine x9 ?_
    refine ix1 (s:=.int .i64) (t:=(ds[i]:Int)) (i:=i) rfl (hD.ext hx3 (by simp)) (by rw [len_intRow,hn]) (by simp [intRow,hi];rfl) rfl ?_
    simp only [qo]
    refine jh (s:=.slc) (t:=x) rfl u1 rfl ?_
    refine ix1 (s:=.map) (t:=some m) (i:=ds[i]) rfl u2 (by simp [u3]) (by simp [hmi,z5e];rfl) rfl ?_
    refine zb4 (l:=[.any,.bool]) (z3h ((zlj (ls.getD ds[i] []) p).getD zh5),(zlj (ls.getD ds[i] []) p).isSome) (z6u rfl (u5 _ _ hmi) p) ?_
    refine z6t _ rfl fun w4 hw4=>?_
    have hx4:Ext [] w3.heap w4.heap:=by rw [hw4];exact .push _
    have b11:w4.heap[w3.heap.size]?=some (.cells (zg5 ((zlj (ls.getD ds[i] []) p).getD zh5)).toArray qj (0,0)):=by rw [hw4];exact zn
    have g64:=hx4.get g6 (by simp)
    have g84:=hx4.get g8 (by simp)
    have hY4:=hY.ext hx4 (by simp)
    have hx04:=hx3.trans hx4
    cases hg:zlj (ls.getD ds[i] []) p with
    | none=>
     refine jc rfl ?_
     refine⟨st,y,by omega,?_,g64,g84,hY4,hx04⟩
     rw [<-he,hdrop,zbd,hg]
    | some f=>
     refine qg rfl ?_
     rw [hg,Option.getD_some] at b11
     refine jh (s:=.bool) (t:=f.dir) rfl b11 rfl ?_
     cases hd:f.dir with
     | false=>
      refine jc rfl ?_
      refine ku (fun _ w'=>∃ y,St (zbd ls p ds sn0) y w') ?_ (fun _ _ h=>h)
      have hres:(if st.dirs=[] then ⟨f,st.dirs,st.up⟩ else st)=zbd ls p ds sn0:=by rw [<-he,hdrop,zbd,hg];simp [hd]
      have hyl:=hY4.len
      rw [len_intRow] at hyl
      refine jh (s:=.slc) (t:=y) rfl g84 rfl ?_
      refine zc9 (fun h0=>?_) (fun h0=>?_)
      ·have h00:st.dirs=[]:=List.eq_nil_of_length_eq_zero (by omega)
       refine xw rfl b11 rfl ?_
       refine z8z f rfl g84 fun w5 hw5=>?_
       rw [if_pos h00] at hres
       rw [<-hres]
       refine⟨y,by rw [hw5];exact zeh g64 (by omega),by rw [hw5];exact xk g84,?_,by rw [hw5];exact hx04.set_own (.inl (by omega))⟩
       exact hY4.ext (M:=[H.size+1]) (by rw [hw5];exact Ext.set _ (by simp)) (fun b hb hbm=>by have:=zak hY4 b hb;simp at hbm;omega)
      ·rw [if_neg (fun h=>h0 (by rw [h] at hyl;simp at hyl;omega))] at hres
       rw [<-hres]
       exact⟨y,g64,g84,hY4,hx04⟩
     | true=>
      refine qg rfl ?_
      refine zaj rfl fun w5 hw5=>?_
      rw [<-hw5] at b11 g64 g84 hY4 hx04
      refine xw rfl b11 rfl ?_
      refine jh (s:=.slc) (t:=y) rfl g84 rfl ?_
      refine z3r (us:=[.int .i64 (ds[i]:Int)]) Ei uSi rfl rfl (by omega) (by omega) rfl fun w6 hc6 hx6 hs6=>?_
      refine⟨jh (s:=.slc) (t:=y) rfl (hx6.get g84 (by simp)) rfl rfl,xw rfl (hx6.get b11 (by simp)) rfl rfl,?_⟩
      have hlt:=lt_of_get g84
      have hyl:=hY4.len
      rw [len_intRow] at hyl
      have hyb:∀ b∈zbu y,H.size+2<=b:=zak hY4
      refine zdr Ei (by omega) uSi (zbs uSi) rfl (hY4.ext hx6 (by simp)) (by omega) (Src.slc rfl hc6 rfl) (by intro v hv;simp at hv;subst hv;rfl) (by omega) fun y' w7 hm7 hl7 hx7 hs7=>?_
      have hby:w3.heap.size∉zbu y:=fun h=>by have:=(zjz hY _ h).1;omega
      have b117:=hx7.get (hx6.get b11 (by simp)) hby
      refine⟨xw rfl b117 rfl rfl,?_⟩
      have g87:=hx7.get (hx6.get g84 (by simp)) (fun h=>by have:=hyb _ h;omega)
      have g67:=hx7.get (hx6.get g64 (by simp)) (fun h=>by have:=hyb _ h;omega)
      refine z8z f rfl g87 fun w8 hw8=>?_
      have g88:w8.heap[H.size+1]?=some (.cells (snC ⟨f,st.dirs,st.up⟩ y).toArray zh (0,0)):=by rw [hw8];exact xk g87
      refine zdj rfl g88 (by simp [snC]) fun w9 hw9=>?_
      have hx9:Ext [] H w9.heap:=by
       have h1:Ext [] H w7.heap:=(hx04.trans hx6).own hx7 (fun b hb hlt'=>by have:=hyb b hb;omega)
       rw [hw9,hw8];exact (h1.set_own (.inl (by omega))).set_own (.inl (by omega))
      have hx79:Ext [H.size+1] w7.heap w9.heap:=by rw [hw9,hw8];exact (Ext.set _ (by simp)).trans (Ext.set _ (by simp))
      refine⟨⟨f,st.dirs++[ds[i]],st.up⟩,y',by simp;omega,?_,hx79.get g67 (by simp),by rw [hw9];exact xk g88,?_,hx9⟩
      ·rw [<-he,hdrop,zbd,hg];simp [hd]
      ·have:intRow (st.dirs++[ds[i]])=intRow st.dirs++[.int .i64 (ds[i]:Int)]:=by simp [intRow]
       show Mine _ _ _ _ _ (intRow (st.dirs++[ds[i]]))
       rw [this]
       refine hm7.ext hx79 (fun b hb hbm=>?_)
       simp at hbm
       have:=zak hm7 b hb
       omega
   ·rintro _ w5 ⟨st',y',h1,h2,h3⟩
    refine zas ((i+1:Nat):Int) (by omega) (by omega) (by omega) ?_
    exact hK (k-1) _ _ (by omega) ⟨i+1,st',y',rfl,by omega,h1,h2,h3⟩
  ·have:i=ds.length:=by omega
   subst this
   rw [List.drop_length,zbd] at he
   exact⟨y,he▸⟨g6,g8,hY,hx3⟩⟩
 ·rintro _ w3 ⟨y,g6,g8,hY,hx3⟩
  refine zaj rfl fun w4 hw4=>?_
  rw [<-hw4] at g6 g8 hY hx3
  refine xw rfl g8 rfl ?_
  refine jh (s:=.str) (t:=strOf (zbd ls p ds sn0).file.path) rfl g8 rfl ?_
  refine z1m (s:=zbd ls p ds sn0) (x:=y) rfl g6 rfl fun w5 hw5=>?_
  have g85:w5.heap[H.size+1]?=some (.cells (snC (zbd ls p ds sn0) y).toArray zh (0,0)):=by rw [hw5];exact zeh g8 (by omega)
  have g65:w5.heap[H.size]?=some (.cells (snC (zbd ls p ds sn0) y).toArray zh (0,0)):=by rw [hw5];exact xk g6
  refine⟨jh (s:=.str) (t:=strOf (zbd ls p ds sn0).file.path) rfl g85 rfl rfl,?_⟩
  refine xw rfl g65 rfl ?_
  refine⟨y,?_,?_,by rw [hw5];exact hx3.set_own (.inl (by omega))⟩
  ·rw [show (ByteArray.mk #[]).toList=(strOf []).toList from rfl,z8x]
  ·exact (hY.ext (M:=[H.size]) (by rw [hw5];exact Ext.set _ (by simp)) (fun b hb hbm=>by have:=zak hY b hb;simp at hbm;omega)).mono (by omega)
def upP (p:Nat):Value:=.pointer (some ⟨p,0,none⟩)
def zid (H:Heap) (u p m:Nat) (nn bb:Int) (ls:List (List Fil)) (L:List Ino):Prop:=zx4 H u (upP p) ls/\Up H p m nn bb L
theorem zid.ext {H H':Heap}{u p m:Nat}{nn bb:Int}{ls:List (List Fil)}{L:List Ino}(h:zid H u p m nn bb ls L) (hx:Ext [] H H'):zid H' u p m nn bb ls L:=⟨h.1.ext hx,h.2.ext hx (by simp) (by simp)⟩
def ze1 (ls:List (List Fil)) (L:List Ino) (d:Sn) (q:Path):Sn×Bool:=
 if d.up=true then match zei L q with
  | none=>(zbd ls (jd q) d.dirs sn0,!decide ((zbd ls (jd q) d.dirs sn0).file.path=[]))
  | some i=>if i.kind=3 then (sn0,false) else if i.kind=1 then (⟨⟨jd q,false,i.data⟩,[],false⟩,true)
   else (⟨⟨jd q,true,[]⟩,if i.opq=true\/(zbd ls (jd q) d.dirs sn0).file.dir=false then [] else (zbd ls (jd q) d.dirs sn0).dirs,true⟩,true)
 else (zbd ls (jd q) d.dirs sn0,!decide ((zbd ls (jd q) d.dirs sn0).file.path=[]))
theorem zlm {ls:List (List Fil)}{p:List UInt8}:∀ (ds:List Nat) (s:Sn),(zbd ls p ds s).dirs.length<=s.dirs.length+ds.length/\∀ i∈(zbd ls p ds s).dirs,i∈s.dirs\/i∈ds
 | [],s=>by simp [zbd]
 | d :: ds,s=>by
  unfold zbd
  split
  ·have:=zlm (ls:=ls) (p:=p) ds s
   exact⟨by simp;omega,fun i hi=>(this.2 i hi).imp id (by simp;exact fun h=>.inr h)⟩
  ·rename_i f _
   split
   ·have:=zlm (ls:=ls) (p:=p) ds ⟨f,s.dirs++[d],s.up⟩
    simp only [List.length_append,List.length_cons,List.length_nil,List.mem_append,List.mem_cons,List.not_mem_nil,or_false] at this |-
    refine⟨by omega,fun i hi=>?_⟩
    rcases this.2 i hi with (h | h) | h
    ·exact .inl h
    ·exact .inr (.inl h)
    ·exact .inr (.inr h)
   ·split
    ·exact⟨by simp,fun i hi=>.inl hi⟩
    ·exact⟨by simp,fun i hi=>.inl hi⟩
theorem z6v {w:World}{H:Heap}(o:Option Ino) (hw:w.heap=H){K:Nat->World->Prop}(hK:∀ w',w'.heap=H.push (.cells (zoh o).toArray zk (0,0))->K H.size w') :
  zam (zc P zk) zk w fun b w1=>jy P (storeVar zk (⟨b,0,none⟩:Addr) (.agg (zoh o).toArray)) w1 fun w2=>K b w2:=
 zqr (v:=.agg (zoh o).toArray) (by rw [szI];cases o <;> rfl) (by rw [zcI];cases o <;> rfl) (by cases o <;> simp [Value.cells,zoh,raw,encI]) (by simpa [Value.cells] using zm7) hw hK
theorem z9b (w:World):(Instr.build zh #[]).run P w=.ok (.agg (snC sn0 (none,0,0)).toArray) w:=by kernel_rfl
theorem z9r (a c:ByteArray) (b:Bool) (w:World):(Instr.build zh #[(0,.agg #[.string a,.bool b,.string c])]).run P w=.ok (.agg #[.string a,.bool b,.string c,.slice none 0 0,.bool false]) w:=by kernel_rfl
theorem z9v (a c:ByteArray) (b u:Bool) (x:Option Addr) (l k:Nat) (w:World):(Instr.build zh #[(0,.agg #[.string a,.bool b,.string c]),(1,.slice x l k),(2,.bool u)]).run P w=.ok (.agg #[.string a,.bool b,.string c,.slice x l k,.bool u]) w:=by kernel_rfl
theorem qaf (a d:ByteArray) (w:World):(Instr.build qj #[(0,.string a),(2,.string d)]).run P w=.ok (.agg #[.string a,.bool false,.string d]) w:=by kernel_rfl
theorem z8l (a:ByteArray) (w:World):(Instr.build qj #[(0,.string a),(1,.bool true)]).run P w=.ok (.agg #[.string a,.bool true,.string (strOf [])]) w:=by kernel_rfl
set_option maxHeartbeats 4000000 in
theorem zu6 {w:World}{H:Heap}{u p m n nc:Nat}{nn bb:Int}{ls:List (List Fil)}{L:List Ino}{a:Option Addr}{q:Path}{d:Sn}{x:Option Addr×Nat×Nat}(hw:w.heap=H) (hU:zid H u p m nn bb ls L)
  (hD:Cells H x.1 (intRow d.dirs)) (hxl:x.2.1=d.dirs.length) (hds:∀ i∈d.dirs,i < ls.length) (hm:d.dirs.length<=1000000) (hL:Cells H a (strRow q)) (hn:n=q.length) (hnc:n<=nc) (hq:okP q) :
  zx P zb1 #[.pointer (some ⟨u,0,none⟩),.agg (snC d x).toArray,.slice a n nc] w fun e w'=>∃ y,e=.returned (.tuple #[.agg (snC (ze1 ls L d q).1 y).toArray,.bool (ze1 ls L d q).2])/\Mine w'.heap H.size zai 1 y (intRow (ze1 ls L d q).1.dirs)/\Ext [] H w'.heap:=by
 refine zli ?_
 unfold zhc
 refine jg hw fun w1 hw1=>?_
 have h4:w1.heap[H.size]?=some (.cells (snC d x).toArray zh (0,0)):=by rw [hw1];exact zn
 refine jg rfl fun w2 hw2=>?_
 have e1:w1.heap.size=H.size+1:=by rw [hw1];simp
 have h6:w2.heap[H.size+1]?=some (.cells (snC sn0 (none,0,0)).toArray zh (0,0)):=by rw [hw2,<-e1,z1v];exact zn
 have h42:w2.heap[H.size]?=some (.cells (snC d x).toArray zh (0,0)):=by rw [hw2];exact zac h4
 have hx2:Ext [] H w2.heap:=by rw [hw2,hw1];exact (Ext.push _).push_own
 rw [e1]
 refine zl (zg8 rfl (hL.ext hx2 (by simp)) hn hnc (by have:=hq.small;omega)) ?_
 rintro e w3 ⟨rfl,hx3⟩
 refine⟨_,rfl,?_⟩
 have hx03:=hx2.trans hx3
 refine jh (s:=.slc) (t:=x) rfl (hx3.get h42 (by simp)) rfl ?_
 refine zl (zwg (jd q) rfl (hU.1.ext hx03) (hD.ext hx03 (by simp)) hxl hds hm) ?_
 rintro e w4 ⟨y,rfl,hY,hx4⟩
 refine⟨(_,_),rfl,?_⟩
 obtain⟨s,hs⟩:∃ s,s=zbd ls (jd q) d.dirs sn0:=⟨_,rfl⟩
 rw [<-hs] at hY |-
 have h3s:H.size+2<=w3.heap.size:=by have:=lt_of_get h6;have:=hx3.1;omega
 have hx04:=hx03.trans hx4
 refine zyo s y rfl fun w5 hw5=>?_
 have h9:w5.heap[w4.heap.size]?=some (.cells (snC s y).toArray zh (0,0)):=by rw [hw5];exact zn
 have hx5:Ext [] w4.heap w5.heap:=by rw [hw5];exact .push _
 have hx25:=(hx3.trans hx4).trans hx5
 have hx05:=hx04.trans hx5
 have hY5:=hY.ext hx5 (by simp)
 have h65:=hx25.get h6 (by simp)
 have h4s:H.size+2<=w4.heap.size:=by have:=hx4.1;omega
 refine jh (s:=.bool) (t:=d.up) rfl (hx25.get h42 (by simp)) rfl ?_
 have fin:∀ {W:World}(s':Sn) (y':Option Addr×Nat×Nat) (o:Bool),ze1 ls L d q=(s',o)->W.heap[H.size+1]?=some (.cells (snC sn0 (none,0,0)).toArray zh (0,0))->Ext [] H W.heap->Mine W.heap (H.size+2) zai 1 y' (intRow s'.dirs) ->
   jy P (storeVar zh (⟨H.size+1,0,none⟩:Addr) (.agg (snC s' y').toArray)) W fun w_7=>ldA P 5 (⟨H.size+1,0,none⟩:Addr) w_7 fun t6=>∃ y,Ending.returned (.tuple #[.agg t6,.bool o])=.returned (.tuple #[.agg (snC (ze1 ls L d q).1 y).toArray,.bool (ze1 ls L d q).2])/\Mine w_7.heap H.size zai 1 y (intRow (ze1 ls L d q).1.dirs)/\Ext [] H w_7.heap:=by
  intro W s' y' o ho h6 hx hY
  refine z1m rfl h6 rfl fun w7 hw7=>?_
  refine xw rfl (by rw [hw7];exact xk h6) rfl ?_
  rw [ho]
  refine⟨y',rfl,(hY.ext (M:=[H.size+1]) (by rw [hw7];exact Ext.set _ (by simp)) (fun b hb hbm=>by have:=zak hY b hb;simp at hbm;omega)).mono (by omega),by rw [hw7];exact hx.set_own (.inl (by omega))⟩
 cases hup:d.up with
 | false=>
  refine jc rfl ?_
  refine xw rfl h9 rfl ?_
  exact fin s y _ (by unfold ze1;rw [hup,<-hs];rfl) h65 hx05 (hY5.mono h3s)
 | true=>
  refine qg rfl ?_
  simp only [qo,Addr.add,Nat.zero_add,Option.map_none]
  obtain⟨xl,ms,u1,u2⟩:=(hU.1.ext hx05)
  refine jh (s:=.ptr) (t:=some ⟨p,0,none⟩) rfl u1 rfl ?_
  refine zl (z4a rfl (hU.2.ext hx05 (by simp) (by simp)) (hL.ext hx05 (by simp)) hn hnc hq.fit (by have:=hq.2;omega)) ?_
  rintro e w6 ⟨rfl,hx6⟩
  refine⟨(_,_),rfl,?_⟩
  refine z6v _ rfl fun w7 hw7=>?_
  have hx7:Ext [] w6.heap w7.heap:=by rw [hw7];exact .push _
  have h11:w7.heap[w6.heap.size]?=some (.cells (zoh (zei L q)).toArray zk (0,0)):=by rw [hw7];exact zn
  have hx57:=hx6.trans hx7
  have hx07:=hx05.trans hx57
  have hY7:=(hY5.ext hx57 (by simp)).mono h3s
  have h67:=hx57.get h65 (by simp)
  have h97:=hx57.get h9 (by simp)
  cases hg:zei L q with
  | none=>
   refine x9 ?_
   refine x9 ?_
   refine jc rfl ?_
   refine xw rfl h97 rfl ?_
   exact fin s y _ (by unfold ze1;rw [hup,hg,<-hs];rfl) h67 hx07 hY7
  | some i=>
   rw [hg] at h11
   have ho:ze1 ls L d q=if i.kind=3 then (sn0,false) else if i.kind=1 then (⟨⟨jd q,false,i.data⟩,[],false⟩,true) else (⟨⟨jd q,true,[]⟩,if i.opq=true\/s.file.dir=false then [] else s.dirs,true⟩,true):=by
    unfold ze1;rw [hup,hg,<-hs];rfl
   refine ku (fun _ w'=>∃ y',i.kind≠3/\i.kind≠1/\w'.heap[H.size+1]?=some (.cells (snC sn0 (none,0,0)).toArray zh (0,0))/\Ext [] H w'.heap/\w'.heap[w4.heap.size]?=some (.cells (snC s y').toArray zh (0,0)) /\
    Mine w'.heap (H.size+2) zai 1 y' (intRow (if i.opq=true\/s.file.dir=false then [] else s.dirs))) ?_ ?_
   ·refine x9 ?_
    refine qg rfl ?_
    refine jh (s:=.int .i64) (t:=i.kind) rfl h11 rfl ?_
    refine zc9 (fun h3=>?_) (fun h3=>?_)
    ·refine qw (s:=.any) _ (z9b _) ?_
     exact fin sn0 (none,0,0) false (by rw [ho,if_pos h3]) h67 hx07 (.inl ⟨rfl,rfl⟩)
    refine jh (s:=.int .i64) (t:=i.kind) rfl h11 rfl ?_
    refine zc9 (fun h1=>?_) (fun h1=>?_)
    ·refine jh (s:=.str) (t:=strOf i.data) rfl h11 rfl ?_
     refine qw (s:=.any) _ (qaf _ _ _) ?_
     refine qw (s:=.any) _ (z9r _ _ _ _) ?_
     exact fin ⟨⟨jd q,false,i.data⟩,[],false⟩ (none,0,0) true (by rw [ho,if_neg h3,if_pos h1]) h67 hx07 (.inl ⟨rfl,rfl⟩)
    have cut:∀ {W:World},W.heap=w7.heap->(i.opq=true\/s.file.dir=false)->stC (⟨w4.heap.size,3,none⟩:Addr) (.slice none 0 0) W fun w'=>∃ y',i.kind≠3/\i.kind≠1/\w'.heap[H.size+1]?=some (.cells (snC sn0 (none,0,0)).toArray zh (0,0))/\Ext [] H w'.heap/\w'.heap[w4.heap.size]?=some (.cells (snC s y').toArray zh (0,0)) /\
      Mine w'.heap (H.size+2) zai 1 y' (intRow (if i.opq=true\/s.file.dir=false then [] else s.dirs)):=by
     intro W hW hc
     refine zdj hW h97 (by simp [snC]) fun w8 hw8=>?_
     rw [if_pos hc]
     exact⟨(none,0,0),h3,h1,by rw [hw8];exact zeh h67 (by omega),by rw [hw8];exact hx07.set_own (.inl (by omega)),by rw [hw8];exact xk h97,.inl ⟨rfl,rfl⟩⟩
    refine jh (s:=.bool) (t:=i.opq) rfl h11 rfl ?_
    refine za8 (p:=i.opq=true) Iff.rfl (fun hoq=>cut rfl (.inl hoq)) (fun hoq=>?_)
    refine jh (s:=.bool) (t:=s.file.dir) rfl h97 rfl ?_
    refine za8 (p:=s.file.dir=false) (by simp) (fun hdd=>cut rfl (.inr hdd)) (fun hdd=>?_)
    exact⟨y,h3,h1,h67,hx07,h97,by rw [if_neg (by simp [hoq,hdd])];exact hY7⟩
   ·rintro _ w8 ⟨y',h3,h1,h68,hx08,h98,hY8⟩
    refine qw (s:=.any) _ (z8l _ _) ?_
    refine jh (s:=.slc) (t:=y') rfl h98 rfl ?_
    refine qw (s:=.any) _ (z9v _ _ _ _ _ _ _ _) ?_
    exact fin ⟨⟨jd q,true,[]⟩,if i.opq=true\/s.file.dir=false then [] else s.dirs,true⟩ y' true (by rw [ho,if_neg h3,if_neg h1]) h68 hx08 hY8
def zg1 (ls:List (List Fil)):Sn:=⟨⟨[47],true,[]⟩,List.range ls.length,true⟩
structure DirOK (n:Nat) (s:Sn):Prop where
 lt:∀ i∈s.dirs,i < n
 few:s.dirs.length<=n
theorem DirOK.sn0 {n:Nat}:DirOK n sn0:=⟨by simp [YthaaekcaaecdeaaGreatDoor.sn0],by simp [YthaaekcaaecdeaaGreatDoor.sn0]⟩
theorem DirOK.root {ls:List (List Fil)}:DirOK ls.length (zg1 ls):=⟨by simp [zg1],by simp [zg1]⟩
theorem DirOK.over {ls:List (List Fil)}{L:List Ino}{d:Sn}{n:Nat}(h:DirOK n d) (q:Path):DirOK n (ze1 ls L d q).1:=by
 have hb:DirOK n (zbd ls (jd q) d.dirs YthaaekcaaecdeaaGreatDoor.sn0):=by
  have:=zlm (ls:=ls) (p:=jd q) d.dirs YthaaekcaaecdeaaGreatDoor.sn0
  refine⟨fun i hi=>?_,?_⟩
  ·rcases this.2 i hi with h' | h'
   ·simp [YthaaekcaaecdeaaGreatDoor.sn0] at h'
   ·exact h.lt i h'
  ·have h1:=this.1;have h2:YthaaekcaaecdeaaGreatDoor.sn0.dirs.length=0:=rfl;have:=h.few;omega
 unfold ze1
 split
 ·split
  ·exact hb
  ·split
   ·exact .sn0
   ·split
    ·exact⟨by simp,by simp⟩
    ·refine⟨?_,?_⟩
     ·dsimp only
      split
      ·simp
      ·exact hb.lt
     ·dsimp only
      split
      ·simp
      ·exact hb.few
 ·exact hb
theorem z9m (w:World):(Instr.build zh #[(0,.agg #[.string (ByteArray.mk #[47]),.bool true,.string (strOf [])]),(2,.bool true)]).run P w=.ok (.agg (snC ⟨⟨[47],true,[]⟩,[],true⟩ (none,0,0)).toArray) w:=by kernel_rfl
set_option maxHeartbeats 4000000 in
theorem z16 {w:World}{H:Heap}{u:Nat}{pu:Value}{ls:List (List Fil)}(hw:w.heap=H) (hU:zx4 H u pu ls) (hl:ls.length<=1000000) :
  zx P zdb #[.pointer (some ⟨u,0,none⟩)] w fun e w'=>∃ y,e=.returned (.agg (snC (zg1 ls) y).toArray)/\Mine w'.heap H.size zai 1 y (intRow (zg1 ls).dirs)/\Ext [] H w'.heap:=by
 refine zlo ?_
 unfold zg9
 refine jg hw fun w1 hw1=>?_
 have e1:w1.heap.size=H.size+1:=by rw [hw1];simp
 have h2:w1.heap[H.size]?=some (.cells (snC sn0 (none,0,0)).toArray zh (0,0)):=by rw [hw1,z1v];exact zn
 refine qw (s:=.any) _ (z8l _ _) ?_
 refine qw (s:=.any) _ (z9m _) ?_
 refine zyo _ _ rfl fun w3 hw3=>?_
 have h23:w3.heap[H.size]?=some (.cells (snC sn0 (none,0,0)).toArray zh (0,0)):=by rw [hw3];exact zac h2
 have h3:w3.heap[H.size+1]?=some (.cells (snC ⟨⟨[47],true,[]⟩,[],true⟩ (none,0,0)).toArray zh (0,0)):=by rw [hw3,<-e1];exact zn
 have hx3:Ext [] H w3.heap:=by rw [hw3,hw1];exact (Ext.push _).push_own
 rw [e1]
 obtain⟨x,ms,u1,u2,u3,u4,u5⟩:=hU
 simp only [qo]
 refine jh (s:=.slc) (t:=x) rfl (hx3.get u1 (by simp)) rfl ?_
 refine za3 (fun k s w'=>∃ (i:Nat) (y:Option Addr×Nat×Nat),s=(i:Int)/\k+i=ls.length/\w'.heap[H.size]?=some (.cells (snC sn0 (none,0,0)).toArray zh (0,0))/\w'.heap[H.size+1]?=some (.cells (snC ⟨⟨[47],true,[]⟩,List.range i,true⟩ y).toArray zh (0,0)) /\
  Mine w'.heap (H.size+2) zai 1 y (intRow (List.range i))/\Ext [] H w'.heap) ls.length ⟨0,(none,0,0),rfl,rfl,h23,h3,.inl ⟨rfl,rfl⟩,hx3⟩ ?_
 rintro k s w4 ⟨i,y,rfl,hk,g2,g3,hY,hx4⟩ K hK
 have hyl:=hY.len
 rw [len_intRow,List.length_range] at hyl
 have hlt:=lt_of_get g3
 refine qm (fun h=>?_) (fun h=>?_)
 ·refine jh (s:=.slc) (t:=y) rfl g3 rfl ?_
  refine z3r (us:=[.int .i64 (i:Int)]) Ei uSi rfl rfl (by omega) (by omega) rfl fun w6 hc6 hx6 hs6=>?_
  have hyb:∀ b∈zbu y,H.size+2<=b:=zak hY
  refine zdr Ei (by omega) uSi (zbs uSi) rfl (hY.ext hx6 (by simp)) (by omega) (Src.slc rfl hc6 rfl) (by intro v hv;simp at hv;subst hv;rfl) (by omega) fun y' w7 hm7 hl7 hx7 hs7=>?_
  have g27:=hx7.get (hx6.get g2 (by simp)) (fun h=>by have:=hyb _ h;omega)
  have g37:=hx7.get (hx6.get g3 (by simp)) (fun h=>by have:=hyb _ h;omega)
  refine zdj rfl g37 (by simp [snC]) fun w8 hw8=>?_
  have hx78:Ext [H.size+1] w7.heap w8.heap:=by rw [hw8];exact Ext.set _ (by simp)
  refine zas ((i+1:Nat):Int) (by omega) (by omega) (by omega) ?_
  refine hK (k-1) _ _ (by omega) ⟨i+1,y',rfl,by omega,hx78.get g27 (by simp),by rw [hw8];exact xk g37,?_,?_⟩
  ·have:intRow (List.range (i+1))=intRow (List.range i)++[.int .i64 (i:Int)]:=by simp [intRow,List.range_succ]
   rw [this]
   exact hm7.ext hx78 (fun b hb hbm=>by have:=zak hm7 b hb;simp at hbm;omega)
  ·have h1:Ext [] H w7.heap:=(hx4.trans hx6).own hx7 (fun b hb hlt'=>by have:=hyb b hb;omega)
   rw [hw8];exact h1.set_own (.inl (by omega))
 ·have:i=ls.length:=by omega
  subst this
  refine xw rfl g3 rfl ?_
  refine z1m (s:=zg1 ls) (x:=y) rfl g2 rfl fun w8 hw8=>?_
  refine xw rfl (by rw [hw8];exact xk g2) rfl ?_
  exact⟨y,rfl,(hY.ext (M:=[H.size]) (by rw [hw8];exact Ext.set _ (by simp)) (fun b hb hbm=>by have:=zak hY b hb;simp at hbm;omega)).mono (by omega),by rw [hw8];exact hx4.set_own (.inl (by omega))⟩
def zl2 (ls:List (List Fil)) (L:List Ino) (q:Path):Nat->Sn->Sn×Bool
 | 0,s=>(s,true)
 | k+1,s=>if (ze1 ls L s (q.take (q.length-k))).2=false\/s.file.dir=false then (sn0,false) else zl2 ls L q k (ze1 ls L s (q.take (q.length-k))).1
theorem zq1 {ls:List (List Fil)}{L:List Ino}{q:Path}{n:Nat}:∀ (k:Nat) (s:Sn),DirOK n s->DirOK n (zl2 ls L q k s).1
 | 0,s,h=>h
 | k+1,s,h=>by
  unfold zl2
  split
  ·exact .sn0
  ·exact zq1 k _ (h.over _)
set_option maxHeartbeats 4000000 in
theorem z4r {w:World}{H:Heap}{u p m n nc:Nat}{nn bb:Int}{ls:List (List Fil)}{L:List Ino}{a:Option Addr}{q:Path}(hw:w.heap=H) (hU:zid H u p m nn bb ls L) (hl:ls.length<=1000000)
  (hL:Cells H a (strRow q)) (hn:n=q.length) (hnc:n<=nc) (hq:okP q) :
  zx P zev #[.pointer (some ⟨u,0,none⟩),.slice a n nc] w fun e w'=>∃ y,e=.returned (.tuple #[.agg (snC (zl2 ls L q q.length (zg1 ls)).1 y).toArray,.bool (zl2 ls L q q.length (zg1 ls)).2])/\Mine w'.heap H.size zai 1 y (intRow (zl2 ls L q q.length (zg1 ls)).1.dirs)/\Ext [] H w'.heap:=by
 refine zlp ?_
 unfold zhf
 refine jg hw fun w1 hw1=>?_
 have e1:w1.heap.size=H.size+1:=by rw [hw1];simp
 have h4:w1.heap[H.size]?=some (.cells (snC sn0 (none,0,0)).toArray zh (0,0)):=by rw [hw1,z1v];exact zn
 have hx1:Ext [] H w1.heap:=by rw [hw1];exact .push _
 refine zl (z16 rfl (hU.1.ext hx1) hl) ?_
 rintro e w2 ⟨y,rfl,hY,hx2⟩
 refine⟨_,rfl,?_⟩
 refine zyo _ _ rfl fun w4 hw4=>?_
 have hx24:Ext [] w2.heap w4.heap:=by rw [hw4];exact .push _
 have h6:w4.heap[w2.heap.size]?=some (.cells (snC (zg1 ls) y).toArray zh (0,0)):=by rw [hw4];exact zn
 have hx14:=hx2.trans hx24
 obtain⟨B,hB⟩:∃ B,B=w2.heap.size:=⟨_,rfl⟩
 rw [<-hB] at h6 |-
 have hBs:H.size+1<=B:=by have:=hx2.1;omega
 have hq8:=hq.2
 obtain⟨Res,hRes⟩:∃ Res,Res=zl2 ls L q q.length (zg1 ls):=⟨_,rfl⟩
 rw [<-hRes]
 refine za3 (fun k s w'=>∃ (i:Nat) (st:Sn) (y:Option Addr×Nat×Nat),s=(i:Int)/\k+i=q.length/\zl2 ls L q k st=Res/\DirOK ls.length st/\w'.heap[H.size]?=some (.cells (snC sn0 (none,0,0)).toArray zh (0,0))/\w'.heap[B]?=some (.cells (snC st y).toArray zh (0,0)) /\
  B∉zbu y/\Mine w'.heap (H.size+1) zai 1 y (intRow st.dirs)/\Ext [] H w'.heap) q.length ⟨0,zg1 ls,y,rfl,rfl,hRes.symm,.root,hx14.get h4 (by simp),h6,fun hb=>by have:=(zjz hY _ hb).1;omega,(hY.ext hx24 (by simp)).mono (by omega),hx1.trans hx14⟩ ?_
 rintro k s w5 ⟨i,st,y,rfl,hk,he,hd,g4,g6,hyB,hY,hx5⟩ K hK
 refine qm (fun h=>?_) (fun h=>?_)
 ·obtain⟨k,rfl⟩:∃ k',k=k'+1:=⟨k-1,by omega⟩
  have hql:q.length-k=i+1:=by omega
  unfold zl2 at he
  rw [hql] at he
  obtain⟨r,hr⟩:∃ r,r=ze1 ls L st (q.take (i+1)):=⟨_,rfl⟩
  rw [<-hr] at he
  refine ku (fun _ w'=>∃ (st':Sn) (y':Option Addr×Nat×Nat),zl2 ls L q k st'=Res/\DirOK ls.length st'/\w'.heap[H.size]?=some (.cells (snC sn0 (none,0,0)).toArray zh (0,0))/\w'.heap[B]?=some (.cells (snC st' y').toArray zh (0,0)) /\
   B∉zbu y'/\Mine w'.heap (H.size+1) zai 1 y' (intRow st'.dirs)/\Ext [] H w'.heap) ?_ ?_
  ·refine x9 ?_
   refine zaj rfl fun w6 hw6=>?_
   rw [<-hw6] at g4 g6 hY hx5
   refine zas ((i+1:Nat):Int) (by omega) (by omega) (by omega) ?_
   refine xw rfl g6 rfl ?_
   obtain⟨a',hcut,hLc⟩:=zrk (i:=i+1) (n:=((i+1:Nat):Int)) zi4 zql (hL.ext hx5 (by simp)) hnc (by omega) rfl
   rw [Nat.mul_one,zcn] at hLc
   refine qw (s:=.slc) (a',i+1,nc) (hcut _) ?_
   have hyl:y.2.1=st.dirs.length:=by have:=hY.len;rw [len_intRow] at this;omega
   have hlt6:=lt_of_get g6
   have tail:∀ {W:World}{b8:Nat}{y':Option Addr×Nat×Nat},W.heap[H.size]?=some (.cells (snC sn0 (none,0,0)).toArray zh (0,0))->W.heap[B]?=some (.cells (snC st y).toArray zh (0,0))->W.heap[b8]?=some (.cells (snC r.1 y').toArray zh (0,0))->B∉zbu y'->Mine W.heap (H.size+1) zai 1 y' (intRow r.1.dirs)->Ext [] H W.heap ->
     Go.Fw.joinP Unit (fun k_3=>
      qx (!r.2) (
      jv P (Instr.build zh #[]) .any W fun (t35:Value)=>
      jy P (storeVar zh (⟨H.size,0,none⟩:Addr) t35) W fun w_10=>
      ldA P 5 (⟨H.size,0,none⟩:Addr) w_10 fun t4=>
      (∃ y,Ending.returned (Value.tuple #[(Value.agg t4),(Value.bool false)])=.returned (.tuple #[.agg (snC Res.1 y).toArray,.bool Res.2])/\Mine w_10.heap H.size zai 1 y (intRow Res.1.dirs)/\Ext [] H w_10.heap)) (
      ld .bool (⟨B,1,none⟩:Addr) W fun (t32:Bool)=>
      qx (!t32) (
      jv P (Instr.build zh #[]) .any W fun (t35_1:Value)=>
      jy P (storeVar zh (⟨H.size,0,none⟩:Addr) t35_1) W fun w_11=>
      ldA P 5 (⟨H.size,0,none⟩:Addr) w_11 fun t4_1=>
      (∃ y,Ending.returned (Value.tuple #[(Value.agg t4_1),(Value.bool false)])=.returned (.tuple #[.agg (snC Res.1 y).toArray,.bool Res.2])/\Mine w_11.heap H.size zai 1 y (intRow Res.1.dirs)/\Ext [] H w_11.heap)) (
      k_3 () W))) (fun _ w_12=>
      ldA P 5 (⟨b8,0,none⟩:Addr) w_12 fun t36=>
      jy P (storeVar zh (⟨B,0,none⟩:Addr) (Value.agg t36)) w_12 fun w_13=>
      ∃ (st':Sn) (y':Option Addr×Nat×Nat),zl2 ls L q k st'=Res/\DirOK ls.length st'/\w_13.heap[H.size]?=some (.cells (snC sn0 (none,0,0)).toArray zh (0,0))/\w_13.heap[B]?=some (.cells (snC st' y').toArray zh (0,0)) /\
       B∉zbu y'/\Mine w_13.heap (H.size+1) zai 1 y' (intRow st'.dirs)/\Ext [] H w_13.heap):=by
    intro W b8 y' q4 q6 q8 hyB' hY' hxW
    have bad:(r.2=false\/st.file.dir=false)->jv P (Instr.build zh #[]) .any W fun (t35:Value)=>
      jy P (storeVar zh (⟨H.size,0,none⟩:Addr) t35) W fun w_10=>
      ldA P 5 (⟨H.size,0,none⟩:Addr) w_10 fun t4=>
      (∃ y,Ending.returned (Value.tuple #[(Value.agg t4),(Value.bool false)])=.returned (.tuple #[.agg (snC Res.1 y).toArray,.bool Res.2])/\Mine w_10.heap H.size zai 1 y (intRow Res.1.dirs)/\Ext [] H w_10.heap):=by
     intro hb
     rw [if_pos hb] at he
     refine qw (s:=.any) _ (z9b _) ?_
     refine z1m rfl q4 rfl fun w7 hw7=>?_
     refine xw rfl (by rw [hw7];exact xk q4) rfl ?_
     rw [<-he]
     exact⟨(none,0,0),rfl,.inl ⟨rfl,rfl⟩,by rw [hw7];exact hxW.set_own (.inl (by omega))⟩
    refine ku (fun _ w'=>w'=W/\r.2=true/\st.file.dir=true) ?_ ?_
    ·refine za8 (p:=r.2=false) (by simp) (fun hr2=>bad (.inl hr2)) (fun hr2=>?_)
     refine jh (s:=.bool) (t:=st.file.dir) rfl q6 rfl ?_
     refine za8 (p:=st.file.dir=false) (by simp) (fun hr3=>bad (.inr hr3)) (fun hr3=>⟨rfl,by simpa using hr2,by simpa using hr3⟩)
    ·rintro _ w12 ⟨rfl,hr2,hr3⟩
     rw [if_neg (by simp [hr2,hr3])] at he
     refine xw rfl q8 rfl ?_
     refine z1m rfl q6 rfl fun w13 hw13=>?_
     refine⟨r.1,y',he,by rw [hr];exact hd.over _,by rw [hw13];exact zeh q4 (by omega),by rw [hw13];exact xk q6,hyB',?_,by rw [hw13];exact hxW.set_own (.inl (by omega))⟩
     exact hY'.ext (M:=[B]) (by rw [hw13];exact Ext.set _ (by simp)) (fun b hb hbm=>by simp at hbm;subst hbm;exact hyB' hb)
   refine⟨?_,?_⟩
   ·refine zl (zu6 rfl (hU.ext hx5) hY.cells hyl hd.lt (by have:=hd.few;omega) hLc (by rw [List.length_take,Nat.min_eq_left (by omega)]) (show i+1<=nc by omega) (hq.take _)) ?_
    rintro e w7 ⟨y',rfl,hY',hx7⟩
    rw [<-hr] at hY' |-
    refine⟨(_,_),rfl,?_⟩
    refine jg rfl fun w8 hw8=>?_
    have hx8:Ext [] w7.heap w8.heap:=by rw [hw8];exact .push _
    have hx68:=hx7.trans hx8
    have q8:w8.heap[w7.heap.size]?=some (.cells (snC sn0 (none,0,0)).toArray zh (0,0)):=by rw [hw8,z1v];exact zn
    have hlt7:=hx7.1
    refine⟨qw (s:=.slc) (a',i+1,nc) (hcut _) rfl,xw rfl (hx68.get g6 (by simp)) rfl rfl,?_⟩
    refine z1m (s:=r.1) (x:=y') rfl q8 rfl fun w9 hw9=>?_
    have hx89:Ext [w7.heap.size] w8.heap w9.heap:=by rw [hw9];exact Ext.set _ (by simp)
    have hin:=zjz hY'
    refine tail (hx89.get (hx68.get g4 (by simp)) (by simp;omega)) (hx89.get (hx68.get g6 (by simp)) (by simp;omega)) (by rw [hw9];exact xk q8) (fun hb=>by have:=zak hY' _ hb;omega)
     (((hY'.ext hx8 (by simp)).ext hx89 (fun b hb hbm=>by have:=(hin b hb).1;simp at hbm;omega)).mono (by omega)) ?_
    rw [hw9];exact (hx5.trans hx68).set_own (.inl (by omega))
   ·refine jg rfl fun w8 hw8=>?_
    have hx8:Ext [] w6.heap w8.heap:=by rw [hw8];exact .push _
    have q8:w8.heap[w6.heap.size]?=some (.cells (snC sn0 (none,0,0)).toArray zh (0,0)):=by rw [hw8,z1v];exact zn
    refine⟨qw (s:=.slc) (a',i+1,nc) (hcut _) rfl,xw rfl (hx8.get g6 (by simp)) rfl rfl,?_⟩
    refine zl (zu6 rfl (hU.ext (hx5.trans hx8)) (hY.ext hx8 (by simp)).cells hyl hd.lt (by have:=hd.few;omega) (hLc.ext hx8 (by simp)) (by rw [List.length_take,Nat.min_eq_left (by omega)]) (show i+1<=nc by omega) (hq.take _)) ?_
    rintro e w7 ⟨y',rfl,hY',hx7⟩
    rw [<-hr] at hY' |-
    refine⟨(_,_),rfl,?_⟩
    have hx67:=hx8.trans hx7
    have q87:=hx7.get q8 (by simp)
    refine z1m (s:=r.1) (x:=y') rfl q87 rfl fun w9 hw9=>?_
    have hx79:Ext [w6.heap.size] w7.heap w9.heap:=by rw [hw9];exact Ext.set _ (by simp)
    have hge:=zak hY'
    have hs8:w8.heap.size=w6.heap.size+1:=by rw [hw8];simp
    refine tail (hx79.get (hx67.get g4 (by simp)) (by simp;omega)) (hx79.get (hx67.get g6 (by simp)) (by simp;omega)) (by rw [hw9];exact xk q87) (fun hb=>by have:=hge _ hb;omega)
     ((hY'.ext hx79 (fun b hb hbm=>by have:=hge b hb;simp at hbm;omega)).mono (by omega)) ?_
    rw [hw9];exact (hx5.trans hx67).set_own (.inl (by omega))
  ·rintro _ w6 ⟨st',y',h1,h2⟩
   refine zas ((i+1:Nat):Int) (by omega) (by omega) (by omega) ?_
   exact hK k _ _ (by omega) ⟨i+1,st',y',rfl,by omega,h1,h2⟩
 ·have hk0:k=0:=by omega
  subst hk0
  unfold zl2 at he
  refine xw rfl g6 rfl ?_
  refine z1m rfl g4 rfl fun w8 hw8=>?_
  refine xw rfl (by rw [hw8];exact xk g4) rfl ?_
  rw [<-he]
  exact⟨y,rfl,(hY.ext (M:=[H.size]) (by rw [hw8];exact Ext.set _ (by simp)) (fun b hb hbm=>by have:=zak hY b hb;simp at hbm;omega)).mono (by omega),by rw [hw8];exact hx5.set_own (.inl (by omega))⟩
end Go.Proofs.YthaaekcaaecdeaaGreatDoor
namespace Go.Proofs
open Go.Shelf
def Tryz.sortS_ren:Go.Shelf.Ren:=⟨fun | 190=>162 | 125=>127 | 258=>213 | 128=>179 | 129=>180 | 302=>235 | 303=>236 | 304=>237 | 305=>238 | 306=>239 | 307=>240 | 308=>241 | 309=>242 | 310=>243 | 333=>249 | 329=>218 | 330=>219 | 334=>250 | 335=>251 | 336=>181 | 344=>256 | n=>n,fun | 31=>39 | 9=>9 | 3=>3 | 46=>155 | 0=>0 | 51=>298 | 53=>147 | 4=>4 | 183=>306 | 182=>305 | 131=>310 | 5=>5 | 218=>339 | 222=>342 | 228=>359 | 229=>360 | n=>n,fun | n=>n⟩
theorem Tryz.sortS:Go.Proofs.Lays.n190 Tryz.prog Tryz.sortS_ren:={
 mixed:=by kernel_rfl
 f125:=Tryz.func127.trans (congrArg some (by kernel_rfl))
 f128:=Tryz.func179.trans (congrArg some (by kernel_rfl))
 f129:=Tryz.func180.trans (congrArg some (by kernel_rfl))
 f190:=Tryz.func162.trans (congrArg some (by kernel_rfl))
 f258:=Tryz.func213.trans (congrArg some (by kernel_rfl))
 f302:=Tryz.func235.trans (congrArg some (by kernel_rfl))
 f303:=Tryz.func236.trans (congrArg some (by kernel_rfl))
 f304:=Tryz.func237.trans (congrArg some (by kernel_rfl))
 f305:=Tryz.func238.trans (congrArg some (by kernel_rfl))
 f306:=Tryz.func239.trans (congrArg some (by kernel_rfl))
 f307:=Tryz.func240.trans (congrArg some (by kernel_rfl))
 f308:=Tryz.func241.trans (congrArg some (by kernel_rfl))
 f309:=Tryz.func242.trans (congrArg some (by kernel_rfl))
 f310:=Tryz.func243.trans (congrArg some (by kernel_rfl))
 f329:=Tryz.func218.trans (congrArg some (by kernel_rfl))
 f330:=Tryz.func219.trans (congrArg some (by kernel_rfl))
 f333:=Tryz.func249.trans (congrArg some (by kernel_rfl))
 f334:=Tryz.func250.trans (congrArg some (by kernel_rfl))
 f335:=Tryz.func251.trans (congrArg some (by kernel_rfl))
 f336:=Tryz.func181.trans (congrArg some (by kernel_rfl))
 f344:=Tryz.func256.trans (congrArg some (by kernel_rfl))
 t0:=Tryz.underlying0
 a0:=Tryz.isAgg0
 z0:=Tryz.sizeOf0
 v0:=Tryz.zeroValue0
 t3:=Tryz.underlying3
 a3:=Tryz.isAgg3
 z3:=Tryz.sizeOf3
 v3:=Tryz.zeroValue3
 t4:=Tryz.underlying4
 a4:=Tryz.isAgg4
 z4:=Tryz.sizeOf4
 v4:=Tryz.zeroValue4
 t5:=Tryz.underlying5
 a5:=Tryz.isAgg5
 z5:=Tryz.sizeOf5
 v5:=Tryz.zeroValue5
 t9:=Tryz.underlying9
 a9:=Tryz.isAgg9
 z9:=Tryz.sizeOf9
 v9:=Tryz.zeroValue9
 t31:=Tryz.underlying39
 a31:=Tryz.isAgg39
 z31:=Tryz.sizeOf39
 v31:=Tryz.zeroValue39
 t46:=Tryz.underlying155
 a46:=Tryz.isAgg155
 z46:=Tryz.sizeOf155
 v46:=Tryz.zeroValue155
 t51:=Tryz.underlying298
 a51:=Tryz.isAgg298
 z51:=Tryz.sizeOf298
 v51:=Tryz.zeroValue298
 t53:=Tryz.underlying147
 a53:=Tryz.isAgg147
 z53:=Tryz.sizeOf147
 v53:=Tryz.zeroValue147
 t131:=Tryz.underlying310
 a131:=Tryz.isAgg310
 z131:=Tryz.sizeOf310
 v131:=Tryz.zeroValue310
 t182:=Tryz.underlying305
 a182:=Tryz.isAgg305
 z182:=Tryz.sizeOf305
 v182:=Tryz.zeroValue305
 t183:=Tryz.underlying306
 a183:=Tryz.isAgg306
 z183:=Tryz.sizeOf306
 v183:=Tryz.zeroValue306
 t218:=Tryz.underlying339
 a218:=Tryz.isAgg339
 z218:=Tryz.sizeOf339
 v218:=Tryz.zeroValue339
 t222:=Tryz.underlying342
 a222:=Tryz.isAgg342
 z222:=Tryz.sizeOf342
 v222:=Tryz.zeroValue342
 t228:=Tryz.underlying359
 a228:=Tryz.isAgg359
 z228:=Tryz.sizeOf359
 v228:=Tryz.zeroValue359
 t229:=Tryz.underlying360
 a229:=Tryz.isAgg360
 z229:=Tryz.sizeOf360
 v229:=Tryz.zeroValue360 }
end Go.Proofs
namespace Go.Proofs.YthaaekcaaecdeaaGreatDoor
open Go Go.Fw Go.Proofs Go.Sort
theorem ztf (L:List UInt8):encStr L=.string (strOf L):=rfl
def sortS (xs:List (List UInt8)):List (List UInt8):=xs.mergeSort fun a b=>decide (a<=b)
theorem z3t {w:World}{H:Heap}{B:Nat}{x:Option Addr×Nat×Nat}{xs:List (List UInt8)}(hw:w.heap=H) (hM:Mine H B qy 1 x (strRow xs)) (hlen:xs.length<=1099511627776) :
  zx P zc3 #[.slice x.1 x.2.1 x.2.2] w fun e w'=>e=.returned (.tuple #[])/\Mine w'.heap B qy 1 x (strRow (sortS xs))/\Ext (zbu x) H w'.heap:=by
 subst hw
 have hl:=hM.len
 rw [jl] at hl
 refine⟨by kernel_rfl,?_⟩
 rcases hM with⟨rfl,hnil⟩ | ⟨b,c,hx1,hB,hb,hc,hl2,hle,he⟩
 ·have hx0:xs=[]:=by
   have:=congrArg List.length hnil
   rw [jl] at this
   exact List.eq_nil_of_length_eq_zero this
  subst hx0
  refine (Any.slices_Sort_string_none Tryz.sortS none 0 w).mono ?_
  rintro e w' ⟨he,hw'⟩
  subst hw'
  exact⟨⟨he,.inl ⟨rfl,by simp [sortS,strRow]⟩,.refl _ _⟩,.refl _⟩
 ·obtain⟨xa,xl,xc⟩:=x
  simp only [Nat.mul_one] at hx1 hl hc hl2 hle
  subst hx1
  rw [<-hl] at hle |-
  have hlt:b < w.heap.size:=lt_of_get hb
  have hget:∀ t,t < xs.length->c[t]?=(strRow xs)[t]?:=by
   intro t ht
   rw [<-he,Array.getElem?_toList,Array.getElem?_extract]
   rw [if_pos (by rw [jl];omega)]
   simp
  have hH:Holds encStr w b 0 xs.toArray:=by
   intro j hj
   simp only [List.size_toArray] at hj
   refine⟨?_,zop rfl hb⟩
   rw [Nat.zero_add,zpu rfl hb,hget j hj,ztf]
   simp [strRow,hj]
  refine (Any.slices_Sort_string Tryz.sortS b 0 xc xs w hH hlt (by omega)).mono ?_
  rintro e w' ⟨rfl,n,os,rfl⟩
  have hps:(sortS xs).length=xs.length:=by simp [sortS]
  have hheap:(grow (putRow encStr (Sort.ahead w n) b 0 (xs.mergeSort fun x y=>decide (x<=y)).toArray) os).heap=(w.heap.setIfInBounds b (.cells (putCells encStr 0 (sortS xs).toArray c) qy (0,0)))++os:=by
   unfold grow putRow mapBlock
   simp only [Sort.ahead]
   congr 1
   apply Array.ext_getElem?
   intro i
   rw [Array.getElem?_modify]
   by_cases hib:b=i
   ·subst hib
    simp only [if_pos,Array.getElem?_setIfInBounds_self_of_lt hlt,hb,Option.map_some]
    rfl
   ·rw [if_neg hib,Array.getElem?_setIfInBounds_ne hib]
  have hsz:(putCells encStr 0 (sortS xs).toArray c).size=c.size:=by simp [putCells]
  refine⟨⟨rfl,.inr ⟨b,_,rfl,hB,?_,hsz.trans (by simpa using hc),by simp [jl,hps],hle,?_⟩,?_⟩,?_⟩
  ·rw [hheap,Array.getElem?_append_left (by simpa using hlt),Array.getElem?_setIfInBounds_self_of_lt hlt]
  ·apply List.ext_getElem?
   intro t
   rw [Array.getElem?_toList,Array.getElem?_extract,jl,hps]
   by_cases ht:t < xs.length
   ·rw [if_pos (by omega)]
    have h6:t < c.size:=by omega
    simp only [putCells,Nat.zero_add,Array.getElem?_mapIdx,Array.getElem?_eq_getElem h6,Option.map_some]
    rw [if_pos ⟨Nat.zero_le _,by simp [hps,ht]⟩]
    have h7:t < (sortS xs).length:=by omega
    simp [strRow,h7,ztf]
   ·rw [if_neg (by omega),List.getElem?_eq_none (by rw [jl];omega)]
  ·rw [hheap]
   refine⟨by simp,fun i hi hn=>?_⟩
   rw [Array.getElem?_append_left (by simpa using hi)]
   exact Array.getElem?_setIfInBounds_ne (by rintro rfl;exact hn (by simp [zbu]))
  ·unfold grow putRow mapBlock
   exact⟨rfl,rfl,rfl,by simp [Sort.ahead]⟩
end Go.Proofs.YthaaekcaaecdeaaGreatDoor
namespace Go.Proofs
open Go.Shelf
def Tryz.sortD_ren:Go.Shelf.Ren:=⟨fun | 6=>67 | 15=>127 | 14=>126 | 28=>179 | 29=>180 | 20=>171 | 21=>172 | 22=>173 | 23=>174 | 24=>175 | 25=>176 | 26=>177 | 27=>178 | 46=>217 | 47=>218 | 48=>219 | 49=>220 | 50=>221 | 57=>244 | n=>n,fun | 22=>79 | 24=>84 | 25=>163 | 3=>3 | 39=>155 | 0=>0 | 53=>298 | 55=>147 | 4=>4 | 46=>306 | 45=>305 | 50=>310 | 5=>5 | 9=>9 | 66=>339 | 70=>342 | 76=>359 | 77=>360 | n=>n,fun | n=>n⟩
theorem Tryz.sortD:Go.Proofs.SlLaysF0.n6 Tryz.prog Tryz.sortD_ren:={
 mixed:=by kernel_rfl
 f6:=⟨Tryz.f67.name,by decide,Tryz.func67.trans (congrArg some (by kernel_rfl))⟩
 f14:=⟨Tryz.f126.name,by decide,Tryz.func126.trans (congrArg some (by kernel_rfl))⟩
 f15:=Tryz.func127.trans (congrArg some (by kernel_rfl))
 f20:=⟨Tryz.f171.name,by decide,Tryz.func171.trans (congrArg some (by kernel_rfl))⟩
 f21:=⟨Tryz.f172.name,by decide,Tryz.func172.trans (congrArg some (by kernel_rfl))⟩
 f22:=⟨Tryz.f173.name,by decide,Tryz.func173.trans (congrArg some (by kernel_rfl))⟩
 f23:=⟨Tryz.f174.name,by decide,Tryz.func174.trans (congrArg some (by kernel_rfl))⟩
 f24:=⟨Tryz.f175.name,by decide,Tryz.func175.trans (congrArg some (by kernel_rfl))⟩
 f25:=⟨Tryz.f176.name,by decide,Tryz.func176.trans (congrArg some (by kernel_rfl))⟩
 f26:=⟨Tryz.f177.name,by decide,Tryz.func177.trans (congrArg some (by kernel_rfl))⟩
 f27:=⟨Tryz.f178.name,by decide,Tryz.func178.trans (congrArg some (by kernel_rfl))⟩
 f28:=Tryz.func179.trans (congrArg some (by kernel_rfl))
 f29:=Tryz.func180.trans (congrArg some (by kernel_rfl))
 f46:=⟨Tryz.f217.name,by decide,Tryz.func217.trans (congrArg some (by kernel_rfl))⟩
 f47:=Tryz.func218.trans (congrArg some (by kernel_rfl))
 f48:=Tryz.func219.trans (congrArg some (by kernel_rfl))
 f49:=⟨Tryz.f220.name,by decide,Tryz.func220.trans (congrArg some (by kernel_rfl))⟩
 f50:=⟨Tryz.f221.name,by decide,Tryz.func221.trans (congrArg some (by kernel_rfl))⟩
 f57:=⟨Tryz.f244.name,by decide,Tryz.func244.trans (congrArg some (by kernel_rfl))⟩
 t0:=Tryz.underlying0
 a0:=Tryz.isAgg0
 z0:=Tryz.sizeOf0
 v0:=Tryz.zeroValue0
 t3:=Tryz.underlying3
 a3:=Tryz.isAgg3
 z3:=Tryz.sizeOf3
 v3:=Tryz.zeroValue3
 t4:=Tryz.underlying4
 a4:=Tryz.isAgg4
 z4:=Tryz.sizeOf4
 v4:=Tryz.zeroValue4
 t5:=Tryz.underlying5
 a5:=Tryz.isAgg5
 z5:=Tryz.sizeOf5
 v5:=Tryz.zeroValue5
 t9:=Tryz.underlying9
 a9:=Tryz.isAgg9
 z9:=Tryz.sizeOf9
 v9:=Tryz.zeroValue9
 t22:=Tryz.underlying79
 a22:=Tryz.isAgg79
 z22:=Tryz.sizeOf79
 v22:=Tryz.zeroValue79
 t25:=Tryz.underlying163
 a25:=Tryz.isAgg163
 z25:=Tryz.sizeOf163
 v25:=Tryz.zeroValue163
 t39:=Tryz.underlying155
 a39:=Tryz.isAgg155
 z39:=Tryz.sizeOf155
 v39:=Tryz.zeroValue155
 t45:=Tryz.underlying305
 a45:=Tryz.isAgg305
 z45:=Tryz.sizeOf305
 v45:=Tryz.zeroValue305
 t46:=Tryz.underlying306
 a46:=Tryz.isAgg306
 z46:=Tryz.sizeOf306
 v46:=Tryz.zeroValue306
 t50:=Tryz.underlying310
 a50:=Tryz.isAgg310
 z50:=Tryz.sizeOf310
 v50:=Tryz.zeroValue310
 t53:=Tryz.underlying298
 a53:=Tryz.isAgg298
 z53:=Tryz.sizeOf298
 v53:=Tryz.zeroValue298
 t55:=Tryz.underlying147
 a55:=Tryz.isAgg147
 z55:=Tryz.sizeOf147
 v55:=Tryz.zeroValue147
 t66:=Tryz.underlying339
 a66:=Tryz.isAgg339
 z66:=Tryz.sizeOf339
 v66:=Tryz.zeroValue339
 t70:=Tryz.underlying342
 a70:=Tryz.isAgg342
 z70:=Tryz.sizeOf342
 v70:=Tryz.zeroValue342
 t76:=Tryz.underlying359
 a76:=Tryz.isAgg359
 z76:=Tryz.sizeOf359
 v76:=Tryz.zeroValue359
 t77:=Tryz.underlying360
 a77:=Tryz.isAgg360
 z77:=Tryz.sizeOf360
 v77:=Tryz.zeroValue360 }
end Go.Proofs
namespace Go.Proofs.YthaaekcaaecdeaaGreatDoor
open Go Go.Fw Go.Proofs Go.Sort
def zgu (q:Path) (i:Ino):Bool:=decide (q.length < i.names.length)&&zjn i.names q
def zdd (L:List Ino) (q:Path):List Ino:=L.filter (zgu q)
theorem zt5:∀ {b a:List Ino},a.Perm b->(a.Pairwise fun x y=>¬zer y.names x.names < 0)->(b.Pairwise fun x y=>zer x.names y.names < 0)->a=b
 | [],a,h,_,_=>List.Perm.eq_nil h
 | y :: b,[],h,_,_=>by have:=h.length_eq;simp at this
 | y :: b,x :: a,h,ha,hb=>by
  obtain⟨ha1,ha2⟩:=List.pairwise_cons.1 ha
  obtain⟨hb1,hb2⟩:=List.pairwise_cons.1 hb
  by_cases e:x=y
  ·subst e
   rw [zt5 (List.Perm.cons_inv h) ha2 hb2]
  ·have h1:x∈b:=by
    rcases List.mem_cons.1 (h.mem_iff.1 (List.mem_cons_self (a:=x) (l:=a))) with h1 | h1
    ·exact absurd h1 e
    ·exact h1
   have h2:y∈a:=by
    rcases List.mem_cons.1 (h.mem_iff.2 (List.mem_cons_self (a:=y) (l:=b))) with h2 | h2
    ·exact absurd h2.symm e
    ·exact h2
   exact absurd (hb1 x h1) (ha1 y h2)
def nmI (i:Ino):Path:=(jm (jd i.names)).1
theorem z4x (W:World) (x y:Ino):zx P za5 #[.agg (encI x).toArray,.agg (encI y).toArray] W fun e W'=>e=.returned (.int .i64 (zer (nmI x) (nmI y)))/\Ext [] W.heap W'.heap:=by
 refine zi2 ?_
 unfold zfz
 refine jg rfl fun w1 hw1=>?_
 refine jg hw1 fun w2 hw2=>?_
 have hx2:Ext [] W.heap w2.heap:=by rw [hw2];exact (Ext.push _).trans (Ext.push _)
 have ha:w2.heap[W.heap.size]?=some (.cells (encI x).toArray zk (0,0)):=by rw [hw2];exact zac zn
 have hb:w2.heap[(W.heap.push (.cells (Value.agg (encI x).toArray).cells zk)).size]?=some (.cells (encI y).toArray zk (0,0)):=by rw [hw2];exact zn
 generalize (W.heap.push (.cells (Value.agg (encI x).toArray).cells zk)).size=b3 at *
 refine zaj rfl fun w3 hw3=>?_
 have hx23:Ext [] w2.heap w3.heap:=by rw [hw3];exact .refl _ _
 refine jh (s:=.str) (t:=strOf (jd x.names)) rfl (hx23.get ha (by simp)) rfl ?_
 refine jh (s:=.str) (t:=strOf (jd y.names)) rfl (hx23.get hb (by simp)) rfl ?_
 refine zl (jf (jd x.names) rfl) ?_
 rintro e w4 ⟨x4,rfl,hm4,hx4⟩
 refine⟨x4,rfl,?_⟩
 have hx24:=hx23.trans hx4
 refine⟨jh (s:=.str) (t:=strOf (jd y.names)) rfl (hx24.get hb (by simp)) rfl rfl,?_⟩
 refine zl (jf (jd y.names) rfl) ?_
 rintro e w5 ⟨x5,rfl,hm5,hx5⟩
 refine⟨x5,rfl,?_⟩
 have h45:=hm4.ext hx5 (by simp)
 have ok1:=(zka (jd x.names)).2
 refine zl (zzf rfl h45.cells (by have:=h45.len;simp at this;omega) hm5.cells (by have:=hm5.len;simp at this;omega) (by omega)) ?_
 rintro e w6 ⟨rfl,hw6⟩
 subst w6
 exact⟨_,rfl,rfl,hx2.trans (hx24.trans hx5)⟩
theorem z2g {w:World}{H:Heap}{B:Nat}{x:Option Addr×Nat×Nat}{xs:List Ino}(hw:w.heap=H) (hM:Mine H B zk 4 x (xs.flatMap encI)) (hlen:xs.length<=1099511627776) :
  zx P za4 #[.slice x.1 x.2.1 x.2.2,.func (.func za5) #[] #[]] w fun e w'=>e=.returned (.tuple #[])/\∃ ys:List Ino,ys.Perm xs/\(ys.Pairwise fun a b=>¬zer (nmI b) (nmI a) < 0)/\Mine w'.heap B zk 4 x (ys.flatMap encI)/\Ext (zbu x) H w'.heap:=
 z4w (α:=Ino) Tryz.sortD (k:=4) (fun w=>by kernel_rfl) (fun w=>by kernel_rfl) encI zhg (by omega) (fun x=>zon) (fun x y=>zer (nmI x) (nmI y)) (z00 nmI) (g:=za5) (fun args w=>by kernel_rfl) (fun args w=>by kernel_rfl) z4x hw hM (by omega)
set_option maxHeartbeats 4000000 in
theorem zy0 {w:World}{H:Heap}{p m:Nat}{nn bb:Int}{L:List Ino}{a:Option Addr}{n nc:Nat}{q:Path}(hw:w.heap=H) (hU:Up H p m nn bb L) (hL:Cells H a (strRow q)) (hn:n=q.length) (hq:q.length<=9223372036854775807) :
  zx P zcr #[.pointer (some ⟨p,0,none⟩),.slice a n nc] w fun e w'=>∃ x,e=.returned (zhq x)/\Mine w'.heap H.size zk 4 x ((zdd L q).flatMap encI)/\Ext [] H w'.heap:=by
 obtain⟨M,c,h1,h2,h3,h4⟩:=hU
 have hml:M.length=L.length:=by have:=h4.perm.length_eq;rwa [List.length_map] at this
 have hmany:=h4.good.many
 refine zku ?_
 unfold zgy
 refine qg rfl ?_
 simp only [qo,zan,Nat.zero_add]
 refine jh (s:=.map) (t:=some m) hw h1 rfl ?_
 refine zbg (s:=.ptr) (some ⟨H.size,0,none⟩) _ (zye uM hw h2) ?_
 have hmlt:=lt_of_get h2
 refine za3 (fun k (s:Option Addr×Nat×Nat) W=>∃ (seen:Array Nat) (last:Nat) (xs:List Ino),Ext [] H W.heap/\W.heap[H.size]?=some (.mapIter (some m) c seen last)/\c<=last/\k=(M.filter fun y=>!seen.contains y.2.2).length/\Mine W.heap (H.size+1) zk 4 s (xs.flatMap encI) /\
  xs.Perm (((M.filter fun y=>seen.contains y.2.2).map (·.2.1)).filter (zgu q))) (M.filter fun y=>!(#[]:Array Nat).contains y.2.2).length ?_ ?_
 ·exact⟨#[],c,[],.push _,zn,Nat.le_refl _,rfl,.inl ⟨rfl,rfl⟩,by simp⟩
 rintro k s W ⟨seen,last,xs,hxW,hrW,hcl,rfl,hmine,hperm⟩ K hK
 have hmW:=hxW.get h2 (by simp)
 have hxs:xs.length<=1024:=by
  rw [hperm.length_eq]
  have h5:=List.length_filter_le (zgu q) ((M.filter fun y=>seen.contains y.2.2).map (·.2.1))
  rw [List.length_map] at h5
  have h6:=List.length_filter_le (fun y:List UInt8×Ino×Nat=>seen.contains y.2.2) M
  omega
 have hsl:s.2.1=xs.length:=by have:=hmine.len;rw [ji encI zhg] at this;omega
 have hHW:=hxW.1
 have hrlt:=lt_of_get hrW
 rcases z1o (P:=P) (ty:=zft) rfl hmW hrW (fun x hx=>h3.old x hx) hcl with⟨hall,W1,hnx,hc1,hh1⟩ | ⟨x,hx,hns,W1,hnx,hc1,hh1⟩
 ·refine zbg (s:=.any) _ W1 hnx ?_ hc1
  refine zpz (s:=.bool) false rfl rfl ?_
  refine qg rfl ?_
  have hall2:(M.filter fun y=>seen.contains y.2.2)=M:=by
   rw [List.filter_eq_self]
   intro y hy
   simpa using hall y hy
  rw [hall2] at hperm
  have hpL:xs.Perm (zdd L q):=hperm.trans (h4.perm.filter _)
  refine zl (l:=[]) (z2g (H:=W.heap) hh1 hmine (by omega)) ?_
  rintro e w2 ⟨rfl,ys,hys,hso,hm2,hx2⟩
  refine⟨(),rfl,s,rfl,?_,hxW.own hx2 (by intro b hb hlt;have:=zak hmine b hb;omega)⟩
  have hnm:∀ i∈ys,nmI i=i.names:=by
   intro i hi
   have h7:i∈L:=(List.mem_filter.1 (hpL.mem_iff.1 (hys.mem_iff.1 hi))).1
   unfold nmI;rw [zbe (h4.good.ok i h7).1]
  have heq:ys=zdd L q:=by
   refine zt5 (hys.trans hpL) ?_ (h4.good.rise.filter _)
   refine List.Pairwise.imp_of_mem (fun {a b} ha hb h=>?_) hso
   rw [hnm a ha,hnm b hb] at h;exact h
  rw [<-heq]
  exact hm2.mono (by omega)
 ·refine zbg (s:=.any) _ W1 hnx ?_ hc1
  refine zpz (s:=.bool) true rfl rfl ?_
  refine jc rfl ?_
  have hr1:W1.heap[H.size]?=some (.mapIter (some m) c (seen.push x.2.2) c):=by rw [hh1];exact Array.getElem?_setIfInBounds_self_of_lt hrlt
  have hx01:Ext [H.size] W.heap W1.heap:=by rw [hh1];exact Ext.set _ (by simp)
  have hm1:W1.heap[m]?=some (.map (ents keyS (vl z1w M)) c):=hx01.get hmW (by simp;omega)
  have hxL:x.2.1∈L:=h4.perm.mem_iff.1 (List.mem_map.2 ⟨x,hx,rfl⟩)
  have hkey:=h4.key x hx
  have hok:=(h4.good.ok _ hxL).1
  have hx1:Ext [] H W1.heap:=hxW.own hx01 (by intro b hb hlt;simp at hb;omega)
  have hmine1:Mine W1.heap (H.size+1) zk 4 s (xs.flatMap encI):=hmine.ext hx01 (fun b hb=>by have:=zak hmine b hb;simp only [List.mem_singleton];omega)
  have hpn:∀ (zs:List Ino),zs.Perm (if zgu q x.2.1=true then xs++[x.2.1] else xs)->zs.Perm (((M.filter fun y=>(seen.push x.2.2).contains y.2.2).map (·.2.1)).filter (zgu q)):=by
   intro zs hz
   refine hz.trans ?_
   have h5:=((zs7 h3.born hx hns).map (·.2.1)).filter (zgu q)
   rw [List.map_append,List.filter_append] at h5
   refine List.Perm.trans ?_ h5.symm
   simp only [List.map_cons,List.map_nil,List.filter_cons,List.filter_nil]
   split
   ·exact hperm.append_right _
   ·rw [List.append_nil];exact hperm
  have endK:∀ {W2:World}{s':Option Addr×Nat×Nat}{zs:List Ino},Ext (zbu s) W1.heap W2.heap->Mine W2.heap (H.size+1) zk 4 s' (zs.flatMap encI)->zs.Perm (if zgu q x.2.1=true then xs++[x.2.1] else xs)->K (s'.1,s'.2.1,s'.2.2) W2:=by
   intro W2 s' zs hx2 hm2 hz
   have hn:∀ b,b < H.size+1->b∉zbu s:=fun b hb h=>by have:=zak hmine1 b h;omega
   exact hK _ _ _ (zz0 hx hns) ⟨seen.push x.2.2,c,zs,hx1.own hx2 (by intro b hb hlt;exact absurd hb (hn b (by omega))),hx2.get hr1 (hn _ (by omega)),Nat.le_refl _,rfl,hm2,hpn zs hz⟩
  refine ku (fun (s':Option Addr×Nat×Nat) W2=>∃ zs:List Ino,Ext (zbu s) W1.heap W2.heap/\Mine W2.heap (H.size+1) zk 4 s' (zs.flatMap encI)/\zs.Perm (if zgu q x.2.1=true then xs++[x.2.1] else xs)) ?_ ?_
  rotate_left
  ·rintro s' W2 ⟨zs,g1,g2,g3⟩
   exact endK g1 g2 g3
  refine qw (s:=.any) _ (zy3 (last:=c) rfl hm1 hr1 hx h3) ?_
  refine zpz (s:=.str) (strOf x.1) rfl rfl ?_
  refine zpz (s:=.any) (z1w x.2.1) rfl rfl ?_
  rw [zcI]
  refine jg rfl fun W4 hW4=>?_
  have hx14:Ext [] W1.heap W4.heap:=by rw [hW4];exact .push _
  have hb4:W4.heap[W1.heap.size]?=some (.cells (raw [] 0 false []).toArray zk (0,0)):=by rw [hW4];exact zn
  refine stI rfl hb4 rfl (zhg _) zon fun W5 hW5=>?_
  have hb5:W5.heap[W1.heap.size]?=some (.cells (encI x.2.1).toArray zk (0,0)):=by rw [hW5];exact xk hb4
  have hx15:Ext [] W1.heap W5.heap:=by rw [hW5];exact hx14.set_own (.inl (Nat.le_refl _))
  refine zl (jf x.1 rfl) ?_
  rintro e W6 ⟨t,rfl,hm6,hx56⟩
  refine⟨t,rfl,?_⟩
  rw [hkey,zbe hok] at hm6
  have htl:t.2.1=x.2.1.names.length:=by have:=hm6.len;simp at this;omega
  have htc:t.2.1<=t.2.2:=by
   rcases hm6 with⟨rfl,_⟩ | ⟨_,_,_,_,_,_,_,h,_⟩
   ·exact Nat.le_refl _
   ·exact h
  have hx16:=hx15.trans hx56
  have hok8:=hok.2
  have skip:∀ {W2:World},Ext [] W1.heap W2.heap->zgu q x.2.1=false->∃ zs:List Ino,Ext (zbu s) W1.heap W2.heap/\Mine W2.heap (H.size+1) zk 4 (s.1,s.2.1,s.2.2) (zs.flatMap encI)/\zs.Perm (if zgu q x.2.1=true then xs++[x.2.1] else xs):=by
   intro W2 h hb
   exact⟨xs,h.mono (by simp),hmine1.ext h (by simp),by rw [hb];exact .refl _⟩
  refine qm (fun hgt=>?_) (fun hle=>?_)
  ·have hgt':q.length < x.2.1.names.length:=by omega
   refine zl (zvx (p:=x.2.1.names) rfl hm6.cells htl htc ((hL.ext hx1 (by simp)).ext hx16 (by simp)) hn (by omega) (by omega)) ?_
   rintro e W7 ⟨rfl,hW7⟩
   refine⟨_,rfl,?_⟩
   have hx17:Ext [] W1.heap W7.heap:=by rw [hW7];exact hx16
   cases hwi:zjn x.2.1.names q with
   | false=>
    refine qg rfl ?_
    exact skip hx17 (by unfold zgu;rw [hwi];simp)
   | true=>
    refine jc rfl ?_
    have hbq:zgu q x.2.1=true:=by unfold zgu;rw [hwi,decide_eq_true hgt'];rfl
    have hb7:W7.heap[W1.heap.size]?=some (.cells (encI x.2.1).toArray zk (0,0)):=by rw [hW7];exact hx56.get hb5 (by simp)
    refine xw rfl hb7 rfl ?_
    refine zbg (s:=.slc) (some ⟨W7.heap.size,0,none⟩,1,1) _ (zke EI uI (v:=.agg (encI x.2.1).toArray) rfl (by omega) (by omega)) ?_
    have hxp:Ext [] W7.heap (W7.heap.push (.cells (Value.agg (encI x.2.1).toArray).cells zk)):=.push _
    refine zdr (n:=1) (us:=encI x.2.1) (H:=W7.heap.push (.cells (Value.agg (encI x.2.1).toArray).cells zk)) EI (by omega) uI (zbs uI) rfl ((hmine1.ext hx17 (by simp)).ext hxp (by simp)) (by have:=hx1.1;have:=hx17.1;have:=lt_of_get hr1;simp;omega)
     (Src.slc rfl (.inr ⟨W7.heap.size,0,_,_,_,rfl,zn,by simp [Value.cells,zhg],by simp [Value.cells]⟩) (by rw [zhg])) zon (by omega) ?_
    intro x' W9 hm9 hl9 hx9 _
    refine⟨xs++[x.2.1],(hx17.mono (by simp)).trans ((hxp.mono (by simp)).trans hx9),?_,by rw [hbq];exact .refl _⟩
    rw [List.flatMap_append,List.flatMap_singleton]
    exact hm9
  ·exact skip hx16 (by unfold zgu;rw [decide_eq_false (by omega)];rfl)
def zm1 (ls:List (List Fil)) (L:List Ino) (q:Path):Bool:=
 !decide (q=[])&&((zl2 ls L (q.take (q.length-1)) (q.length-1) (zg1 ls)).2&&!decide ((zbd ls (jd q) (zl2 ls L (q.take (q.length-1)) (q.length-1) (zg1 ls)).1.dirs sn0).file.path=[]))
set_option maxHeartbeats 4000000 in
theorem z3k {w:World}{H:Heap}{u p m n nc:Nat}{nn bb:Int}{ls:List (List Fil)}{L:List Ino}{a:Option Addr}{q:Path}(hw:w.heap=H) (hU:zid H u p m nn bb ls L) (hl:ls.length<=1000000)
  (hL:Cells H a (strRow q)) (hn:n=q.length) (hnc:n<=nc) (hq:okP q) :
  zx P zbp #[.pointer (some ⟨u,0,none⟩),.slice a n nc] w fun e w'=>e=.returned (.bool (zm1 ls L q))/\Ext [] H w'.heap:=by
 have hq8:=hq.2
 refine zkq ?_
 unfold zgv
 refine ku (fun _ w'=>w'=w/\q≠[]) ?_ ?_
 ·refine qg rfl ?_
  refine zc9 (fun h=>?_) (fun h=>?_)
  ·have:q=[]:=List.eq_nil_of_length_eq_zero (by omega)
   exact⟨by simp [zm1,this],by rw [hw];exact .refl _ _⟩
  refine zl (zyn hw hL hn hq.fit (by omega)) ?_
  rintro e w1 ⟨rfl,rfl⟩
  refine⟨_,rfl,?_⟩
  refine qg (by simp [zsm.2 hq]) ⟨rfl,fun h'=>h (by rw [hn,h'];rfl)⟩
 rintro _ w2 ⟨rfl,hne⟩
 have hpos:0 < q.length:=List.length_pos_iff.2 hne
 refine zh8 ((q.length-1:Nat):Int) (by omega) (by omega) (by omega) ?_
 obtain⟨a',hcut,hLc⟩:=zrk (i:=q.length-1) (n:=((q.length-1:Nat):Int)) zi4 zql hL hnc (by omega) rfl
 rw [Nat.mul_one,zcn] at hLc
 refine qw (s:=.slc) (a',q.length-1,nc) (hcut _) ?_
 have hlt:(q.take (q.length-1)).length=q.length-1:=by rw [List.length_take,Nat.min_eq_left (by omega)]
 refine zl (z4r hw hU hl hLc hlt.symm (show q.length-1<=nc by omega) (hq.take _)) ?_
 rintro e w3 ⟨y,rfl,hY,hx3⟩
 refine⟨(_,_),rfl,?_⟩
 have hd:=zq1 (ls:=ls) (L:=L) (q:=q.take (q.length-1)) (q.take (q.length-1)).length _ (DirOK.root (ls:=ls))
 rw [hlt] at hY hd |-
 obtain⟨r,hr⟩:∃ r,r=zl2 ls L (q.take (q.length-1)) (q.length-1) (zg1 ls):=⟨_,rfl⟩
 have hsh:zm1 ls L q=(r.2&&!decide ((zbd ls (jd q) r.1.dirs sn0).file.path=[])):=by unfold zm1;rw [<-hr];simp [hne]
 rw [<-hr] at hY hd |-
 refine zyo _ _ rfl fun w5 hw5=>?_
 have hx5:Ext [] w3.heap w5.heap:=by rw [hw5];exact .push _
 have h5:w5.heap[w3.heap.size]?=some (.cells (snC r.1 y).toArray zh (0,0)):=by rw [hw5];exact zn
 have hx05:=hx3.trans hx5
 refine za8 (p:=r.2=false) (by simp) (fun h2=>⟨by rw [hsh,h2];rfl,hx05⟩) (fun h2=>?_)
 refine zaj rfl fun w6 hw6=>?_
 rw [<-hw6] at h5 hx05
 refine jh (s:=.slc) (t:=y) rfl h5 rfl ?_
 refine zl (zg8 rfl (hL.ext hx05 (by simp)) hn hnc (by have:=hq.small;omega)) ?_
 rintro e w7 ⟨rfl,hx7⟩
 refine⟨_,rfl,?_⟩
 refine⟨jh (s:=.slc) (t:=y) rfl (hx7.get h5 (by simp)) rfl rfl,?_⟩
 have hY6:Mine w6.heap H.size zai 1 y (intRow r.1.dirs):=by rw [hw6];exact hY.ext hx5 (by simp)
 have hyl:y.2.1=r.1.dirs.length:=by have:=hY.len;rw [len_intRow] at this;omega
 refine zl (zwg (jd q) rfl (hU.1.ext (hx05.trans hx7)) (hY6.ext hx7 (by simp)).cells hyl hd.lt (by have:=hd.few;omega)) ?_
 rintro e w8 ⟨y',rfl,hY',hx8⟩
 refine⟨(_,_),rfl,?_⟩
 refine⟨?_,(hx05.trans hx7).trans hx8⟩
 rw [hsh]
 cases hr2:r.2 with
 | false=>exact absurd hr2 h2
 | true=>rfl
theorem zut {w:World}{H:Heap}{a:Option Addr}{n nc:Nat}{K:Path}{v:List UInt8}(hw:w.heap=H) (hL:Cells H a (strRow K)) (hn:n=K.length) (hm:K.length<=1099511627776) :
  zx P zav #[.slice a n nc,.string (strOf v)] w fun e w'=>e=.returned (.bool (decide (v∈K)))/\w'=w:=by
 refine zeo ?_
 unfold zb2
 refine zl (l:=[.int .i64]) (R:=fun e w'=>w'=w/\((v∉K/\e=.returned (.int .i64 (-1)))\/∃ i:Nat,v∈K/\e=.returned (.int .i64 (i:Int)))) ?_ ?_
 ·refine zfn ?_
  unfold zch
  refine zds (fun s w'=>w'=w/\∃ i:Nat,s=(i:Int)/\i<=K.length/\v∉K.take i) (fun s _=>(K.length-s).toNat) ⟨rfl,0,rfl,Nat.zero_le _,by simp⟩ ?_
  rintro s w1 ⟨rfl,i,rfl,hi,hv⟩
  refine qm (fun h=>?_) (fun h=>?_)
  ·have hlt:i < K.length:=by omega
   refine zps hw hL hn hlt rfl ?_
   refine za8 (p:=v=K[i]) zyz (fun he=>⟨rfl,.inr ⟨i,by rw [he];exact List.getElem_mem _,rfl⟩⟩) (fun he=>?_)
   refine zas ((i+1:Nat):Int) (by omega) (by omega) (by omega) ⟨⟨rfl,i+1,rfl,hlt,?_⟩,?_⟩
   ·intro hmem
    rw [List.take_add_one,List.getElem?_eq_getElem hlt] at hmem
    rcases List.mem_append.1 hmem with h' | h'
    ·exact hv h'
    ·simp at h';exact he h'
   ·show ((K.length:Int)-((i+1:Nat):Int)).toNat < ((K.length:Int)-(i:Int)).toNat
    omega
  ·have:i=K.length:=by omega
   subst this
   rw [List.take_length] at hv
   exact⟨rfl,.inl ⟨hv,rfl⟩⟩
 ·rintro e w1 ⟨rfl,⟨hv,rfl⟩ | ⟨i,hv,rfl⟩⟩
  ·exact⟨_,rfl,by simp [hv],rfl⟩
  ·exact⟨_,rfl,by simp [hv],rfl⟩
def zko (q:Path) (path:List UInt8):Option (List UInt8):=if (jm path).1.length=q.length+1/\zjn (jm path).1 q=true then (jm path).1[q.length]? else none
def zqs (q:Path) (K:Path) (path:List UInt8):Path:=match zko q path with
 | some n=>if n∈K then K else K++[n]
 | none=>K
theorem zr8 {q K:Path}{path n:List UInt8}:n∈zqs q K path ↔ n∈K\/zko q path=some n:=by
 unfold zqs
 cases h:zko q path with
 | none=>simp
 | some m=>
  dsimp only
  split
  ·rename_i hm
   constructor
   ·exact .inl
   ·rintro (h | h)
    ·exact h
    ·cases h;exact hm
  ·simp [eq_comm]
theorem znd {q K:Path}{path:List UInt8}(h:K.Nodup):(zqs q K path).Nodup:=by
 unfold zqs
 split
 ·split
  ·exact h
  ·rename_i n _ hn
   exact List.nodup_append.2 ⟨h,by simp,fun a ha b hb e=>by simp at hb;subst hb e;exact hn ha⟩
 ·exact h
theorem zvq {q K:Path}{path:List UInt8}:(zqs q K path).length<=K.length+1:=by
 unfold zqs
 split
 ·split
  ·omega
  ·simp
 ·omega
def zgw (H:Heap) (b5 b7:Nat) (a:Option Addr) (n nc:Nat) (K:Path) (W:World):Prop:=
 ∃ x,W.heap[b5]?=some (.cells #[.slice a n nc] zu (0,0))/\W.heap[b7]?=some (.cells #[zhq x] zu (0,0))/\Mine W.heap H.size qy 1 x (strRow K)/\Ext [b7] H W.heap
def Keep (b7:Nat) (H H':Heap):Prop:=∀ r o,H[r]?=some o->r≠b7->(∀ c,o≠.cells c qy (0,0))->H'[r]?=some o
theorem Keep.ext {b7:Nat}{H H':Heap}(h:Ext [] H H'):Keep b7 H H':=fun _ _ hr _ _=>h.get hr (by simp)
theorem zgw.ext {H:Heap}{b5 b7 n nc:Nat}{a:Option Addr}{K:Path}{W W':World}(h:zgw H b5 b7 a n nc K W) (hx:Ext [] W.heap W'.heap):zgw H b5 b7 a n nc K W':=by
 obtain⟨x,h1,h2,h3,h4⟩:=h
 exact⟨x,hx.get h1 (by simp),hx.get h2 (by simp),h3.ext hx (by simp),h4.trans (hx.mono (by simp))⟩
set_option maxHeartbeats 4000000 in
theorem z2i {w:World}{H:Heap}{b5 b7 n nc:Nat}{a:Option Addr}{K q:Path}(path:List UInt8) (hS:zgw H b5 b7 a n nc K w) (hL:Cells H a (strRow q)) (hab:∀ x,a=some x->strRow q≠[]->x.block∉[b7]) (h57:b5≠b7) (h5:b5 < H.size) (h7:b7 < H.size) (hn:n=q.length) (hq:okP q) (hK:K.length<=1000000) :
  zx P zae #[.string (strOf path),.pointer (some ⟨b5,0,none⟩),.pointer (some ⟨b7,0,none⟩)] w fun e w'=>e=.returned (.tuple #[])/\zgw H b5 b7 a n nc (zqs q K path) w'/\Keep b7 w.heap w'.heap:=by
 have hq8:=hq.2
 obtain⟨x,g5,g7,hM,hx⟩:=hS
 refine zjy ?_
 unfold zgg
 refine zl (zj0 path rfl) ?_
 rintro e w1 ⟨t,rfl,ht,hx1⟩
 refine⟨(_,_),rfl,?_⟩
 obtain⟨p,hp⟩:∃ p,p=(jm path).1:=⟨_,rfl⟩
 have hkid:zko q path=if p.length=q.length+1/\zjn p q=true then p[q.length]? else none:=by unfold zko;rw [hp]
 have hpok:okP p:=by rw [hp];exact zka path
 rw [<-hp] at ht
 refine zaj rfl fun w2 hw2=>?_
 have hx2:Ext [] w.heap w2.heap:=by rw [hw2];exact hx1
 rw [<-hw2] at ht
 have g52:=hx2.get g5 (by simp)
 have g72:=hx2.get g7 (by simp)
 have htl:t.2.1=p.length:=by have:=ht.len;rw [jl] at this;omega
 have htc:t.2.1<=t.2.2:=by
  rcases ht with⟨rfl,_⟩ | ⟨_,_,_,_,_,_,_,h,_⟩
  ·exact Nat.le_refl _
  ·exact h
 have hp8:=hpok.2
 have hxH2:Ext [b7] H w2.heap:=hx.trans (hx2.mono (by simp))
 have hL2:=hL.ext hxH2 hab
 have hM2:=hM.ext hx2 (by simp)
 have stay:∀ {W:World},W.heap=w2.heap->zko q path=none\/(∃ n,zko q path=some n/\n∈K)->True/\zgw H b5 b7 a n nc (zqs q K path) W/\Keep b7 w.heap W.heap:=by
  intro W hW hk
  have:zqs q K path=K:=by
   unfold zqs
   rcases hk with h | ⟨m,h,hm⟩
   ·rw [h]
   ·rw [h];simp [hm]
  rw [this]
  exact⟨trivial,⟨x,by rw [hW];exact g52,by rw [hW];exact g72,by rw [hW];exact hM2,by rw [hW];exact hxH2⟩,.ext (by rw [hW];exact hx2)⟩
 simp only [qo]
 refine jh (s:=.slc) (t:=(a,n,nc)) rfl g52 rfl ?_
 refine zas ((q.length+1:Nat):Int) (by show (n:Int)+1=_;omega) (by omega) (by omega) ?_
 refine zc9 (fun hle=>?_) (fun hle=>stay rfl (.inl (by rw [hkid,if_neg (fun h=>hle (by omega))])))
 refine jh (s:=.slc) (t:=(a,n,nc)) rfl g52 rfl ?_
 refine zl (zvx rfl ht.cells htl htc hL2 (show n=_ from hn) (by omega) (by omega)) ?_
 rintro e w3 ⟨rfl,hw3⟩
 refine⟨_,rfl,?_⟩
 cases hwi:zjn p q with
 | false=>exact qg rfl (stay hw3 (.inl (by rw [hkid,hwi];simp)))
 | true=>
  refine jc rfl ?_
  have hpl:p.length=q.length+1:=by omega
  have hix:q.length < p.length:=by omega
  have hkid':zko q path=some p[q.length]:=by rw [hkid,if_pos ⟨hpl,hwi⟩,List.getElem?_eq_getElem hix]
  rw [<-hw3] at g52 g72 ht
  refine jh (s:=.slc) (t:=x) rfl g72 rfl ?_
  refine jh (s:=.slc) (t:=(a,n,nc)) rfl g52 rfl ?_
  refine zps rfl ht.cells htl hix (by show (n:Int)=_;omega) ?_
  have hM3:Mine w3.heap H.size qy 1 x (strRow K):=by rw [hw3];exact hM2
  have hxl:x.2.1=K.length:=by have:=hM3.len;rw [jl] at this;omega
  refine zl (zut rfl hM3.cells hxl (by omega)) ?_
  rintro e w4 ⟨rfl,rfl⟩
  refine⟨_,rfl,?_⟩
  by_cases hmem:p[q.length]∈K
  ·exact qg (by simp [hmem]) (stay hw3 (.inr ⟨_,hkid',hmem⟩))
  ·refine jc (by simp [hmem]) ?_
   refine zaj rfl fun w5 hw5=>?_
   rw [<-hw5] at g52 g72 ht hM3
   refine jh (s:=.slc) (t:=x) rfl g72 rfl ?_
   refine jh (s:=.slc) (t:=(a,n,nc)) rfl g52 rfl ?_
   refine zps rfl ht.cells htl hix (by show (n:Int)=_;omega) ?_
   refine z5x _ rfl fun a1 w6 hx6 hc6=>?_
   refine⟨jh (s:=.slc) (t:=x) rfl (hx6.get g72 (by simp)) rfl rfl,?_⟩
   have hw25:w5.heap=w2.heap:=hw5.trans hw3
   have hx05:Ext [] w.heap w5.heap:=by rw [hw25];exact hx2
   have hsz:H.size<=w5.heap.size:=by have:=hx.1;have:=hx05.1;omega
   have hge:=zak hM3
   have hin:=zjz hM3
   refine zdr (n:=1) z4u (by omega) zi4 (zbs zi4) rfl (hM3.ext hx6 (by simp)) (by have:=hx6.1;omega) (Src.slc rfl hc6 (by simp)) zq2 (by omega) fun x' w7 hm7 hl7 hx7 hs7=>?_
   have g77:=hx7.get (hx6.get g72 (by simp)) (fun h=>by have:=hge _ h;omega)
   have g57:=hx7.get (hx6.get g52 (by simp)) (fun h=>by have:=hge _ h;omega)
   refine zdj rfl g77 (by simp) fun w8 hw8=>?_
   have hx78:Ext [b7] w7.heap w8.heap:=by rw [hw8];exact Ext.set _ (by simp)
   have hadd:zqs q K path=K++[p[q.length]]:=by unfold zqs;rw [hkid'];simp [hmem]
   rw [hadd]
   refine⟨trivial,⟨x',hx78.get g57 (by simpa using h57),by rw [hw8];exact xk g77,?_,?_⟩,?_⟩
   ·rw [<-zh7]
    exact hm7.ext hx78 (fun b hb hbm=>by have:=zak hm7 b hb;simp at hbm;omega)
   ·have h1:Ext [b7] H w6.heap:=(hx.trans (hx05.mono (by simp))).trans (hx6.mono (by simp))
    exact (h1.own hx7 (fun b hb hlt=>by have:=hge b hb;omega)).trans hx78
   ·intro r o hr hne hc
    have h1:=hx6.get (hx05.get hr (by simp)) (by simp)
    refine hx78.get (hx7.get h1 (fun hb=>?_)) (by simpa using hne)
    obtain⟨c,hcc⟩:=(hin r hb).2
    have:=hx6.get hcc (by simp)
    rw [h1] at this
    exact hc c (Option.some.inj this)
theorem zsd {q:Path}{n:List UInt8}:∀ {C:List (List UInt8)}{K:Path},n∈C.foldl (zqs q) K ↔ n∈K\/∃ p∈C,zko q p=some n
 | [],K=>by simp
 | c :: C,K=>by
  rw [List.foldl_cons,zsd,zr8]
  simp [or_assoc]
theorem zng {q:Path}:∀ {C:List (List UInt8)}{K:Path},K.Nodup->(C.foldl (zqs q) K).Nodup
 | [],_,h=>h
 | c :: C,K,h=>zng (C:=C) (K:=zqs q K c) (znd h)
theorem zxl {K K':Path}(h:K.Perm K'):sortS K=sortS K':=by
 have tot:∀ a b:List UInt8,(decide (a<=b) || decide (b<=a))=true:=fun a b=>by simpa using Std.le_total (a:=a) (b:=b)
 have tr:∀ a b c:List UInt8,decide (a<=b)=true->decide (b<=c)=true->decide (a<=c)=true:=fun a b c h1 h2=>by simp only [decide_eq_true_eq] at *;exact Std.le_trans h1 h2
 have h1:=List.pairwise_mergeSort tr tot K
 have h2:=List.pairwise_mergeSort tr tot K'
 refine List.Perm.eq_of_pairwise (le:=fun a b=>decide (a<=b)=true) ?_ h1 h2 (((List.mergeSort_perm K _).trans h).trans (List.mergeSort_perm K' _).symm)
 intro a b _ _ hab hba
 simp only [decide_eq_true_eq] at hab hba
 exact Std.le_antisymm hab hba
def lyP (ls:List (List Fil)) (i:Nat):List (List UInt8):=(ls.getD i []).map (·.path)
def zr9 (ls:List (List Fil)) (L:List Ino) (s:Sn) (q:Path):List (List UInt8):=s.dirs.flatMap (lyP ls)++(zdd L q).map fun i=>jd i.names
def zjf (ls:List (List Fil)) (L:List Ino) (s:Sn) (q:Path):Path:=sortS ((zr9 ls L s q).foldl (zqs q) [])
theorem z0n {ls:List (List Fil)}{L:List Ino}{s:Sn}{q K:Path}(hn:K.Nodup) (hm:∀ n,n∈K ↔ ∃ p∈zr9 ls L s q,zko q p=some n):sortS K=zjf ls L s q:=by
 refine zxl ((List.perm_ext_iff_of_nodup hn (zng List.nodup_nil)).2 fun n=>?_)
 rw [hm,zsd]
 simp
structure LsOK (ls:List (List Fil)):Prop where
 few:ls.length<=4
 small:∀ Ly∈ls,Ly.length<=512
theorem zyj {H H':Heap}{b7 B sz:Nat}{T:TypeId}{x:Option Addr×Nat×Nat}{vs:List Value}(h:Mine H B T sz x vs) (hk:Keep b7 H H') (hT:T≠qy) (hb:∀ b∈zbu x,b≠b7):Mine H' B T sz x vs:=by
 rcases h with h | ⟨b,c,hx,h1,h2,h3⟩
 ·exact .inl h
 ·exact .inr ⟨b,c,hx,h1,hk b _ h2 (hb b (by simp [zbu,hx])) (fun c' e=>hT (by cases e;rfl)),h3⟩
theorem mkK (p1 p2:Option Addr) (w:World):(Instr.makeFunc (Go.Fn.func zae) #[] #[.pointer p1,.pointer p2]).run P w=.ok (.func (.func zae) #[] #[.pointer p1,.pointer p2]) w:=by kernel_rfl
theorem zgw.heap {H:Heap}{b5 b7 n nc:Nat}{a:Option Addr}{K:Path}{W W':World}(h:zgw H b5 b7 a n nc K W) (hx:W'.heap=W.heap):zgw H b5 b7 a n nc K W':=h.ext (by rw [hx];exact .refl _ _)
theorem zgw.set {H:Heap}{b5 b7 n nc r:Nat}{a:Option Addr}{K:Path}{W W':World}{o o':Obj}(h:zgw H b5 b7 a n nc K W) (hr:W.heap[r]?=some o) (hc:∀ c T f,o≠.cells c T f) (hr3:H.size<=r) (hx:W'.heap=W.heap.setIfInBounds r o'):zgw H b5 b7 a n nc K W':=by
 obtain⟨x,h1,h2,h3,h4⟩:=h
 have ne:∀ {b c T f},W.heap[b]?=some (.cells c T f)->b∉[r]:=by
  intro b c T f hb hbr
  simp at hbr;subst hbr
  rw [hr] at hb
  exact hc _ _ _ (Option.some.inj hb)
 have hxs:Ext [r] W.heap W'.heap:=by rw [hx];exact Ext.set _ (by simp)
 exact⟨x,hxs.get h1 (ne h1),hxs.get h2 (ne h2),h3.ext hxs (fun b hb=>by obtain⟨c,hcc⟩:=(zjz h3 b hb).2;exact ne hcc),h4.own hxs (fun b hb hlt=>by simp at hb;omega)⟩
theorem z7g {w:World}{H:Heap}{b5 b7 n nc:Nat}{a:Option Addr}{K q:Path}(path:List UInt8) (hS:zgw H b5 b7 a n nc K w) (hL:Cells H a (strRow q)) (hab:∀ x,a=some x->strRow q≠[]->x.block∉[b7]) (h57:b5≠b7) (h5:b5 < H.size) (h7:b7 < H.size) (hn:n=q.length) (hq:okP q) (hK:K.length<=1000000){Q:Tup []->World->Prop}
  (hQ:∀ w',zgw H b5 b7 a n nc (zqs q K path) w'->Keep b7 w.heap w'.heap->Q () w') :
  zpi P (.func (.func zae) #[] #[.pointer (some ⟨b5,0,none⟩),.pointer (some ⟨b7,0,none⟩)]) #[.string (strOf path)] [] true w Q:=by
 refine .func zae #[] #[.pointer (some ⟨b5,0,none⟩),.pointer (some ⟨b7,0,none⟩)] rfl ?_
 refine zx.mono (R:=fun e w'=>e=.returned (.tuple #[])/\zgw H b5 b7 a n nc (zqs q K path) w'/\Keep b7 w.heap w'.heap) (z2i path hS hL hab h57 h5 h7 hn hq hK) ?_
 rintro e w' ⟨rfl,h1,h2⟩
 exact⟨(),rfl,hQ w' h1 h2⟩
set_option maxHeartbeats 8000000 in
theorem z4q {w:World}{H:Heap}{u p m n nc:Nat}{nn bb:Int}{ls:List (List Fil)}{L:List Ino}{a:Option Addr}{q:Path}{s:Sn}{x:Option Addr×Nat×Nat}(hw:w.heap=H) (hU:zid H u p m nn bb ls L) (hls:LsOK ls)
  (hD:Cells H x.1 (intRow s.dirs)) (hxl:x.2.1=s.dirs.length) (hd:DirOK ls.length s) (hL:Cells H a (strRow q)) (hn:n=q.length) (hq:okP q) :
  zx P zfb #[.pointer (some ⟨u,0,none⟩),.agg (snC s x).toArray,.slice a n nc] w fun e w'=>∃ y,e=.returned (zhq y)/\Mine w'.heap H.size qy 1 y (strRow (zjf ls L s q))/\Ext [] H w'.heap/\(zjf ls L s q).length<=4000:=by
 have hq8:=hq.2
 have hf4:=hls.few
 have hdf:=hd.few
 refine zln ?_
 unfold zg7
 refine jg hw fun w1 hw1=>?_
 refine jg rfl fun w2 hw2=>?_
 rw [z8v]
 refine jg rfl fun w3 hw3=>?_
 have e1:w1.heap.size=H.size+1:=by rw [hw1];simp
 have e2:w2.heap.size=H.size+2:=by rw [hw2];simp [e1]
 have e3:w3.heap.size=H.size+3:=by rw [hw3];simp [e2]
 have hx3:Ext [] H w3.heap:=by rw [hw3,hw2,hw1];exact (Ext.push _).push_own.push_own
 have h4:w3.heap[H.size]?=some (.cells (snC s x).toArray zh (0,0)):=by rw [hw3,hw2,hw1];exact zac (zac zn)
 have h5:w3.heap[H.size+1]?=some (.cells #[.slice a n nc] zu (0,0)):=by rw [hw3,hw2,<-e1];exact zac zn
 have h7:w3.heap[H.size+2]?=some (.cells #[zhq (none,0,0)] zu (0,0)):=by rw [hw3,<-e2];exact zn
 rw [e1,e2]
 obtain⟨b5,hb5⟩:∃ b5,b5=H.size+1:=⟨_,rfl⟩
 obtain⟨b7,hb7⟩:∃ b7,b7=H.size+2:=⟨_,rfl⟩
 rw [<-hb5] at h5 |-
 rw [<-hb7] at h7 |-
 refine qw (s:=.any) _ (mkK _ _ _) ?_
 refine jh (s:=.slc) (t:=x) rfl h4 rfl ?_
 obtain⟨H3,hH3⟩:∃ H3,H3=w3.heap:=⟨_,rfl⟩
 have hL3:Cells H3 a (strRow q):=by rw [hH3];exact hL.ext hx3 (by simp)
 have hab:∀ x,a=some x->strRow q≠[]->x.block∉[b7]:=by
  intro z hz hne
  obtain⟨z',hz',hlt⟩:=hL.lt hne
  rw [hz] at hz'
  cases hz'
  simp;omega
 have hKS:zgw H3 b5 b7 a n nc [] w3:=by rw [hH3];exact⟨(none,0,0),h5,h7,.inl ⟨rfl,rfl⟩,.refl _ _⟩
 have old:∀ {K:Path}{W:World},zgw H3 b5 b7 a n nc K W->Ext [] H W.heap:=by
  rintro K W ⟨_,_,_,_,hx⟩
  exact hx3.own (hH3▸hx) (fun b hb hlt=>by simp at hb;omega)
 have call:∀ {K:Path}{W:World}(path:List UInt8){Q:Tup []->World->Prop},zgw H3 b5 b7 a n nc K W->K.length<=1000000->(∀ w',zgw H3 b5 b7 a n nc (zqs q K path) w'->Keep b7 W.heap w'.heap->Q () w') ->
   zpi P (.func (.func zae) #[] #[.pointer (some ⟨b5,0,none⟩),.pointer (some ⟨b7,0,none⟩)]) #[.string (strOf path)] [] true W Q:=by
  intro K W path Q hS hK hQ
  exact z7g path hS hL3 hab (by omega) (by rw [hH3];omega) (by rw [hH3];omega) hn hq hK hQ
 refine za3 (fun k s1 W=>∃ (i:Nat) (K:Path),s1=(i:Int)/\k+i=s.dirs.length/\zgw H3 b5 b7 a n nc K W/\K.Nodup/\(∀ n,n∈K ↔ ∃ p∈(s.dirs.take i).flatMap (lyP ls),zko q p=some n)/\K.length<=512 * i) s.dirs.length ⟨0,[],rfl,rfl,hKS,List.nodup_nil,by simp,by simp⟩ ?_
 rintro k s1 W ⟨i,K,rfl,hk,hS,hKn,hKm,hKl⟩ Q hQ
 have hxW:=old hS
 have hUW:=hU.ext hxW
 refine qm (fun h=>?_) (fun h=>?_)
 ·have hi:i < s.dirs.length:=by omega
  obtain⟨xl,ms,u1,u2,u3,u4,u5⟩:=hUW.1
  refine ix1 (s:=.int .i64) (t:=(s.dirs[i]:Int)) (i:=i) rfl (hD.ext hxW (by simp)) (by rw [len_intRow,hxl]) (by simp [intRow,hi];rfl) rfl ?_
  simp only [qo]
  refine jh (s:=.slc) (t:=xl) rfl u1 rfl ?_
  have hdi:=hd.lt _ (List.getElem_mem hi)
  obtain⟨mm,hmi⟩:∃ m,ms[s.dirs[i]]?=some m:=⟨ms[s.dirs[i]]'(by omega),by simp⟩
  refine ix1 (s:=.map) (t:=some mm) (i:=s.dirs[i]) rfl u2 (by simp [u3]) (by simp [hmi,z5e];rfl) rfl ?_
  obtain⟨M,c,m1,m2,m3,m4⟩:=u5 _ _ hmi
  have hMl:M.length<=512:=by
   have h1:=m3.length_eq
   rw [List.length_map] at h1
   have h2:ls.getD s.dirs[i] []∈ls:=by rw [List.getD_eq_getElem?_getD,List.getElem?_eq_getElem hdi];exact List.getElem_mem _
   have:=hls.small _ h2
   omega
  refine zbg (s:=.ptr) (some ⟨W.heap.size,0,none⟩) _ (zye uLm rfl m1) ?_
  have hmlt:=lt_of_get m1
  have hWs:b7 < W.heap.size:=by have:=hxW.1;obtain⟨_,_,g7,_⟩:=hS;exact lt_of_get g7
  have hne7:∀ {W:World}{K:Path}{o:Obj}{r:Nat},zgw H3 b5 b7 a n nc K W->W.heap[r]?=some o->(∀ c T f,o≠.cells c T f)->r≠b7:=by
   rintro W K o r ⟨_,_,g7,_⟩ hr hc rfl
   rw [hr] at g7
   exact hc _ _ _ (Option.some.inj g7)
  have hH3W:H3.size<=W.heap.size:=by obtain⟨_,_,_,_,hx⟩:=hS;exact hx.1
  refine za3 (fun k _ W'=>∃ (seen:Array Nat) (last:Nat) (K':Path),zgw H3 b5 b7 a n nc K' W'/\K'.Nodup/\(∀ n,n∈K' ↔ n∈K\/∃ x∈M.filter (fun y=>seen.contains y.2.2),zko q x.1=some n)/\K'.length<=512 * i+(M.filter fun y=>seen.contains y.2.2).length /\
   W'.heap[W.heap.size]?=some (.mapIter (some mm) c seen last)/\W'.heap[mm]?=some (.map (ents keyS (vl z3h M)) c)/\c<=last/\k=(M.filter fun y=>!seen.contains y.2.2).length) (M.filter fun y=>!(#[]:Array Nat).contains y.2.2).length ?_ ?_
  ·exact⟨#[],c,K,hS.ext (.push _),hKn,by simp,by simp;omega,zn,zac m1,Nat.le_refl _,rfl⟩
  rintro k2 _ W' ⟨seen,last,K',hS',hKn',hKm',hKl',hr',hm',hcl,rfl⟩ Q' hQ'
  have hfl:=List.length_filter_le (fun y:List UInt8×Fil×Nat=>seen.contains y.2.2) M
  rcases z1o (P:=P) (ty:=zft) rfl hm' hr' (fun x hx=>m2.old x hx) hcl with⟨hall,W1,hnx,hc1,hh1⟩ | ⟨z,hz,hns,W1,hnx,hc1,hh1⟩
  ·refine zbg (s:=.any) _ W1 hnx ?_ hc1
   refine zpz (s:=.bool) false rfl rfl ?_
   refine qg rfl ?_
   refine zas ((i+1:Nat):Int) (by omega) (by omega) (by omega) ?_
   have hall2:(M.filter fun y=>seen.contains y.2.2)=M:=by
    rw [List.filter_eq_self]
    intro y hy
    simpa using hall y hy
   rw [hall2] at hKm' hKl'
   refine hQ (k-1) _ _ (by omega) ⟨i+1,K',rfl,by omega,hS'.heap hh1,hKn',fun n=>?_,by omega⟩
   rw [hKm',hKm,List.take_add_one,List.getElem?_eq_getElem hi]
   simp only [Option.toList_some,List.flatMap_append,List.flatMap_singleton,List.mem_append]
   have hly:∀ pp,pp∈lyP ls s.dirs[i] ↔ ∃ x∈M,x.1=pp:=by
    intro pp
    unfold lyP
    rw [List.mem_map]
    constructor
    ·rintro ⟨f,hf,rfl⟩
     obtain⟨x,hx,rfl⟩:=List.mem_map.1 (m3.mem_iff.2 hf)
     exact⟨x,hx,m4 x hx⟩
    ·rintro ⟨x,hx,rfl⟩
     exact⟨x.2.1,m3.mem_iff.1 (List.mem_map.2 ⟨x,hx,rfl⟩),(m4 x hx).symm⟩
   constructor
   ·rintro (⟨pp,h1,h2⟩ | ⟨x,h1,h2⟩)
    ·exact⟨pp,.inl h1,h2⟩
    ·exact⟨x.1,.inr ((hly _).2 ⟨x,h1,rfl⟩),h2⟩
   ·rintro ⟨pp,h1 | h1,h2⟩
    ·exact .inl ⟨pp,h1,h2⟩
    ·obtain⟨x,hx,rfl⟩:=(hly _).1 h1
     exact .inr ⟨x,hx,h2⟩
  ·refine zbg (s:=.any) _ W1 hnx ?_ hc1
   refine zpz (s:=.bool) true rfl rfl ?_
   refine jc rfl ?_
   have hrlt:=lt_of_get hr'
   have hr1:W1.heap[W.heap.size]?=some (.mapIter (some mm) c (seen.push z.2.2) c):=by rw [hh1];exact Array.getElem?_setIfInBounds_self_of_lt hrlt
   have hm1:W1.heap[mm]?=some (.map (ents keyS (vl z3h M)) c):=by rw [hh1];exact zeh hm' (by omega)
   have hS1:=hS'.set hr' (by intros;simp) hH3W hh1
   refine qw (s:=.any) _ (zy3 (last:=c) rfl hm1 hr1 hz m2) ?_
   refine zpz (s:=.str) (strOf z.1) rfl rfl ?_
   refine call z.1 hS1 (by omega) fun w' hSw hkw=>?_
   have hsp:=zs7 m2.born hz hns
   have hspl:=hsp.length_eq
   simp only [List.length_append,List.length_cons,List.length_nil] at hspl
   refine hQ' _ _ _ (zz0 hz hns) ⟨seen.push z.2.2,c,zqs q K' z.1,hSw,znd hKn',fun n=>?_,?_,hkw _ _ hr1 (hne7 hS1 hr1 (by intros;simp)) (by intros;simp),hkw _ _ hm1 (hne7 hS1 hm1 (by intros;simp)) (by intros;simp),Nat.le_refl _,rfl⟩
   ·rw [zr8,hKm']
    constructor
    ·rintro ((h1 | ⟨x,h1,h2⟩) | h1)
     ·exact .inl h1
     ·exact .inr ⟨x,hsp.mem_iff.2 (List.mem_append_left _ h1),h2⟩
     ·exact .inr ⟨z,hsp.mem_iff.2 (by simp),h1⟩
    ·rintro (h1 | ⟨x,h1,h2⟩)
     ·exact .inl (.inl h1)
     ·rcases List.mem_append.1 (hsp.mem_iff.1 h1) with h3 | h3
      ·exact .inl (.inr ⟨x,h3,h2⟩)
      ·simp at h3;subst h3;exact .inr h2
   ·have:=zvq (q:=q) (K:=K') (path:=z.1)
    omega
 ·have hi:i=s.dirs.length:=by omega
  subst hi
  rw [List.take_length] at hKm
  refine zaj rfl fun w9 hw9=>?_
  replace hS:=hS.heap hw9
  have hx9:=old hS
  obtain⟨xl,ms,u1,u2⟩:=(hU.ext hx9).1
  obtain⟨y9,g5,g7,g9⟩:=id hS
  simp only [qo,Addr.add,Nat.zero_add,Option.map_none]
  refine jh (s:=.ptr) (t:=some ⟨p,0,none⟩) rfl u1 rfl ?_
  refine jh (s:=.slc) (t:=(a,n,nc)) rfl g5 rfl ?_
  refine zl (zy0 rfl (hU.ext hx9).2 (hL.ext hx9 (by simp)) (show n=_ from hn) (by omega)) ?_
  rintro e w10 ⟨z,rfl,hZ,hx10⟩
  refine⟨z,rfl,?_⟩
  have hS10:=hS.ext hx10
  have hzl:z.2.1=(zdd L q).length:=by have:=hZ.len;rw [ji encI zhg] at this;omega
  have hbl:(zdd L q).length<=1024:=by
   obtain⟨_,_,_,_,_,hst⟩:=hU.2
   have:=List.length_filter_le (zgu q) L
   have:=hst.good.many
   unfold zdd;omega
  have h9s:b7 < w9.heap.size:=lt_of_get g7
  have hZb:∀ b∈zbu z,b≠b7:=fun b hb h=>by have:=zak hZ b hb;omega
  refine za3 (fun k s3 W=>∃ (j:Nat) (K':Path),s3=(j:Int)/\k+j=(zdd L q).length/\zgw H3 b5 b7 a n nc K' W/\K'.Nodup/\(∀ n,n∈K' ↔ n∈K\/∃ ii∈(zdd L q).take j,zko q (jd ii.names)=some n)/\K'.length<=2048+j/\Mine W.heap w9.heap.size zk 4 z ((zdd L q).flatMap encI)) (zdd L q).length ⟨0,K,rfl,rfl,hS10,hKn,by simp,by omega,hZ⟩ ?_
  rintro k3 s3 W3 ⟨j,K',rfl,hk3,hS3,hKn3,hKm3,hKl3,hZ3⟩ Q3 hQ3
  refine qm (fun h=>?_) (fun h=>?_)
  ·have hj:j < (zdd L q).length:=by omega
   obtain⟨ii,hii⟩:∃ ii,ii=(zdd L q)[j]:=⟨_,rfl⟩
   refine zur (enc:=encI) zhg (by omega) rfl hZ3.cells hzl (i:=j) (v:=ii) (by rw [hii];exact List.getElem?_eq_getElem hj) rfl ?_
   refine z6v (some ii) rfl fun w12 hw12=>?_
   have hx12:Ext [] W3.heap w12.heap:=by rw [hw12];exact .push _
   have h12:w12.heap[W3.heap.size]?=some (.cells (encI ii).toArray zk (0,0)):=by rw [hw12];exact zn
   refine jh (s:=.str) (t:=strOf (jd ii.names)) rfl h12 rfl ?_
   refine call _ (hS3.ext hx12) (by omega) fun w' hSw hkw=>?_
   refine zas ((j+1:Nat):Int) (by omega) (by omega) (by omega) ?_
   refine hQ3 (k3-1) _ _ (by omega) ⟨j+1,_,rfl,by omega,hSw,znd hKn3,fun n=>?_,?_,zyj (hZ3.ext hx12 (by simp)) hkw (by decide) hZb⟩
   ·rw [zr8,hKm3,List.take_add_one,List.getElem?_eq_getElem hj,<-hii]
    simp only [Option.toList_some,List.mem_append,List.mem_singleton]
    constructor
    ·rintro ((h1 | ⟨x,h1,h2⟩) | h1)
     ·exact .inl h1
     ·exact .inr ⟨x,.inl h1,h2⟩
     ·exact .inr ⟨ii,.inr rfl,h1⟩
    ·rintro (h1 | ⟨x,h1 | rfl,h2⟩)
     ·exact .inl (.inl h1)
     ·exact .inl (.inr ⟨x,h1,h2⟩)
     ·exact .inr h2
   ·have:=zvq (q:=q) (K:=K') (path:=jd ii.names)
    omega
  ·have hj:j=(zdd L q).length:=by omega
   subst hj
   rw [List.take_length] at hKm3
   obtain⟨yy,q5,q7,q8,q9⟩:=hS3
   refine jh (s:=.slc) (t:=yy) rfl q7 rfl ?_
   refine zl (l:=[]) (z3t rfl q8 (by omega)) ?_
   rintro e w15 ⟨rfl,hM15,hx15⟩
   refine⟨(),rfl,?_⟩
   have hge:=zak q8
   have q75:=hx15.get q7 (fun hb=>by have:=hge _ hb;rw [hH3] at this;omega)
   refine jh (s:=.slc) (t:=yy) rfl q75 rfl ?_
   have hsz3:H3.size=H.size+3:=by rw [hH3];exact e3
   have heq:sortS K'=zjf ls L s q:=by
    refine z0n hKn3 (fun n=>?_)
    ·rw [hKm3,hKm]
     unfold zr9
     simp only [List.mem_append,List.mem_map]
     constructor
     ·rintro (⟨pp,h1,h2⟩ | ⟨ii,h1,h2⟩)
      ·exact⟨pp,.inl h1,h2⟩
      ·exact⟨_,.inr ⟨ii,h1,rfl⟩,h2⟩
     ·rintro ⟨pp,h1 | ⟨ii,h1,rfl⟩,h2⟩
      ·exact .inl ⟨pp,h1,h2⟩
      ·exact .inr ⟨ii,h1,h2⟩
   rw [heq] at hM15
   refine⟨yy,rfl,hM15.mono (by omega),?_,?_⟩
   rotate_left
   ·rw [<-heq];unfold sortS;rw [List.length_mergeSort];omega
   ·exact (hx3.own (hH3▸q9) (fun b hb hlt=>by simp at hb;omega)).own hx15 (fun b hb hlt=>by have:=hge b hb;omega)
theorem zyh {H H':Heap}{B b:Nat}{out:Option Addr×Nat×Nat}{vs:List Value}{c:Array Value}{T:TypeId}{f:Nat×Nat}(hO:Mine H B qj 3 out vs) (hx:Ext (zbu out) H H') (hb:H[b]?=some (.cells c T f)) (hT:T≠qj):H'[b]?=some (.cells c T f):=
 hx.get hb fun h=>by
  obtain⟨c',h'⟩:=(zjz hO b h).2
  rw [hb] at h'
  cases h'
  exact hT rfl
theorem zj8 {H:Heap}{B sz:Nat}{T:TypeId}{x:Option Addr×Nat×Nat}{vs:List Value}(h:Mine H B T sz x vs):x.2.1<=x.2.2:=by
 rcases h with⟨rfl,_⟩ | ⟨_,_,_,_,_,_,_,h,_⟩
 ·exact Nat.le_refl _
 ·exact h
theorem zj2 {H H':Heap}{B B' sz:Nat}{T:TypeId}{out x:Option Addr×Nat×Nat}{vs us:List Value}(hO:Mine H B qj 3 out vs) (hx:Ext (zbu out) H H') (hM:Mine H B' T sz x us) (hT:T≠qj):Mine H' B' T sz x us:=
 hM.ext hx fun b hb h=>by
  obtain⟨c',h'⟩:=(zjz hO b h).2
  obtain⟨c2,h2⟩:=(zjz hM b hb).2
  rw [h2] at h'
  cases h'
  exact hT rfl
def zsn (ls:List (List Fil)) (L:List Ino) (g:Sn->Path->List Fil) (s:Sn) (q:Path) (k:List UInt8):List Fil:=
 if (ze1 ls L s (q++[k])).2=true then (ze1 ls L s (q++[k])).1.file :: (if (ze1 ls L s (q++[k])).1.file.dir=true then g (ze1 ls L s (q++[k])).1 (q++[k]) else []) else []
def zh3 (ls:List (List Fil)) (L:List Ino):Nat->Sn->Path->List Fil
 | 0,_,_=>[]
 | f+1,s,q=>(zjf ls L s q).flatMap (zsn ls L (zh3 ls L f) s q)
theorem z1q {ls:List (List Fil)}{L:List Ino}{s:Sn}{q:Path}{k:List UInt8}(hk:k∈zjf ls L s q):okP (q++[k])/\∃ p∈zr9 ls L s q,(jm p).1=q++[k]:=by
 unfold zjf sortS at hk
 rw [List.mem_mergeSort,zsd] at hk
 rcases hk with hk | ⟨p,hp,hk⟩
 ·simp at hk
 ·unfold zko at hk
  split at hk
  ·rename_i h
   have h2:=(within_iff.1 h.2).2
   have hlt:q.length < (jm p).1.length:=by omega
   have e:(jm p).1=q++[k]:=by
    rw [List.getElem?_eq_getElem hlt] at hk
    have h3:=List.take_append_drop q.length (jm p).1
    rw [h2,List.drop_eq_getElem_cons hlt,List.drop_eq_nil_of_le (by omega),Option.some.inj hk] at h3
    exact h3.symm
   exact⟨e▸zka p,p,hp,e⟩
  ·cases hk
set_option maxHeartbeats 8000000 in
theorem ziz {H0:Heap}{u p m:Nat}{nn bb:Int}{ls:List (List Fil)}{L:List Ino}(hU:zid H0 u p m nn bb ls L) (hls:LsOK ls):∀ (f:Nat){w:World}{H:Heap}{q:Path}{s:Sn}{x xa out:Option Addr×Nat×Nat}{Os:List Fil}{B1 B2:Nat},w.heap=H->Ext [] H0 H ->
  9<=f+q.length->Mine H B1 zai 1 x (intRow s.dirs)->DirOK ls.length s->Mine H B2 qy 1 xa (strRow q)->okP q->Mine H H0.size qj 3 out (Os.flatMap zg5)->Os.length+(zh3 ls L f s q).length<=1000000 ->
  zx P zdc #[.pointer (some ⟨u,0,none⟩),.agg (snC s x).toArray,.slice xa.1 xa.2.1 xa.2.2,.slice out.1 out.2.1 out.2.2] w fun e w'=>∃ y,e=.returned (zhq y)/\Mine w'.heap H0.size qj 3 y ((Os++zh3 ls L f s q).flatMap zg5)/\Ext (zbu out) H w'.heap/\∀ c∈zbu y,c∈zbu out\/H.size<=c
 | 0,_,_,q,_,_,_,_,_,_,_,_,_,hf,_,_,_,hq,_,_=>by have:=hq.2;omega
 | f+1,w,H,q,s,x,xa,out,Os,B1,B2,hw,hx0,hf,hX,hd,hA,hq,hO,hlen=>by
  have hq8:=hq.2
  have hf4:=hls.few
  have hxl:x.2.1=s.dirs.length:=by have:=hX.len;rw [len_intRow] at this;omega
  have hal:xa.2.1=q.length:=by have:=hA.len;rw [jl] at this;omega
  refine zlg ?_
  unfold zhe
  refine jg hw fun w1 hw1=>?_
  have hx1:Ext [] H w1.heap:=by rw [hw1];exact .push _
  have h5:w1.heap[H.size]?=some (.cells (snC s x).toArray zh (0,0)):=by rw [hw1];exact zn
  refine xw rfl h5 rfl ?_
  refine zl (z4q rfl (hU.ext (hx0.trans hx1)) hls (hX.ext hx1 (by simp)).cells hxl hd (hA.ext hx1 (by simp)).cells hal hq) ?_
  rintro e w2 ⟨ks,rfl,hK,hx2,hK4⟩
  refine⟨ks,rfl,?_⟩
  obtain⟨Ks,hKs⟩:∃ Ks,Ks=zjf ls L s q:=⟨_,rfl⟩
  have hlist:zh3 ls L (f+1) s q=Ks.flatMap (zsn ls L (zh3 ls L f) s q):=by rw [hKs];rfl
  rw [<-hKs] at hK hK4
  have hkl:ks.2.1=Ks.length:=by have:=hK.len;rw [jl] at this;omega
  have hx12:=hx1.trans hx2
  refine za3 (fun k st W=>∃ (i:Nat) (Ns:List Fil),st.2=(i:Int)/\k+i=Ks.length/\Ns=Os++(Ks.take i).flatMap (zsn ls L (zh3 ls L f) s q)/\Mine W.heap H0.size qj 3 st.1 (Ns.flatMap zg5)/\Ext (zbu out) H W.heap/\(∀ c∈zbu st.1,c∈zbu out\/H.size<=c) /\
   W.heap[H.size]?=some (.cells (snC s x).toArray zh (0,0))/\Mine W.heap H.size qy 1 ks (strRow Ks)/\Mine W.heap B1 zai 1 x (intRow s.dirs)/\Mine W.heap B2 qy 1 xa (strRow q)) Ks.length
   ⟨0,Os,rfl,rfl,by simp,hO.ext hx12 (by simp),hx12.mono (by simp),fun c hc=>.inl hc,hx2.get h5 (by simp),hK.mono (by rw [hw1];simp),hX.ext hx12 (by simp),hA.ext hx12 (by simp)⟩ ?_
  rintro k ⟨o,st2⟩ W ⟨i,Ns,hst,hk,hNs,hO',hxW,hoo,g5,hKW,hXW,hAW⟩ Q hQ
  simp only at hst hO' hoo
  subst hst
  have h0W:Ext [] H0 W.heap:=hx0.own hxW (fun b hb hlt=>by have:=zak hO b hb;omega)
  refine qm (fun h=>?_) (fun h=>?_)
  ·have hi:i < Ks.length:=by omega
   have hkid:=z1q (ls:=ls) (L:=L) (s:=s) (q:=q) (k:=Ks[i]) (by rw [<-hKs];exact List.getElem_mem hi)
   refine ku (fun o' W'=>Mine W'.heap H0.size qj 3 o' ((Ns++zsn ls L (zh3 ls L f) s q Ks[i]).flatMap zg5)/\Ext (zbu out) H W'.heap/\(∀ c∈zbu o',c∈zbu out\/H.size<=c) /\
    W'.heap[H.size]?=some (.cells (snC s x).toArray zh (0,0))/\Mine W'.heap H.size qy 1 ks (strRow Ks)/\Mine W'.heap B1 zai 1 x (intRow s.dirs)/\Mine W'.heap B2 qy 1 xa (strRow q)) ?_ ?_
   ·obtain⟨g,hg⟩:∃ g,g=zh3 ls L f:=⟨_,rfl⟩
    have hpre:Ns.length+(zsn ls L (zh3 ls L f) s q Ks[i]).length<=1000000:=by
     have e:Ks=Ks.take i++Ks[i] :: Ks.drop (i+1):=by rw [<-List.drop_eq_getElem_cons hi,List.take_append_drop]
     have h1:=congrArg (fun l=>(l.flatMap (zsn ls L (zh3 ls L f) s q)).length) e
     simp only [List.flatMap_append,List.flatMap_cons,List.length_append] at h1
     rw [hlist,h1] at hlen
     rw [hNs,List.length_append]
     omega
    refine zps rfl hKW.cells hkl hi rfl ?_
    refine zl (z08 rfl hAW (by omega)) ?_
    rintro e w4 ⟨t24,rfl,hm4,hx4⟩
    refine⟨t24,rfl,?_⟩
    refine z5x _ rfl fun a1 w5 hx5 hc5=>?_
    refine z8p (xs:=q) (ys:=[Ks[i]]) rfl (hm4.ext hx5 (by simp)) (by have:=hx4.1;have:=hx5.1;omega) hc5 rfl (by simp;omega) fun t27 w6 hm6 hx6=>?_
    have hxW6:Ext [] W.heap w6.heap:=(hx4.trans hx5).own hx6 (fun b hb hlt=>by have:=zak hm4 b hb;omega)
    refine xw rfl (hxW6.get g5 (by simp)) rfl ?_
    have hl27:t27.2.1=(q++[Ks[i]]).length:=by have:=hm6.len;rw [jl] at this;omega
    refine zl (zu6 rfl (hU.ext (h0W.trans hxW6)) (hXW.ext hxW6 (by simp)).cells hxl hd.lt (by have:=hd.few;omega) hm6.cells hl27 (zj8 hm6) hkid.1) ?_
    rintro e w7 ⟨y',rfl,hY',hx7⟩
    refine⟨(_,_),rfl,?_⟩
    obtain⟨r,hr⟩:∃ r,r=ze1 ls L s (q++[Ks[i]]):=⟨_,rfl⟩
    have hpart:zsn ls L (zh3 ls L f) s q Ks[i]=if r.2=true then r.1.file :: (if r.1.file.dir=true then zh3 ls L f r.1 (q++[Ks[i]]) else []) else []:=by rw [hr];rfl
    rw [<-hr] at hY' |-
    refine zyo r.1 y' rfl fun w9 hw9=>?_
    have hx79:Ext [] w7.heap w9.heap:=by rw [hw9];exact .push _
    have h12:w9.heap[w7.heap.size]?=some (.cells (snC r.1 y').toArray zh (0,0)):=by rw [hw9];exact zn
    have hxW9:=(hxW6.trans hx7).trans hx79
    have hO9:=hO'.ext hxW9 (by simp)
    have g59:=hxW9.get g5 (by simp)
    have hK9:=hKW.ext hxW9 (by simp)
    have hX9:=hXW.ext hxW9 (by simp)
    have hA9:=hAW.ext hxW9 (by simp)
    have hxH9:Ext (zbu out) H w9.heap:=hxW.trans (hxW9.mono (by simp))
    cases hr2:r.2 with
    | false=>
     refine jc rfl ?_
     rw [hpart,hr2]
     refine⟨?_,hxH9,hoo,g59,hK9,hX9,hA9⟩
     simpa using hO9
    | true=>
     refine qg rfl ?_
     refine ztj (n:=3) rfl h12 (by simp [snC]) ?_
     rw [hpart,hr2] at hpre
     simp only [if_true,List.length_cons] at hpre
     refine z3y (i:=r.1.file) rfl hO9 (by have:=h0W.1;have:=hxW9.1;omega) (by omega) fun o1 w11 hm11 hx11 hs11=>?_
     have h12':=zyh hO9 hx11 h12 (by decide)
     have g511:=zyh hO9 hx11 g59 (by decide)
     have hK11:=zj2 hO9 hx11 hK9 (by decide)
     have hX11:=zj2 hO9 hx11 hX9 (by decide)
     have hA11:=zj2 hO9 hx11 hA9 (by decide)
     have hxH11:Ext (zbu out) H w11.heap:=hxH9.own hx11 (fun b hb hlt=>by rcases hoo b hb with h' | h';exact h';omega)
     have hs9:H.size<=w9.heap.size:=hxH9.1
     have hoo1:∀ c∈zbu o1,c∈zbu out\/H.size<=c:=fun c hc=>by
      rcases hs11 c hc with h' | h'
      ·exact hoo c h'
      ·right;omega
     refine jh (s:=.bool) (t:=r.1.file.dir) rfl h12' rfl ?_
     cases hdir:r.1.file.dir with
     | false=>
      refine qg rfl ?_
      rw [hpart,hr2,if_pos rfl,hdir]
      exact⟨hm11,hxH11,hoo1,g511,hK11,hX11,hA11⟩
     | true=>
      refine jc rfl ?_
      refine xw rfl h12' rfl ?_
      rw [hdir,if_pos rfl] at hpre
      have h011:Ext [] H0 w11.heap:=hx0.own hxH11 (fun b hb hlt=>by have:=zak hO b hb;omega)
      have hY11:=zj2 hO9 hx11 (hY'.ext hx79 (by simp)) (by decide)
      have hT11:=zj2 hO9 hx11 ((hm6.ext hx7 (by simp)).ext hx79 (by simp)) (by decide)
      refine zl (ziz hU hls f rfl h011 (by simp;omega) hY11 (by rw [hr];exact hd.over _) hT11 hkid.1 hm11 (by simp;omega)) ?_
      rintro e w12 ⟨o2,rfl,hm12,hx12',hs12⟩
      refine⟨o2,rfl,?_⟩
      rw [hpart,hr2,if_pos rfl,hdir,if_pos rfl]
      refine⟨?_,hxH11.own hx12' (fun b hb hlt=>by rcases hoo1 b hb with h' | h';exact h';omega),fun c hc=>?_,zyh hm11 hx12' g511 (by decide),zj2 hm11 hx12' hK11 (by decide),zj2 hm11 hx12' hX11 (by decide),zj2 hm11 hx12' hA11 (by decide)⟩
      ·rw [List.append_assoc] at hm12
       exact hm12
      ·rcases hs12 c hc with h' | h'
       ·exact hoo1 c h'
       ·right;have:=hxH11.1;omega
   ·rintro o' W' ⟨r1,r2,r3,r4,r5,r6,r7⟩
    refine zas ((i+1:Nat):Int) (by omega) (by omega) (by omega) ?_
    refine hQ (k-1) _ _ (by omega) ⟨i+1,_,rfl,by omega,?_,r1,r2,r3,r4,r5,r6,r7⟩
    rw [hNs,List.append_assoc,List.take_add_one,List.getElem?_eq_getElem hi,Option.toList_some,List.flatMap_append,List.flatMap_singleton]
  ·have hi:i=Ks.length:=by omega
   subst hi
   rw [List.take_length] at hNs
   refine⟨o,rfl,?_,hxW,hoo⟩
   rw [hlist,<-hNs]
   exact hO'
def z0o (ls:List (List Fil)) (L:List Ino):Nat->Sn->Path->List Path
 | 0,_,_=>[]
 | f+1,s,q=>(zjf ls L s q).flatMap fun k=>if (ze1 ls L s (q++[k])).2=true then (q++[k]) :: (if (ze1 ls L s (q++[k])).1.file.dir=true then z0o ls L f (ze1 ls L s (q++[k])).1 (q++[k]) else []) else []
theorem zzx {ls:List (List Fil)}{L:List Ino}:∀ (f:Nat) (s:Sn) (q:Path),(zh3 ls L f s q).length=(z0o ls L f s q).length
 | 0,_,_=>rfl
 | f+1,s,q=>by
  unfold zh3 z0o
  rw [List.length_flatMap,List.length_flatMap]
  congr 1
  refine List.map_congr_left fun k _=>?_
  unfold zsn
  split
  ·split
   ·simp [zzx f]
   ·rfl
  ·rfl
def z7i (ls:List (List Fil)) (L:List Ino):List Path:=(ls.flatMap fun Ly=>Ly.map fun f=>(jm f.path).1)++L.map fun i=>(jm (jd i.names)).1
theorem z0y {ls:List (List Fil)}{L:List Ino}{s:Sn}{q:Path}(hd:DirOK ls.length s){p:List UInt8}(hp:p∈zr9 ls L s q):(jm p).1∈z7i ls L:=by
 unfold zr9 at hp
 rcases List.mem_append.1 hp with hp | hp
 ·obtain⟨i,hi,hp⟩:=List.mem_flatMap.1 hp
  obtain⟨f,hf,rfl⟩:=List.mem_map.1 hp
  have hlt:=hd.lt i hi
  refine List.mem_append_left _ (List.mem_flatMap.2 ⟨ls.getD i [],?_,List.mem_map.2 ⟨f,hf,rfl⟩⟩)
  rw [List.getD_eq_getElem?_getD,List.getElem?_eq_getElem hlt];exact List.getElem_mem _
 ·obtain⟨i,hi,rfl⟩:=List.mem_map.1 hp
  exact List.mem_append_right _ (List.mem_map.2 ⟨i,(List.mem_filter.1 hi).1,rfl⟩)
theorem zsa {ls:List (List Fil)}{L:List Ino}:∀ (f:Nat) (s:Sn) (q:Path),DirOK ls.length s->∀ x∈z0o ls L f s q,x∈z7i ls L/\∃ k t,x=q++k :: t
 | 0,_,_,_,x,hx=>by simp [z0o] at hx
 | f+1,s,q,hd,x,hx=>by
  unfold z0o at hx
  obtain⟨k,hk,hx⟩:=List.mem_flatMap.1 hx
  obtain⟨_,p,hp,he⟩:=z1q hk
  split at hx
  ·rcases List.mem_cons.1 hx with rfl | hx
   ·exact⟨he▸z0y hd hp,k,[],rfl⟩
   ·split at hx
    ·obtain⟨h1,k',t,h2⟩:=zsa f _ _ (hd.over _) x hx
     exact⟨h1,k,k' :: t,by rw [h2];simp⟩
    ·simp at hx
  ·simp at hx
theorem zw4 {ls:List (List Fil)}{L:List Ino}{s:Sn}{q:Path}:(zjf ls L s q).Nodup:=by
 unfold zjf sortS
 exact (List.mergeSort_perm _ _).nodup_iff.2 (zng List.nodup_nil)
theorem ztu {ls:List (List Fil)}{L:List Ino}:∀ (f:Nat) (s:Sn) (q:Path),DirOK ls.length s->(z0o ls L f s q).Nodup
 | 0,_,_,_=>List.nodup_nil
 | f+1,s,q,hd=>by
  have pre:∀ k x,x∈(if (ze1 ls L s (q++[k])).2=true then (q++[k]) :: (if (ze1 ls L s (q++[k])).1.file.dir=true then z0o ls L f (ze1 ls L s (q++[k])).1 (q++[k]) else []) else [])->∃ t,x=q++k :: t:=by
   intro k x hx
   split at hx
   ·rcases List.mem_cons.1 hx with rfl | hx
    ·exact⟨[],rfl⟩
    ·split at hx
     ·obtain⟨_,k',t,h2⟩:=zsa f _ _ (hd.over _) x hx
      exact⟨k' :: t,by rw [h2];simp⟩
     ·simp at hx
   ·simp at hx
  unfold z0o List.Nodup
  rw [List.pairwise_flatMap]
  refine⟨fun k hk=>?_,?_⟩
  ·split
   ·refine List.pairwise_cons.2 ⟨fun x hx e=>?_,?_⟩
    ·subst e
     split at hx
     ·obtain⟨_,k',t,h2⟩:=zsa f _ _ (hd.over _) _ hx
      have:=congrArg List.length h2
      simp at this
     ·simp at hx
    ·split
     ·exact ztu f _ _ (hd.over _)
     ·exact List.Pairwise.nil
   ·exact List.Pairwise.nil
  ·refine (zw4 (ls:=ls) (L:=L) (s:=s) (q:=q)).imp fun {k k'} hkk x hx y hy e=>?_
   obtain⟨t,rfl⟩:=pre k x hx
   obtain⟨t',rfl⟩:=pre k' y hy
   have:=List.append_cancel_left e
   simp only [List.cons.injEq] at this
   exact hkk this.1
theorem zv1 {ls:List (List Fil)}{L:List Ino}(hls:LsOK ls) (hL:L.length<=1024) (f:Nat){s:Sn}(q:Path) (hd:DirOK ls.length s):(zh3 ls L f s q).length<=4000:=by
 rw [zzx]
 refine Nat.le_trans (List.Nodup.length_le_of_subset (ztu f s q hd) fun x hx=>(zsa f s q hd x hx).1) ?_
 have h1:∀ (l:List (List Fil)),(∀ Ly∈l,Ly.length<=512)->(l.flatMap fun Ly=>Ly.map fun f=>(jm f.path).1).length<=512 * l.length:=by
  intro l
  induction l with
  | nil=>simp
  | cons Ly l ih=>
   intro h
   have h2:=ih fun x hx=>h x (by simp [hx])
   have h3:=h Ly (by simp)
   simp only [List.flatMap_cons,List.length_append,List.length_map,List.length_cons]
   omega
 have h2:=h1 ls hls.small
 have:=hls.few
 unfold z7i
 rw [List.length_append,List.length_map]
 omega
def zhn (ls:List (List Fil)) (L:List Ino):List Fil:=zh3 ls L 9 (zg1 ls) []
theorem zzp {w:World}{H:Heap}{u p m:Nat}{nn bb:Int}{ls:List (List Fil)}{L:List Ino}(hw:w.heap=H) (hU:zid H u p m nn bb ls L) (hls:LsOK ls) :
  zx P zdg #[.pointer (some ⟨u,0,none⟩)] w fun e w'=>∃ y,e=.returned (zhq y)/\Mine w'.heap H.size qj 3 y ((zhn ls L).flatMap zg5)/\Ext [] H w'.heap:=by
 have hL:L.length<=1024:=by
  obtain⟨_,_,_,_,_,hst⟩:=hU.2
  exact hst.good.many
 have hf4:=hls.few
 refine zll ?_
 unfold zhb
 refine qg rfl ?_
 refine zl (z16 hw hU.1 (by omega)) ?_
 rintro e w1 ⟨x,rfl,hX,hx1⟩
 refine⟨_,rfl,?_⟩
 refine zl (ziz hU hls 9 (q:=[]) (s:=zg1 ls) (x:=x) (xa:=(none,0,0)) (out:=(none,0,0)) (Os:=[]) (B2:=0) rfl hx1 (by simp) hX .root (.inl ⟨rfl,rfl⟩) ⟨by simp,by simp⟩ (.inl ⟨rfl,rfl⟩) (by have:=zv1 hls hL 9 (s:=zg1 ls) [] .root;simp;omega)) ?_
 rintro e w2 ⟨y,rfl,hM,hx2,_⟩
 exact⟨y,rfl,y,rfl,by simpa [zhn] using hM,hx1.trans hx2⟩
def zkx (n:Nat):List UInt8:=if h:n<=127 then [UInt8.ofNat n] else UInt8.ofNat (n % 128+128) :: zkx (n / 128)
termination_by n
decreasing_by omega
theorem zgk {n:Nat}(h:n<=127):zkx n=[UInt8.ofNat n]:=by rw [zkx,dif_pos h]
theorem zjj {n:Nat}(h:127 < n):zkx n=UInt8.ofNat (n % 128+128) :: zkx (n / 128):=by rw [zkx,dif_neg (by omega)]
def zno (L:List UInt8):List UInt8:=zkx L.length++L
def zoi (b:Bool):List UInt8:=zkx (if b then 1 else 0)
def z8r (H1:Heap) (F:List Nat) (b:Nat) (L:List UInt8) (W:World) (x:Option Addr×Nat×Nat):Prop:=Ext (b :: F) H1 W.heap/\W.heap[b]?=some (.cells #[zhq x] zdy (0,0))/\Mine W.heap 0 za7 1 x (byteCells L)/\b∉zbu x/\(∀ c∈zbu x,c∈F\/H1.size<=c)/\b < H1.size
def zvz (H1:Heap) (F:List Nat) (b:Nat) (L:List UInt8) (W:World):Prop:=∃ x,z8r H1 F b L W x
theorem z8f (x:BitVec 8):(x ||| 128#8).toNat=x.toNat % 128+128:=by
 revert x;decide
theorem or8 {n:Nat}{K:Int->Prop}(h:K ((n % 128+128:Nat):Int)):orI .u8 ((n % 256:Nat):Int) 128 K:=by
 refine⟨_,?_,h⟩
 have e1:BitVec.ofInt 8 ((n % 256:Nat):Int)=BitVec.ofNat 8 n:=by
  apply BitVec.eq_of_toNat_eq
  simp [BitVec.toNat_ofInt]
  omega
 show _=IntKind.u8.wrap ((BitVec.ofInt 8 ((n % 256:Nat):Int) ||| BitVec.ofInt 8 128).toNat:Int)
 rw [e1]
 have e2:=z8f (BitVec.ofNat 8 n)
 have e3:BitVec.ofInt 8 128=128#8:=by decide
 rw [e3,e2,zmw]
 simp only [BitVec.toNat_ofNat]
 omega
theorem z9f {w:World}{H1:Heap}{F:List Nat}{b:Nat}{L:List UInt8}{x:Option Addr×Nat×Nat}{m:Nat}{K:World->Prop}(hO:z8r H1 F b L w x) (hm:m < 256) (hL:L.length<=1099511627776) (hK:∀ w',zvz H1 F b (L++[UInt8.ofNat m]) w'->K w') :
  zde P (Instr.buildSlice je 1 #[(0,(Value.int .u8 (m:Int)))]) .slc w fun (t18:(Option Addr×Nat×Nat)) w_2=>
  zde P (Builtin.append_ #[je,je] je #[(Value.slice x.1 x.2.1 x.2.2),(Value.slice t18.1 t18.2.1 t18.2.2)]) .slc w_2 fun (t19:(Option Addr×Nat×Nat)) w_3=>
  zq (some ⟨b,0,none⟩) fun p_1=>
  stC p_1 (Value.slice t19.1 t19.2.1 t19.2.2) w_3 K:=by
 obtain⟨h1,h2,h3,h4,h5,h6⟩:=hO
 have hxl:x.2.1=L.length:=by have:=h3.len;simp at this;omega
 refine zbg (s:=.slc) (some ⟨w.heap.size,0,none⟩,1,1) _ (zke E8 uS8 (v:=.int .u8 (m:Int)) rfl (by omega) (by omega)) ?_
 have hxp:Ext [] w.heap (w.heap.push (.cells (Value.int .u8 (m:Int)).cells za7)):=.push _
 have hbl:=lt_of_get h2
 refine zdr (n:=1) (us:=byteCells [UInt8.ofNat m]) (H:=w.heap.push (.cells (Value.int .u8 (m:Int)).cells za7)) E8 (by omega) uS8 (zbs uS8) rfl (h3.ext hxp (by simp)) (Nat.zero_le _)
  (Src.slc rfl (.inr ⟨w.heap.size,0,_,_,_,rfl,zn,by simp [Value.cells],by simp [Value.cells,byteCells];omega⟩) rfl) zcs (by omega) ?_
 intro x' w4 hm4 hl4 hx4 hs4
 have hb4:w4.heap[b]?=some (.cells #[zhq x] zdy (0,0)):=hx4.get (hxp.get h2 (by simp)) h4
 show stC ⟨b,0,none⟩ (zhq x') w4 K
 refine zdj rfl hb4 (by simp) fun w5 hw5=>hK w5 ?_
 have hx5:Ext [b] w4.heap w5.heap:=by rw [hw5];exact Ext.set _ (by simp)
 have hs1:=h1.1
 have hp1:=hxp.1
 have hbx:b∉zbu x':=fun h=>by
  rcases hs4 b h with h | h
  ·exact h4 h
  ·have:=hp1;omega
 refine⟨x',?_,by rw [hw5];exact xk hb4,?_,hbx,fun c hc=>?_,h6⟩
 ·have h14:Ext (b :: F) H1 w4.heap:=(h1.trans (hxp.mono (by simp))).own hx4 (fun c hc hlt=>by
   rcases h5 c hc with h | h
   ·exact List.mem_cons_of_mem _ h
   ·omega)
  exact h14.trans (hx5.mono (by simp))
 ·rw [<-byteCells_append]
  exact hm4.ext hx5 (fun c hc=>by simp only [List.mem_singleton];rintro rfl;exact hbx hc)
 ·rcases hs4 c hc with h | h
  ·exact h5 c h
  ·exact .inr (by omega)
theorem zvu:∀ (m n:Nat),n < 128 ^ (m+1)->(zkx n).length<=m+1
 | 0,n,h=>by rw [zgk (by simp at h;omega)];simp
 | m+1,n,h=>by
  by_cases hl:n<=127
  ·rw [zgk hl];simp
  ·rw [zjj (by omega),List.length_cons]
   have:=zvu m (n / 128) (by rw [Nat.pow_succ] at h;omega)
   omega
theorem zrg {n:Nat}(h:n < 18446744073709551616):(zkx n).length<=10:=zvu 9 n (Nat.lt_of_lt_of_le h (by decide))
theorem z9z {k:Nat}{K:Int->Prop}(h:K ((k / 128:Nat):Int)):z2q .u64 (k:Int) 7 K:=by
 refine⟨by omega,_,?_,h⟩
 have e:(2:Int) ^ (min (Int.toNat 7) IntKind.u64.bits)=128:=by decide
 rw [e,Int.fdiv_eq_ediv_of_nonneg _ (by omega)]
 omega
theorem zy1 {w:World}{H1:Heap}{F:List Nat}{b:Nat}{L:List UInt8}(n:Nat) (hO:zvz H1 F b L w) (hn:n < 18446744073709551616) (hL:L.length<=549755813888) :
  zx P zbn #[.pointer (some ⟨b,0,none⟩),.int .u64 (n:Int)] w fun e w'=>e=.returned (.tuple #[])/\zvz H1 F b (L++zkx n) w':=by
 have hnl:=zrg hn
 refine zo0 ?_
 unfold zk0
 refine qg rfl ?_
 refine zds (fun (s:Int) W=>∃ (k:Nat) (M:List UInt8),s=(k:Int)/\zvz H1 F b M W/\M++zkx k=L++zkx n) (fun s _=>s.toNat) ⟨n,L,rfl,hO,rfl⟩ ?_
 rintro _ W ⟨k,M,rfl,⟨x,hX⟩,hM⟩
 have hMl:M.length<=1099511627776:=by have:=congrArg List.length hM;simp at this;omega
 refine qm (fun h=>?_) (fun h=>?_)
 ·simp only [qo]
  refine jh (s:=.slc) (t:=x) rfl hX.2.1 rfl ?_
  refine⟨_,(zmw k).symm,or8 ?_⟩
  refine z9f hX (by omega) hMl fun w' hO'=>z9z ?_
  exact⟨⟨k / 128,_,rfl,hO',by rw [<-hM,zjj (n:=k) (by omega)];simp⟩,by omega⟩
 ·simp only [qo]
  refine jh (s:=.slc) (t:=x) rfl hX.2.1 rfl ?_
  refine⟨_,(zmw k).symm,?_⟩
  refine z9f hX (by omega) hMl fun w' hO'=>?_
  rw [Nat.mod_eq_of_lt (by omega),show M++[UInt8.ofNat k]=L++zkx n by rw [<-hM,zgk (by omega)]] at hO'
  exact⟨trivial,hO'⟩
theorem z5l {w:World}{H1:Heap}{F:List Nat}{b:Nat}{L:List UInt8}(M:List UInt8) (hO:zvz H1 F b L w) (hL:L.length+M.length<=274877906944) :
  zx P zcc #[.pointer (some ⟨b,0,none⟩),.string (strOf M)] w fun e w'=>e=.returned (.tuple #[])/\zvz H1 F b (L++zno M) w':=by
 refine zoe ?_
 unfold zj5
 refine qg rfl ?_
 have hnl:=zrg (n:=M.length) (by omega)
 refine znv (by omega) (by simp;omega) ?_
 refine zl (zy1 M.length hO (by omega) (by omega)) ?_
 rintro e w1 ⟨rfl,x,hX⟩
 refine⟨(),rfl,?_⟩
 obtain⟨h1,h2,h3,h4,h5,h6⟩:=hX
 have hxl:x.2.1=(L++zkx M.length).length:=by have:=h3.len;simp at this;simp;omega
 rw [List.length_append] at hxl
 simp only [qo]
 refine jh (s:=.slc) (t:=x) rfl h2 rfl ?_
 refine zdr E8 (by omega) uS8 ⟨_,zv4,by intro k h;cases h⟩ rfl h3 (Nat.zero_le _) (n:=M.length) (us:=byteCells M) Src.str zcs (by omega) ?_
 intro x' w4 hm4 hl4 hx4 hs4
 have hb4:w4.heap[b]?=some (.cells #[zhq x] zdy (0,0)):=hx4.get h2 h4
 refine zdj rfl hb4 (by simp) fun w5 hw5=>?_
 have hx5:Ext [b] w4.heap w5.heap:=by rw [hw5];exact Ext.set _ (by simp)
 have hs1:=h1.1
 have hbl:=lt_of_get h2
 have hbx:b∉zbu x':=fun h=>by
  rcases hs4 b h with h | h
  ·exact h4 h
  ·omega
 refine⟨trivial,x',?_,by rw [hw5];exact xk hb4,?_,hbx,fun c hc=>?_,h6⟩
 ·have h14:Ext (b :: F) H1 w4.heap:=h1.own hx4 (fun c hc hlt=>by
   rcases h5 c hc with h | h
   ·exact List.mem_cons_of_mem _ h
   ·omega)
  exact h14.trans (hx5.mono (by simp))
 ·rw [zno,<-List.append_assoc,<-byteCells_append]
  exact hm4.ext hx5 (fun c hc=>by simp only [List.mem_singleton];rintro rfl;exact hbx hc)
 ·rcases hs4 c hc with h | h
  ·exact h5 c h
  ·exact .inr (by omega)
theorem z4e {w:World}{H1:Heap}{F:List Nat}{b:Nat}{L:List UInt8}(hO:zvz H1 F b L w) (hL:L.length<=549755813888) :
  zx P zd9 #[.pointer (some ⟨b,0,none⟩)] w fun e w'=>∃ y,e=.returned (zhq y)/\Mine w'.heap w.heap.size za7 1 y (byteCells L)/\Ext [] w.heap w'.heap:=by
 obtain⟨x,h1,h2,h3,h4,h5,h6⟩:=hO
 have hxl:x.2.1=L.length:=by have:=h3.len;simp at this;omega
 refine znh ?_
 unfold zir
 refine qg rfl ?_
 simp only [qo]
 refine jh (s:=.slc) (t:=x) rfl h2 rfl ?_
 refine zdr (x:=(none,0,0)) (vs:=[]) (B:=w.heap.size) E8 (by omega) uS8 (zbs uS8) rfl (.inl ⟨rfl,rfl⟩) (Nat.le_refl _) (Src.slc rfl h3.cells (by simp;omega)) zcs (by simp only;omega) ?_
 intro y w' hm hl hx hs
 exact⟨y,rfl,by simpa using hm,hx.mono (by simp [zbu])⟩
theorem zcO:zc P zdy=#[zhq (none,0,0)]:=by kernel_rfl
theorem z8h {w:World}{H:Heap}{D:List UInt8}(hw:w.heap=H){K:(Option Addr×Nat×Nat)->World->Prop}
  (hK:∀ y w',Cells w'.heap y.1 (byteCells D)->y.2.1=D.length->y.2.1<=y.2.2->zbu y=[H.size]->Ext [] H w'.heap->H.size < w'.heap.size->K y w'):zde P (convert qy je (.string (strOf D))) .slc w K:=by
 subst hw
 have h:=run_bytes_of_string w qy je za7 (strOf D) zv4 uS8 u8 (P:=P)
 have hge:=grownCap_ge w (strOf D).size 0 za7
 refine zbg (s:=.slc) (some ⟨w.heap.size,0,none⟩,(strOf D).size,grownCap w (strOf D).size 0 za7) _ h ?_
 refine hK _ _ (.inr ⟨w.heap.size,0,_,_,_,rfl,zn,?_,?_⟩) (by simp) hge rfl (.push _) (by show w.heap.size < (w.heap.push _).size;simp)
 ·simp [bytesRow,strOf]
 ·rw [Nat.zero_add]
  simp [bytesRow,strOf,byteCells,List.take_of_length_le]
def rdN:Nat->Nat->List UInt8->Option (Nat×List UInt8)
 | _,_,[]=>none
 | at',acc,c :: R=>if (at'=9/\1 < c.toNat)\/(0 < at'/\c.toNat=0) then none else
  if c.toNat < 128 then some (acc+c.toNat * 128 ^ at',R) else rdN (at'+1) (acc+(c.toNat % 128) * 128 ^ at') R
def rdNum (R:List UInt8):Option (Nat×List UInt8):=rdN 0 0 R
theorem ofNat_lt {n:Nat}(h:n < 256):(UInt8.ofNat n).toNat=n:=by simp;omega
theorem z0j {e m:Nat}(he:e<=9) (h:m < 2 ^ (64-7 * e)) (hm:127 < m):e < 9/\m / 128 < 2 ^ (64-7 * (e+1)):=by
 have h9:e≠9:=by rintro rfl;simp at h;omega
 have e1:2 ^ (64-7 * e)=2 ^ (64-7 * (e+1)) * 128:=by
  rw [show 64-7 * e=(64-7 * (e+1))+7 by omega,Nat.pow_add]
 exact⟨by omega,by rw [Nat.div_lt_iff_lt_mul (by omega)];omega⟩
theorem z2d:∀ (m e acc:Nat) (R:List UInt8),e<=9->m < 2 ^ (64-7 * e)->(e=0\/0 < m)->rdN e acc (zkx m++R)=some (acc+m * 128 ^ e,R):=by
 intro m
 induction m using Nat.strongRecOn with
 | ind m ih=>
  intro e acc R he hm h0
  by_cases hl:m<=127
  ·rw [zgk hl]
   simp only [List.cons_append,List.nil_append,rdN,ofNat_lt (show m < 256 by omega)]
   rw [if_neg,if_pos (by omega)]
   rintro (⟨rfl,h⟩ | ⟨h,h'⟩)
   ·simp at hm;omega
   ·omega
  ·obtain⟨h9,hd⟩:=z0j he hm (by omega)
   rw [zjj (by omega)]
   simp only [List.cons_append,rdN,ofNat_lt (show m % 128+128 < 256 by omega)]
   rw [if_neg (by omega),if_neg (by omega),ih (m / 128) (by omega) _ _ _ (by omega) hd (.inr (by omega))]
   congr 2
   rw [Nat.pow_succ,show (m % 128+128) % 128=m % 128 by omega]
   have h2:m=m % 128+128 * (m / 128):=by omega
   generalize 128 ^ e=q at *
   calc acc+m % 128 * q+m / 128 * (q * 128)=acc+(m % 128+128 * (m / 128)) * q:=by rw [Nat.add_mul,Nat.mul_comm q 128,<-Nat.mul_assoc,Nat.mul_comm (m / 128) 128];omega
    _=acc+m * q:=by rw [<-h2]
theorem ztm {m:Nat}{R:List UInt8}(h:m < 18446744073709551616):rdNum (zkx m++R)=some (m,R):=by
 have:=z2d m 0 0 R (by omega) (by simpa using h) (.inl rfl)
 simpa [rdNum] using this
theorem zwe:∀ (R0:List UInt8) (e acc n:Nat) (R:List UInt8),e<=9->rdN e acc R0=some (n,R)->∃ m,R0=zkx m++R/\n=acc+m * 128 ^ e/\m < 2 ^ (64-7 * e)/\(0 < e->0 < m)
 | [],e,acc,n,R,he,h=>by simp [rdN] at h
 | c :: R0,e,acc,n,R,he,h=>by
  simp only [rdN] at h
  have hc:=c.toNat_lt
  split at h
  ·cases h
  ·rename_i hbad
   split at h
   ·rename_i hlt
    simp only [Option.some.injEq,Prod.mk.injEq] at h
    obtain⟨rfl,rfl⟩:=h
    refine⟨c.toNat,?_,rfl,?_,fun h=>by omega⟩
    ·rw [zgk (by omega)];simp
    ·by_cases h9:e=9
     ·subst h9;simp;omega
     ·have:2 ^ 8<=2 ^ (64-7 * e):=Nat.pow_le_pow_right (by omega) (by omega)
      omega
   ·rename_i hge
    have h9:e < 9:=by omega
    obtain⟨m,e1,e2,e3,e4⟩:=zwe R0 (e+1) _ n R (by omega) h
    have hm:=e4 (by omega)
    refine⟨c.toNat % 128+128 * m,?_,?_,?_,fun _=>by omega⟩
    ·rw [zjj (by omega),show (c.toNat % 128+128 * m) % 128+128=c.toNat by omega,show (c.toNat % 128+128 * m) / 128=m by omega,e1]
     simp
    ·rw [e2,Nat.pow_succ,Nat.add_mul]
     generalize 128 ^ e=q
     rw [Nat.mul_comm q 128,<-Nat.mul_assoc,Nat.mul_comm m 128]
     omega
    ·have e5:2 ^ (64-7 * e)=2 ^ (64-7 * (e+1)) * 128:=by
      rw [show 64-7 * e=(64-7 * (e+1))+7 by omega,Nat.pow_add]
     omega
theorem zwp {R0 R:List UInt8}{n:Nat}(h:rdNum R0=some (n,R)):R0=zkx n++R/\n < 18446744073709551616:=by
 obtain⟨m,h1,h2,h3,_⟩:=zwe R0 0 0 n R (by omega) h
 simp at h2
 subst h2
 exact⟨h1,by simpa using h3⟩
def zpc (most:Nat) (R:List UInt8):Option (List UInt8×List UInt8):=
 match rdNum R with
 | none=>none
 | some (n,R)=>if most < n\/R.length < n then none else some (R.take n,R.drop n)
def zth:List UInt8->Option (Bool×List UInt8)
 | []=>none
 | c :: R=>if 1 < c.toNat then none else some (decide (c.toNat=1),R)
theorem zum {most:Nat}{M R:List UInt8}(h:M.length<=most) (hm:most < 18446744073709551616):zpc most (zno M++R)=some (M,R):=by
 unfold zpc zno
 rw [List.append_assoc,ztm (by omega)]
 simp only [List.length_append]
 rw [if_neg (by omega)]
 simp
theorem zu1 {o:Bool}{R:List UInt8}:zth (zoi o++R)=some (o,R):=by
 cases o <;> simp [zoi,zgk,zth]
end Go.Proofs.YthaaekcaaecdeaaGreatDoor
