/- Part 5 of the texts below the card, joined. -/
import Derived.Test.YthaaekcaaecdeaaGreatDoorTUnd
import Derived.Test.YthaaekcaaecdeaaGreatDoorTUna
import Derived.Great.BuildSlice
import Derived.Lib.Bytealg
import Derived.Sort.LotA
import Derived.Shelf.SlSortCmp.Insertion
import Derived.Laws.Strings
import Derived.Test.YthaaekcaaecdeaaGreatDoorTUnc
import Derived.Lib.Builder
import Derived.Lib.MakeNoZero
import Derived.Lib.UnsafeStr
import Derived.Shelf.SlSortCmp.WholeK
import Derived.Shelf.Small.Bits
import Derived.Shelf.Sort.Plain
import Derived.Test.YthaaekcaaecdeaaGreatDoorProg
import Derived.Shelf.Slices.In.SortNone
namespace Go.Fw
open Go
def Beside (B:Nat) (W W':World):Prop:=∃ r,B<=r/\(∀ o,W.heap[r]?=some o->zj2 o)/\Ext [r] W.heap W'.heap
theorem Beside.new {B:Nat}{W W':World}(hB:B<=W.heap.size) (hx:Ext [] W.heap W'.heap):Beside B W W':=
 ⟨W.heap.size,hB,fun o h=>by have:=(Array.getElem?_eq_some_iff.1 h).1;omega,hx.mono (by simp)⟩
theorem Beside.size {B:Nat}{W W':World}(h:Beside B W W'):W.heap.size<=W'.heap.size:=by
 obtain⟨r,_,_,h⟩:=h;exact h.1
theorem Beside.cells {B:Nat}{W W':World}(h:Beside B W W'){b:Nat}{c:Array Value}{T:TypeId}{fr:Nat×Nat}(hb:W.heap[b]?=some (.cells c T fr)):W'.heap[b]?=some (.cells c T fr):=by
 obtain⟨r,_,hn,hx⟩:=h
 refine hx.get hb fun hm=>?_
 simp only [List.mem_singleton] at hm
 subst hm
 exact hn _ hb c T fr rfl
theorem Beside.old {B:Nat}{W W':World}(h:Beside B W W'){b:Nat}(hb:b < B) (hlt:b < W.heap.size):W'.heap[b]?=W.heap[b]?:=by
 obtain⟨r,hB,_,hx⟩:=h
 exact hx.2 b hlt (by simp;omega)
theorem Beside.ext {B:Nat}{W W':World}(h:Beside B W W'){M:List Nat}{H:Heap}(hH:H.size<=B) (hx:Ext M H W.heap):Ext M H W'.heap:=
 ⟨Nat.le_trans hx.1 h.size,fun b hb hn=>(h.old (Nat.lt_of_lt_of_le hb hH) (Nat.lt_of_lt_of_le hb hx.1)).trans (hx.2 b hb hn)⟩
theorem Beside.mine {B B':Nat}{W W':World}(h:Beside B' W W'){T:TypeId}{sz:Nat}{x:Option Addr×Nat×Nat}{vs:List Value}(hM:Mine W.heap B T sz x vs):Mine W'.heap B T sz x vs:=by
 rcases hM with h0 | ⟨b,c,h1,h2,h3,h4⟩
 ·exact .inl h0
 ·exact .inr ⟨b,c,h1,h2,h.cells h3,h4⟩
theorem Beside.own {B:Nat}{W W':World}(h:Beside B W W'){a:Option Addr}{vs:List Value}(hM:Cells W.heap a vs):Cells W'.heap a vs:=by
 rcases hM with h0 | ⟨b,o,c,T,fr,h1,h2,h3⟩
 ·exact .inl h0
 ·exact .inr ⟨b,o,c,T,fr,h1,h.cells h2,h3⟩
theorem Beside.mono {B B':Nat}{W W':World}(h:Beside B W W') (hB:B'<=B):Beside B' W W':=by
 obtain⟨r,h2,h3⟩:=h;exact⟨r,Nat.le_trans hB h2,h3⟩
theorem zce {W:World}{l:Nat}{o:Obj}:(W.putObj l o).heap=W.heap.setIfInBounds l o:=by
 apply Array.ext_getElem?
 intro i
 by_cases h:l=i
 ·subst h
  by_cases hl:l < W.heap.size
  ·rw [World.putObj_heap_same hl,Array.getElem?_setIfInBounds_self_of_lt hl]
  ·rw [Array.getElem?_eq_none (by simp;omega),Array.getElem?_eq_none (by simpa [World.putObj] using hl)]
 ·rw [World.putObj_heap_other (by omega),Array.getElem?_setIfInBounds_ne h]
theorem Beside.put {B:Nat}{W:World}{l:Nat}{o o':Obj}(hB:B<=l) (hl:W.heap[l]?=some o) (ho:zj2 o):Beside B W (W.putObj l o'):=by
 refine⟨l,hB,fun x hx=>?_,?_⟩
 ·rw [hl] at hx;cases hx;exact ho
 ·rw [zce]
  exact⟨by simp,fun b _ hn=>Array.getElem?_setIfInBounds_ne (by rintro rfl;exact hn (by simp))⟩
def Keep (M:List Nat) (B:Nat) (H H':Heap):Prop:=H.size<=H'.size/\(∀ b,b < B->b < H.size->b∉M->H'[b]?=H[b]?)/\∀ b o,B<=b->H[b]?=some o->zj2 o->H'[b]?=some o
theorem Keep.of {M M':List Nat}{B:Nat}{H H':Heap}(h:Ext M' H H') (hM:∀ b∈M',b∈M\/(B<=b/\∃ c T fr,H[b]?=some (.cells c T fr))) (hlt:∀ b∈M,b < B):Keep M B H H':=by
 refine⟨h.1,fun b hb hl hn=>h.2 b hl fun hm=>?_,fun b o hb ho hn=>?_⟩
 ·rcases hM b hm with h1 | ⟨h1,_⟩
  ·exact hn h1
  ·omega
 ·refine h.get ho fun hm=>?_
  rcases hM b hm with h1 | ⟨_,c,T,fr,h1⟩
  ·have:=hlt b h1;omega
  ·rw [ho] at h1;cases h1;exact hn c T fr rfl
theorem Keep.get {M:List Nat}{B:Nat}{H H':Heap}(h:Keep M B H H'){b:Nat}{o:Obj}(hb:H[b]?=some o) (hB:b < B) (hM:b∉M):H'[b]?=some o:=(h.2.1 b hB (lt_of_get hb) hM).trans hb
theorem Keep.ext {M M0:List Nat}{B:Nat}{H0 H H':Heap}(h:Keep M B H H') (h0:Ext M0 H0 H) (hB:H0.size<=B) (hM:∀ b,b < H0.size->b∈M->b∈M0):Ext M0 H0 H':=
 ⟨Nat.le_trans h0.1 h.1,fun b hb hn=>(h.2.1 b (Nat.lt_of_lt_of_le hb hB) (Nat.lt_of_lt_of_le hb h0.1) fun hm=>hn (hM b hb hm)).trans (h0.2 b hb hn)⟩
def qkl (P:Program){α:Type}(gv:Value) (S:List α->Prop) (nx:List α->α->Prop) (enc:α->Array Value) (fp:List Nat) (w:World):Prop:=
 ∃ gf lb,gv=.func (.func gf) #[] lb/\∀ (l:Nat) (I:List α->World->Prop) (J:World->Prop) (w1:World) (M:List Nat),
  Ext [] w.heap w1.heap->(∀ b∈M,b < w1.heap.size/\b∉fp)->(∀ pre W W',I pre W->Beside w1.heap.size W W'->I pre W')->I [] w1 ->
  (∀ pre x W,nx pre x->I pre W->ztj P l (enc x) W fun e W'=>Keep M w1.heap.size W.heap W'.heap/\((e=.returned (.bool true)/\I (pre++[x]) W')\/(e=.returned (.bool false)/\J W'))) ->
  qj P gf (#[.func (.yield l) #[] #[]]++lb) w1 fun e W=>(∃ v,e=.returned v)/\((∃ xs,S xs/\I xs W)\/J W)
theorem ztj.mono {P:Program}{l:Nat}{args:Array Value}{w:World}{R R':Ending->World->Prop}(h:ztj P l args w R) (hr:∀ e w',R e w'->R' e w'):ztj P l args w R':=by
 obtain⟨fn,tm,as1,bd,h1,h2⟩:=h
 exact⟨fn,tm,as1,bd,h1,h2.mono fun e w' ⟨h,hc⟩=>⟨hr e w' h,hc⟩⟩
theorem zwy {P:Program}{l:Nat}{args:Array Value}{shs:List Sh}{tup:Bool}{w:World}{K:Tup shs->World->Prop}(h:ztj P l args w fun e w'=>∃ t,e=.returned (zof shs tup t).2/\K t w') :
  zp1 P (.func (.yield l) #[] #[]) args shs tup w K:=.yield l rfl h
theorem zon {P:Program}{f:Nat}{args cap:Array Value}{shs:List Sh}{tup:Bool}{w:World}{K:Tup shs->World->Prop}(h:qj P f (args++cap) w fun e w'=>∃ t,e=.returned (zof shs tup t).2/\K t w') :
  zp1 P (.func (.func f) #[] cap) args shs tup w K:=.func f #[] cap rfl (by simpa using h)
theorem qdk {P:Program}{α:Type}{gv:Value}{S:List α->Prop}{nx:List α->α->Prop}{shs:List Sh}{tv:α->Tup shs}{fp:List Nat}{w:World}
  {body:Tup shs->World->(World->(World->Prop)->Prop)->(World->Prop)->(World->Prop)->(Nat->World->Prop)->Prop}{done ret:Nat->World->Prop}{ext:Nat->Nat->World->Prop}
  (hseq:qkl P gv S nx (fun x=>(Tup.vals shs (tv x)).toArray) fp w) (M:List Nat) (hM:∀ b∈M,b < w.heap.size/\b∉fp) (hfp:∀ b∈fp,b < w.heap.size)
  (I:List α->World->Prop) (Jr:World->Prop) (Jx:Nat->World->Prop)
  (hI:∀ pre W W',I pre W->Beside w.heap.size W W'->I pre W') (hJr:∀ W W',Jr W->Beside w.heap.size W W'->Jr W') (hJx:∀ i W W',Jx i W->Beside w.heap.size W W'->Jx i W')
  (h0:I [] w)
  (hbody:∀ pre x W,nx pre x->I pre W->w.heap.size+2<=W.heap.size->∀ (beg:World->(World->Prop)->Prop) (kc kr:World->Prop) (kx:Nat->World->Prop),
   (∀ W1 (K:World->Prop),Ext [] W.heap W1.heap->(∀ W2,Beside w.heap.size W1 W2->W2.heap.size=W1.heap.size ->
    (∀ W3,Keep M w.heap.size W2.heap W3.heap->I (pre++[x]) W3->kc W3)->(∀ W3,Keep M w.heap.size W2.heap W3.heap->Jr W3->kr W3)->(∀ i W3,Keep M w.heap.size W2.heap W3.heap->Jx i W3->kx i W3)->K W2)->beg W1 K) ->
   body (tv x) W beg kc kr kx)
  (hdone:∀ xs W,S xs->I xs W->W.heap[w.heap.size]?=some (.deferred (some []))->done w.heap.size W)
  (hret:∀ W,Jr W->W.heap[w.heap.size]?=some (.deferred (some []))->ret w.heap.size W)
  (hext:∀ i W,Jx i W->W.heap[w.heap.size]?=some (.deferred (some []))->ext i w.heap.size W) :
  z04 P shs gv w body done ret ext:=by
 obtain⟨gf,lb,hg,hseq⟩:=hseq
 refine⟨gf,lb,hg,fun oD oL oB oX oE hD hno w1 hw1 hY=>?_⟩
 obtain⟨hnL,hnB,hnX,hnE⟩:=hno
 have hx1:Ext [] w.heap w1.heap:=by rw [hw1];exact (Ext.push _).trans (Ext.push _)
 have hs1:w1.heap.size=w.heap.size+2:=by rw [hw1];simp
 have hD1:w1.heap[w.heap.size]?=some oD:=by rw [hw1];exact za1 zk
 have hL1:w1.heap[w.heap.size+1]?=some oL:=by
  rw [hw1]
  have:=zk (H:=w.heap.push oD) (o:=oL)
  simpa using this
 have hDc:zj2 oD:=by rw [hD];intro c T fr h;cases h
 have key:∀ {W W':World}{r:Nat}{o:Obj},(∀ o,W.heap[r]?=some o->zj2 o)->w1.heap.size<=r->Ext [r] W.heap W'.heap->∀ b,b < w.heap.size+2->W.heap[b]?=some o->W'.heap[b]?=some o:=
  fun _ hr hx b hb hbo=>hx.get hbo (by simp;omega)
 refine (hseq (w.heap.size+1)
  (fun pre W=>I pre W/\W.heap[w.heap.size]?=some oD/\W.heap[w.heap.size+1]?=some oL)
  (fun W=>W.heap[w.heap.size]?=some oD/\((Jr W/\W.heap[w.heap.size+1]?=some (oX .ret))\/∃ i,Jx i W/\W.heap[w.heap.size+1]?=some (oX (.exit i))))
  w1 ((w.heap.size+1) :: M) hx1 ?_ ?_ ⟨hI _ _ _ h0 (.new (Nat.le_refl _) hx1),hD1,hL1⟩ ?_).mono ?_
 ·intro b hb
  rcases List.mem_cons.1 hb with rfl | hb
  ·exact⟨by omega,fun h=>by have:=hfp _ h;omega⟩
  ·exact⟨by have:=(hM b hb).1;omega,(hM b hb).2⟩
 ·rintro pre W W' ⟨h1,h2,h3⟩ hA
  have hA':=hA
  obtain⟨r,hr,hn,hx⟩:=hA'
  exact⟨hI _ _ _ h1 (hA.mono (by omega)),key hn hr hx _ (by omega) h2,key hn hr hx _ (by omega) h3⟩
 ·rintro pre x W hnx ⟨h1,h2,h3⟩
  have hlt:w.heap.size+1 < W.heap.size:=(Array.getElem?_eq_some_iff.1 h3).1
  refine hY (tv x) W _ h3 (hbody pre x W hnx h1 (by omega) _ _ _ _ ?_)
  intro W1 K hxW1 hK
  have h31:W1.heap[w.heap.size+1]?=some oL:=hxW1.get h3 (by simp)
  have h21:W1.heap[w.heap.size]?=some oD:=hxW1.get h2 (by simp)
  refine⟨h31,fun W2 hW2=>?_⟩
  have hlt1:w.heap.size+1 < W1.heap.size:=(Array.getElem?_eq_some_iff.1 h31).1
  have hh2:W2.heap=W1.heap.setIfInBounds (w.heap.size+1) oB:=by rw [hW2,zce]
  have h32:W2.heap[w.heap.size+1]?=some oB:=by rw [hh2];exact Array.getElem?_setIfInBounds_self_of_lt hlt1
  have h22:W2.heap[w.heap.size]?=some oD:=by rw [hh2,Array.getElem?_setIfInBounds_ne (by omega)];exact h21
  have fin:∀ (o':Obj) (W3:World),Keep M w.heap.size W2.heap W3.heap->W3.heap[w.heap.size+1]?=some oB/\Keep ((w.heap.size+1) :: M) w1.heap.size W.heap (W3.putObj (w.heap.size+1) o').heap/\(W3.putObj (w.heap.size+1) o').heap[w.heap.size]?=some oD /\
    (W3.putObj (w.heap.size+1) o').heap[w.heap.size+1]?=some o'/\Beside w.heap.size W3 (W3.putObj (w.heap.size+1) o'):=by
   intro o' W3 hx3
   have h33:W3.heap[w.heap.size+1]?=some oB:=hx3.2.2 _ _ (by omega) h32 hnB
   have h23:W3.heap[w.heap.size]?=some oD:=hx3.2.2 _ _ (Nat.le_refl _) h22 hDc
   have hlt3:w.heap.size+1 < W3.heap.size:=(Array.getElem?_eq_some_iff.1 h33).1
   have hn2:∀ b,b≠w.heap.size+1->W2.heap[b]?=W1.heap[b]?:=fun b hb=>by rw [hh2];exact Array.getElem?_setIfInBounds_ne (Ne.symm hb)
   have hn4:∀ b,b≠w.heap.size+1->(W3.putObj (w.heap.size+1) o').heap[b]?=W3.heap[b]?:=fun b hb=>by rw [zce];exact Array.getElem?_setIfInBounds_ne (Ne.symm hb)
   have hs2:W2.heap.size=W1.heap.size:=by rw [hh2];simp
   refine⟨h33,⟨?_,?_,?_⟩,?_,?_,.put (by omega) h33 hnB⟩
   ·rw [zce]
    have:=hxW1.1;have:=hx3.1
    simp;omega
   ·intro b hb hl hn
    simp only [List.mem_cons,not_or] at hn
    rw [hn4 b hn.1]
    by_cases hbD:b=w.heap.size
    ·rw [hbD,h23,h2]
    ·rw [hx3.2.1 b (by omega) (by have:=hxW1.1;omega) hn.2,hn2 b hn.1]
     exact hxW1.2 b hl (by simp)
   ·intro b o hb ho hno
    rw [hn4 b (by omega)]
    exact hx3.2.2 b o (by omega) (by rw [hn2 b (by omega)];exact hxW1.get ho (by simp)) hno
   ·rw [hn4 _ (by omega)];exact h23
   ·rw [zce];exact Array.getElem?_setIfInBounds_self_of_lt hlt3
  refine hK W2 (by rw [hW2];exact .put (by omega) h31 hnL) (by rw [hh2];simp) (fun W3 hx3 h=>?_) (fun W3 hx3 h=>?_) (fun i W3 hx3 h=>?_)
  ·obtain⟨a,b,c,d,e⟩:=fin oL W3 hx3
   exact⟨a,b,.inl ⟨rfl,hI _ _ _ h e,c,d⟩⟩
  ·obtain⟨a,b,c,d,e⟩:=fin (oX .ret) W3 hx3
   exact⟨a,b,.inr ⟨rfl,c,.inl ⟨hJr _ _ h e,d⟩⟩⟩
  ·obtain⟨a,b,c,d,e⟩:=fin (oX (.exit i)) W3 hx3
   exact⟨a,b,.inr ⟨rfl,c,.inr ⟨i,hJx _ _ _ h e,d⟩⟩⟩
 ·have put:∀ {W:World}{o o':Obj},W.heap[w.heap.size]?=some oD->(W.putObj (w.heap.size+1) o').heap[w.heap.size]?=some (.deferred (some [])):=by
   intro W o o' h
   rw [zce,Array.getElem?_setIfInBounds_ne (by omega),h,hD]
  rintro e W ⟨hv,⟨xs,hS,h1,h2,h3⟩ | ⟨h2,⟨h1,h3⟩ | ⟨i,h1,h3⟩⟩⟩
  ·exact⟨hv,.inl ⟨h3,hdone xs _ hS (hI _ _ _ h1 (.put (by omega) h3 hnL)) (put (o:=oD) h2)⟩⟩
  ·exact⟨hv,.inr (.inl ⟨h3,hret _ (hJr _ _ h1 (.put (by omega) h3 (hnX _))) (put (o:=oD) h2)⟩)⟩
  ·exact⟨hv,.inr (.inr ⟨i,h3,hext i _ (hJx _ _ _ h1 (.put (by omega) h3 (hnX _))) (put (o:=oD) h2)⟩)⟩
theorem zxp {P:Program}{w:World}{H:Heap}{y:TypeId}{v:Value}(hs:P.cellsOf y=v.cells.size) (hz:(zc P y).size=v.cells.size) (h0:v.cells.size≠0) (h1:zbo v.cells.toList) (hw:w.heap=H){K:Nat->World->Prop}
  (hK:∀ w',w'.heap=H.push (.cells v.cells y (0,0))->K H.size w'):zat (zc P y) y w fun b w1=>zah P (storeVar y (⟨b,0,none⟩:Addr) v) w1 fun w2=>K b w2:=by
 refine ji hw fun w1 hw1=>?_
 refine zbe hs h0 h1 hw1 zk (by omega) fun w2 hw2=>hK w2 ?_
 rw [hw2,zau (by simpa using hz.symm)]
 apply Array.ext_getElem?
 intro i
 by_cases h:H.size=i
 ·subst h
  simp
 ·rw [Array.getElem?_setIfInBounds_ne h]
  by_cases hi:i < H.size
  ·rw [za1 (Array.getElem?_eq_getElem hi),za1 (Array.getElem?_eq_getElem hi)]
  ·rw [Array.getElem?_eq_none (by simp;omega),Array.getElem?_eq_none (by simp;omega)]
def Elem (P:Program) (e:TypeId) (sz bts:Nat):Prop:=∃ info z,P.info? e=some info/\info.size=sz/\info.zero=some z/\z.cells.size=sz/\info.bytes=bts
theorem zii {P:Program}{e:TypeId}{sz bts:Nat}{z:Value}(h:(P.info? e).map (fun i=>(i.size,i.bytes,i.zero))=some (sz,bts,some z)) (hz:z.cells.size=sz):Elem P e sz bts:=by
 obtain⟨i,hi,h⟩:=Option.map_eq_some_iff.1 h
 simp only [Prod.mk.injEq] at h
 exact⟨i,z,hi,h.1,h.2.2,hz,h.2.1⟩
theorem zbx {P:Program}{w:World}{H:Heap}{st xt e ty:TypeId}{sz bts B:Nat}{x:Option Addr×Nat×Nat}{y:Value}{n:Nat}{vs us:List Value}(E:Elem P e sz bts) (hb:bts≠0) (hu:P.underlying st=some (.slice e)) (hx:∃ d,P.underlying xt=some d/\∀ k,d≠.int k)
  (hw:w.heap=H) (hown:Mine H B e sz x vs) (hB:B<=H.size) (hsrc:Src P w y sz n us) (h1:zbo us) (hroom:(2 * (x.2.1+n)+192) * bts<=281474976710656){K:(Option Addr×Nat×Nat)->World->Prop}
  (hK:∀ x' w',Mine w'.heap B e sz x' (vs++us)->x'.2.1=x.2.1+n->Ext (jw x) H w'.heap->(∀ b,b∈jw x'->b∈jw x\/H.size<=b)->K x' w') :
  za2 P (Builtin.append_ #[st,xt] ty #[.slice x.1 x.2.1 x.2.2,y]) .slc w K:=by
 obtain⟨i,z,hi,hs,hz,hzs,hbb⟩:=E
 obtain⟨x',w',h2,hc,h3,h4,h5,h6⟩:=z5n (ty:=ty) hu hx hi hs hz hzs (by omega) hw hown hB hsrc h1 (by rw [hbb];exact hroom)
 exact zaf x' w' h2 (hK x' w' h3 h4 h5 h6) hc
theorem zar {P:Program}{st e:TypeId}(hu:P.underlying st=some (.slice e)):∃ d,P.underlying st=some d/\∀ k,d≠.int k:=⟨_,hu,by intro k h;cases h⟩
theorem zff {P:Program}{w:World}{H:Heap}{a:Option Addr}{len sz:Nat}{α:Type}{enc:α->List Value}(hk:∀ x,(enc x).length=sz) (h0:0 < sz){xs:List α}{v:α}{i:Nat}{n:Int}(hw:w.heap=H) (hL:Cells H a (xs.flatMap enc))
  (hlen:len=xs.length) (hi:xs[i]?=some v) (hn:n=(i:Int)){K:Array Value->Prop}(hK:K (enc v).toArray):ixS a len sz n fun p=>ldA P sz p w K:=by
 have hlt:=(List.getElem?_eq_some_iff.1 hi).1
 rcases hL with h | ⟨b,o,c,T,fr,rfl,hb,hsz,hc⟩
 ·have:=congrArg List.length h
  rw [xg enc hk] at this
  have:=Nat.mul_pos (show 0 < xs.length by omega) h0
  simp_all
 ·refine qdt i hn (by omega) ?_
  have hm:i * sz+sz<=xs.length * sz:=by
   have:=Nat.mul_le_mul_right sz (show i+1<=xs.length by omega)
   rw [Nat.add_mul] at this;omega
  rw [xg enc hk] at hsz
  refine z3s hw hb (by omega) ?_
  have:c.extract (o+i * sz) (o+i * sz+sz)=(enc v).toArray:=by
   apply Array.ext_getElem?
   intro j
   rw [Array.getElem?_extract]
   by_cases hj:j < sz
   ·rw [if_pos (by omega)]
    have h2:(xs.flatMap enc)[i * sz+j]?=(enc v)[j]?:=by
     rw [getElem_flatMap enc hk h0]
     have h3:(i * sz+j) / sz=i:=by
      rw [Nat.mul_comm,Nat.mul_add_div h0,Nat.div_eq_of_lt hj];rfl
     have h4:(i * sz+j) % sz=j:=by
      rw [Nat.mul_comm,Nat.mul_add_mod,Nat.mod_eq_of_lt hj]
     rw [h3,h4,hi];rfl
    rw [<-hc,Array.getElem?_toList,Array.getElem?_extract,xg enc hk,if_pos (by omega)] at h2
    rw [show o+i * sz+j=o+(i * sz+j) by omega,h2]
    simp
   ·rw [if_neg (by omega)]
    rw [Array.getElem?_eq_none (by simp [hk];omega)]
  rw [this];exact hK
theorem zre (off:Nat):∀ (vs:List Value) (k:Nat) (cs:Array Value),(vs.zipIdx k).foldl (fun cs x=>cs.setIfInBounds (off+x.2) x.1) cs=setCells cs (off+k) vs
 | [],_,_=>rfl
 | v :: r,k,cs=>by
  simp only [List.zipIdx_cons,List.foldl_cons,setCells]
  rw [zre off r (k+1)]
  rfl
theorem qec {v:Value}{size:Nat}{cs:Array Value}(hs:v.cells.size=size) (hc:cs.size=size):Instr.fill (fun i=>some (i * size,size)) cs [(0,v)]=some v.cells:=by
 simp only [Instr.fill,Nat.zero_mul,Nat.zero_add,hs,hc,ne_eq,not_true_eq_false,decide_false,Bool.false_or,Nat.lt_irrefl,decide_eq_true_eq,if_false,Bool.or_self,Bool.false_eq_true,gt_iff_lt]
 congr 1
 have h:=zre 0 v.cells.toList 0 cs
 simp only [Nat.zero_add] at h
 rw [<-Array.foldl_toList,Array.toList_zipIdx,h,zau (by simpa [hc] using hs)]
theorem zee {P:Program}{w:World}{st e:TypeId}{sz bts:Nat}{v:Value}(E:Elem P e sz bts) (hu:P.underlying st=some (.slice e)) (hv:v.cells.size=sz) (h0:0 < sz) (h1:sz<=16777216) :
  (Instr.buildSlice st 1 #[(0,v)]).run P w=.ok (.slice (some ⟨w.heap.size,0,none⟩) 1 1) { w with heap:=w.heap.push (.cells v.cells e) }:=by
 obtain⟨i,z,hi,hs,hz,hzs,_⟩:=E
 have hn1:¬(1 * i.size > 2 ^ 24):=by
  have:(2:Nat) ^ 24=16777216:=by decide
  rw [this];omega
 have hn2:¬(1 * i.size=0):=by omega
 have hf:Instr.fill (fun k=>some (k * i.size,i.size)) ((Array.range (1 * i.size)).map (z.cells[· % z.cells.size]!)) [(0,v)]=some v.cells:=qec (by omega) (by simp)
 exact run_buildSlice w st e 1 #[(0,v)] v.cells i z hu hi hz hn1 hn2 hf
open Go.Proofs Go.Sort
theorem zhu:∀ {a b:List UInt8},Lib.compareBytes a b < 0 ↔ a < b
 | [],[]=>by simp [Lib.compareBytes]
 | [],b :: y=>by simp [Lib.compareBytes]
 | a :: x,[]=>by simp [Lib.compareBytes]
 | a :: x,b :: y=>by
  have ih:=zhu (a:=x) (b:=y)
  rw [List.cons_lt_cons_iff]
  simp only [Lib.compareBytes]
  by_cases h1:a < b
  ·simp [h1]
  ·rw [if_neg h1]
   by_cases h2:b < a
   ·rw [if_pos h2]
    have:a≠b:=by rintro rfl;exact h1 h2
    simp [h1,this]
   ·rw [if_neg h2]
    have:a=b:=UInt8.le_antisymm (UInt8.not_lt.1 h2) (UInt8.not_lt.1 h1)
    subst this
    simp [h1,ih]
theorem zi3:∀ {a b:List UInt8},Lib.compareBytes a b=0 ↔ a=b
 | [],[]=>by simp [Lib.compareBytes]
 | [],b :: y=>by simp [Lib.compareBytes]
 | a :: x,[]=>by simp [Lib.compareBytes]
 | a :: x,b :: y=>by
  have ih:=zi3 (a:=x) (b:=y)
  simp only [Lib.compareBytes,List.cons.injEq]
  by_cases h1:a < b
  ·have:a≠b:=by rintro rfl;exact UInt8.lt_irrefl _ h1
   simp [h1,this]
  ·rw [if_neg h1]
   by_cases h2:b < a
   ·have:a≠b:=by rintro rfl;exact h1 h2
    simp [h2,this]
   ·rw [if_neg h2]
    have:a=b:=UInt8.le_antisymm (UInt8.not_lt.1 h2) (UInt8.not_lt.1 h1)
    simp [this,ih]
theorem zus:∀ {a b:List UInt8},Lib.compareBytes a b=- Lib.compareBytes b a
 | [],[]=>by simp [Lib.compareBytes]
 | [],b :: y=>by simp [Lib.compareBytes]
 | a :: x,[]=>by simp [Lib.compareBytes]
 | a :: x,b :: y=>by
  have ih:=zus (a:=x) (b:=y)
  simp only [Lib.compareBytes]
  by_cases h1:a < b
  ·have:¬b < a:=fun h=>UInt8.lt_irrefl _ (UInt8.lt_trans h1 h)
   simp [h1,this]
  ·by_cases h2:b < a
   ·simp [h1,h2]
   ·simp [h1,h2];exact ih
theorem zlo:∀ {a b:List UInt8},Lib.compareBytes a b=-1\/Lib.compareBytes a b=0\/Lib.compareBytes a b=1
 | [],[]=>by simp [Lib.compareBytes]
 | [],b :: y=>by simp [Lib.compareBytes]
 | a :: x,[]=>by simp [Lib.compareBytes]
 | a :: x,b :: y=>by
  simp only [Lib.compareBytes]
  split
  ·simp
  ·split
   ·simp
   ·exact zlo
@[simp] theorem zbi {L:List UInt8}:(strOf L).toList=L:=by rw [ByteArray.toList_eq];rfl
@[simp] theorem jy {L:List UInt8}:(strOf L).size=L.length:=rfl
theorem z7d {s:ByteArray}:strOf s.data.toList=s:=rfl
theorem zzn {L:List UInt8}{l h:Nat}:(strOf L).extract l h=strOf ((L.take h).drop l):=by
 apply ByteArray.ext
 simp only [ByteArray.data_extract,strOf]
 apply Array.ext'
 simp [List.extract_eq_take_drop,List.drop_take]
theorem z1a {A B:List UInt8}:strOf A++strOf B=strOf (A++B):=by
 apply ByteArray.ext
 simp [strOf,ByteArray.data_append]
theorem znn {L:List UInt8}{i:Int}{K:Int->Prop}(k:Nat) (hi:i=(k:Int)) (hk:k < L.length) (hK:K ((L[k]).toNat:Int)):zra (strOf L) i K:=by
 subst hi
 refine⟨by omega,L[k],?_,hK⟩
 show (strOf L)[((k:Int)).toNat]?=some L[k]
 rw [Int.toNat_natCast]
 have h:k < (strOf L).size:=hk
 rw [getElem?_pos (strOf L) k h]
 rfl
theorem zyk {A B:List UInt8}{K:ByteArray->Prop}(h:A.length+B.length<=9223372036854775807) (hK:K (strOf (A++B))):qd4 (strOf A) (strOf B) K:=⟨by simp only [jy];exact h,by rw [z1a];exact hK⟩
theorem z2f (A:Array UInt8):(ByteArray.mk A).toList=A.toList:=ByteArray.toList_eq _
theorem zg6 {L:List UInt8}{A:Array UInt8}:((strOf L).toList==(ByteArray.mk A).toList)=true ↔ L=A.toList:=by rw [zbi,z2f,beq_iff_eq]
theorem z3r {L M:List UInt8}:((strOf L).toList==(strOf M).toList)=true ↔ L=M:=by rw [zbi,zbi,beq_iff_eq]
section
variable {P:Program}{w:World}
theorem znt {t:TypeId}{L:List UInt8}{l h:Nat}{lo hi:Option Value}(hu:P.underlying t=some .string) (hlo:IxO lo 0 l) (hhi:IxO hi L.length h) (h1:l<=h) (h2:h<=L.length) :
  (Instr.sliceAt t (.string (strOf L)) lo hi none).run P w=.ok (.string (strOf ((L.take h).drop l))) w:=by
 rw [zzx (s:=strOf L) hu hlo hhi h1 h2,zzn]
end
theorem z08 {a b:List UInt8}:(strOf a==strOf b)=decide (a=b):=by
 show ((strOf a).data==(strOf b).data)=_
 rw [Bool.eq_iff_iff,beq_iff_eq,decide_eq_true_iff]
 simp [strOf]
theorem z2l {κ:Type} [DecidableEq κ] {enc:κ->ByteArray}(heq:∀ a b,(enc a==enc b)=decide (a=b)){k:κ}:∀ (l:List (κ×Value×Nat)) (i:Nat),
  Instr.findNow .string (.string (enc k)) (l.map fun x=>⟨.string (enc x.1),x.2.1,x.2.2⟩) i=some ((l.findIdx? (fun x=>x.1==k)).bind fun j=>(l[j]?).map fun x=>(i+j,x.2.1))
 | [],i=>by simp [Instr.findNow]
 | x :: l,i=>by
  have ih:=z2l heq (k:=k) l (i+1)
  simp only [List.map_cons,Instr.findNow,Instr.sameNow,heq]
  by_cases e:x.1=k
  ·subst e
   simp [List.findIdx?_cons]
  ·have e2:¬k=x.1:=fun h=>e h.symm
   simp only [e2,decide_false,ih]
   congr 1
   rw [List.findIdx?_cons]
   simp only [beq_eq_false_iff_ne.2 e]
   cases hf:List.findIdx? (fun x=>x.1==k) l with
   | none=>simp
   | some j=>simp [Nat.add_assoc,Nat.add_comm 1 j]
theorem KeyOk.str {P:Program}{t:TypeId}(hu:P.underlying t=some .string):KeyOk P t (List UInt8) (fun _=>True) (fun L=>.string (strOf L)) where
 find w k es l _ _ he:=by
  subst he
  have h:=z2l (enc:=strOf) (fun a b=>z08) (k:=k) l 0
  simp only [Nat.zero_add] at h
  simp only [Instr.findKey,Sem.run_bind,xu hu,Result.andThen_ok,h,Sem.run_pure]
 chk w k e _:=by
  rw [show (10000:Nat)=9999+1 from rfl,Instr.checkKey]
  simp only [Sem.run_bind,xu hu,Result.andThen_ok,Sem.run_pure]
 same k _:=by simp [Instr.sameBits,z08]
def strRow (xs:List (List UInt8)):List Value:=xs.map fun L=>.string (strOf L)
@[simp] theorem zaj {xs:List (List UInt8)}:(strRow xs).length=xs.length:=by simp [strRow]
theorem zx9 {xs:List (List UInt8)}:zbo (strRow xs):=by
 intro v hv
 obtain⟨L,_,rfl⟩:=List.mem_map.1 hv
 rfl
theorem zdi {xs:List (List UInt8)}{n:Nat}:(strRow xs).take n=strRow (xs.take n):=by simp [strRow]
theorem zvx {xs:List (List UInt8)}{n:Nat}:(strRow xs).drop n=strRow (xs.drop n):=by simp [strRow]
theorem zmx {xs ys:List (List UInt8)}:strRow xs++strRow ys=strRow (xs++ys):=by simp [strRow]
theorem zsv {w:World}{H:Heap}{a:Option Addr}{len i:Nat}{n:Int}{xs:List (List UInt8)}(hw:w.heap=H) (hL:Cells H a (strRow xs)) (hlen:len=xs.length) (hi:i < xs.length) (hn:n=(i:Int)){K:ByteArray->Prop}(hK:K (strOf xs[i])) :
  ixS a len 1 n fun p=>ld .str p w K:=by
 rcases hL with h | ⟨b,o,c,T,fr,rfl,hb,hsz,hc⟩
 ·have:=congrArg List.length h
  rw [zaj] at this;simp at this;subst this;simp at hi
 ·refine zvs i hn (by omega) ?_
  refine jg (s:=.str) hw hb ?_ hK
  have h2:(strRow xs)[i]?=some (.string (strOf xs[i])):=by simp [strRow,hi]
  rw [<-hc,Array.getElem?_toList,Array.getElem?_extract,zaj] at h2
  split at h2
  ·exact h2
  ·cases h2
theorem z6g {w:World}{H:Heap}{a a':Option Addr}{len len' i j:Nat}{n n':Int}{xs ys:List (List UInt8)}(hw:w.heap=H) (hL:Cells H a (strRow xs)) (hlen:len=xs.length) (hi:i < xs.length) (hn:n=(i:Int))
  (hL':Cells H a' (strRow ys)) (hlen':len'=ys.length) (hj:j < ys.length) (hn':n'=(j:Int)){K:ByteArray->ByteArray->Prop}(hK:K (strOf xs[i]) (strOf ys[j])) :
  ixS a len 1 n fun p=>ixS a' len' 1 n' fun p'=>ld .str p w fun t=>ld .str p' w fun t'=>K t t':=by
 rcases hL with h | ⟨b,o,c,T,fr,rfl,hb,hsz,hc⟩
 ·have:=congrArg List.length h
  rw [zaj] at this;simp at this;subst this;simp at hi
 rcases hL' with h | ⟨b',o',c',T',fr',rfl,hb',hsz',hc'⟩
 ·have:=congrArg List.length h
  rw [zaj] at this;simp at this;subst this;simp at hj
 refine zvs i hn (by omega) ?_
 refine zvs j hn' (by omega) ?_
 have h2:(strRow xs)[i]?=some (.string (strOf xs[i])):=by simp [strRow,hi]
 rw [<-hc,Array.getElem?_toList,Array.getElem?_extract,zaj] at h2
 have h3:(strRow ys)[j]?=some (.string (strOf ys[j])):=by simp [strRow,hj]
 rw [<-hc',Array.getElem?_toList,Array.getElem?_extract,zaj] at h3
 refine jg (s:=.str) hw hb (by split at h2;exact h2;cases h2) ?_
 refine jg (s:=.str) hw hb' (by split at h3;exact h3;cases h3) ?_
 exact hK
end Go.Fw
namespace Go.Proofs.YthaaekcaaecdeaaGreatDoor
open Go Go.Fw Go.Proofs
def zpf (c:Int):Bool:=decide (c=46\/c=95\/c=45\/(48<=c/\c<=57)\/(97<=c/\c<=122)\/(65<=c/\c<=90))
def ze4 (b:UInt8):Bool:=zpf (b.toNat:Int)
def zei (L:List UInt8):Bool:=decide (L≠[]/\L.length<=16/\L≠[46]/\L≠[46,46])&&L.all ze4
abbrev Path:=List (List UInt8)
def zrh (p:Path):Int:=if p.all zei then (if 8 < p.length then 42 else 0) else 41
def zeb:Path->Path->Int
 | [],[]=>0
 | [],_ :: _=>-1
 | _ :: _,[]=>1
 | x :: a,y :: b=>if Lib.compareBytes x y≠0 then Lib.compareBytes x y else zeb a b
theorem zyu {c:Int}{w:World}(h:c=46\/c=95\/c=45\/(48<=c/\c<=57)\/(97<=c/\c<=122)\/(65<=c/\c<=90)):(Ending.returned (Value.bool true)=.returned (.bool (zpf c)))/\w=w:=⟨by simp only [zpf,decide_eq_true h],rfl⟩
theorem z5a {c:Int}{w:World}(h:¬(c=46\/c=95\/c=45\/(48<=c/\c<=57)\/(97<=c/\c<=122)\/(65<=c/\c<=90))):(Ending.returned (Value.bool false)=.returned (.bool (zpf c)))/\w=w:=⟨by simp only [zpf,decide_eq_false h],rfl⟩
theorem z07 {c:Int}{w:World}{b:Bool}(h:b=zpf c):(Ending.returned (Value.bool b)=.returned (.bool (zpf c)))/\w=w:=⟨by rw [h],rfl⟩
theorem qcm {w:World}(c:Int):qj P zjo #[.int .u8 c] w fun e w'=>e=.returned (.bool (zpf c))/\w'=w:=by
 refine zxo ?_
 unfold zrx
 repeat' first
  | refine jf ?_
  | refine zba (fun h=>?_) (fun h=>?_)
  | refine zy (fun h=>?_) (fun h=>?_)
  | exact zyu (by omega)
  | exact z5a (by omega)
  | exact z07 (decide_eq_decide.2 (by omega))
theorem qeh {w:World}(c:Int):qj P zp4 #[.int .u8 c] w fun e w'=>e=.returned (.bool (zpf c))/\w'=w:=by
 refine z3d ?_
 unfold zw2
 repeat' first
  | refine jf ?_
  | refine zba (fun h=>?_) (fun h=>?_)
  | refine zy (fun h=>?_) (fun h=>?_)
  | exact zyu (by omega)
  | exact z07 (by rw [zpf,Bool.eq_iff_iff,beq_iff_eq,decide_eq_true_iff];omega)
theorem qdu {L:List UInt8}{i:Nat}(hi:i < L.length) (h:∀ b∈L.take i,ze4 b=true) (hb:ze4 L[i]=true):∀ b∈L.take (i+1),ze4 b=true:=by
 intro b hm
 rw [List.take_add_one,List.getElem?_eq_getElem hi] at hm
 rcases List.mem_append.1 hm with hm | hm
 ·exact h b hm
 ·simp only [Option.toList_some,List.mem_singleton] at hm;subst hm;exact hb
theorem z0q {L:List UInt8}{i:Nat}(hi:i < L.length) (hb:ze4 L[i]=false):L.all ze4=false:=by
 rw [List.all_eq_false]
 exact⟨L[i],List.getElem_mem hi,by simp [hb]⟩
theorem qi9 {w:World}(L:List UInt8) (hL:L.length<=9223372036854775807):qj P zno #[.string (strOf L)] w fun e w'=>e=.returned (.bool (zei L))/\w'=w:=by
 refine zz7 ?_
 unfold ztz
 have no:∀ {w:World},¬(L≠[]/\L.length<=16/\L≠[46]/\L≠[46,46])->(Ending.returned (Value.bool false)=.returned (.bool (zei L)))/\w=w:=fun h=>⟨by simp only [zei,decide_eq_false h,Bool.false_and],rfl⟩
 refine jf ?_
 refine zbv (p:=L=[]) zg6 (fun h=>no fun h2=>h2.1 h) (fun h1=>?_)
 refine zy (fun h=>no fun h2=>by have:=h2.2.1;simp only [jy] at h;omega) (fun h2=>?_)
 refine zbv (p:=L=[46]) zg6 (fun h=>no fun h2=>h2.2.2.1 h) (fun h3=>?_)
 refine zbv (p:=L=[46,46]) zg6 (fun h=>no fun h2=>h2.2.2.2 h) (fun h4=>?_)
 have hc:(L≠[]/\L.length<=16/\L≠[46]/\L≠[46,46]):=⟨h1,by simp only [jy] at h2;omega,h3,h4⟩
 have hno:zei L=L.all ze4:=by simp only [zei,decide_eq_true hc,Bool.true_and]
 rw [hno]
 refine zae (fun (s:Int) W=>∃ i:Nat,s=(i:Int)/\i<=L.length/\W=w/\∀ b∈L.take i,ze4 b=true) (fun s _=>(L.length-s).toNat) ⟨0,rfl,Nat.zero_le _,rfl,by simp⟩ ?_
 rintro _ w ⟨i,rfl,hi,rfl,hp⟩
 refine zy (fun hlt=>?_) (fun hge=>?_)
 ·have hil:i < L.length:=by simp only [jy] at hlt;omega
  refine znn i rfl hil ?_
  refine zdf (ze4 L[i]) (qcm _) ?_
  cases hb:ze4 L[i] with
  | false=>exact jh rfl ⟨by rw [z0q hil hb],rfl⟩
  | true=>
   refine qp rfl ?_
   refine jr ((i+1:Nat):Int) (by omega) (by omega) (by omega) ?_
   exact⟨⟨i+1,rfl,by omega,rfl,qdu hil hp hb⟩,by omega⟩
 ·have:i=L.length:=by simp only [jy] at hge;omega
  subst this
  rw [List.take_length] at hp
  exact⟨by rw [List.all_eq_true.2 hp],rfl⟩
theorem zj6:P.underlying zx=some (.slice qx):=by kernel_rfl
theorem zs9:(P.info? qx).map (·.size)=some 1:=by kernel_rfl
def Fit (p:Path):Prop:=∀ L∈p,L.length<=9223372036854775807
theorem z3l {p:Path}{i:Nat}(hi:i < p.length) (hb:zei p[i]=false):p.all zei=false:=by
 rw [List.all_eq_false]
 exact⟨p[i],List.getElem_mem hi,by simp [hb]⟩
theorem zy6 {p:Path}{i:Nat}(hi:i < p.length) (h:∀ b∈p.take i,zei b=true) (hb:zei p[i]=true):∀ b∈p.take (i+1),zei b=true:=by
 intro b hm
 rw [List.take_add_one,List.getElem?_eq_getElem hi] at hm
 rcases List.mem_append.1 hm with hm | hm
 ·exact h b hm
 ·simp only [Option.toList_some,List.mem_singleton] at hm;subst hm;exact hb
theorem z3o {w:World}{H:Heap}{a:Option Addr}{n nc:Nat}{p:Path}(hw:w.heap=H) (hL:Cells H a (strRow p)) (hn:n=p.length) (hf:Fit p) (hp:p.length<=9223372036854775807):qj P zh0 #[.slice a n nc] w fun e w'=>e=.returned (.int .i64 (zrh p))/\w'=w:=by
 subst hn
 refine zxi ?_
 unfold zqp
 refine zae (fun (s:Int) W=>∃ i:Nat,s=(i:Int)/\i<=p.length/\W=w/\∀ b∈p.take i,zei b=true) (fun s _=>(p.length-s).toNat) ⟨0,rfl,Nat.zero_le _,rfl,by simp⟩ ?_
 rintro _ w ⟨i,rfl,hi,rfl,hok⟩
 refine zy (fun hlt=>?_) (fun hge=>?_)
 ·have hil:i < p.length:=by omega
  refine zsv hw hL rfl hil rfl ?_
  refine zh (qi9 _ (hf _ (List.getElem_mem hil))) ?_
  rintro e w' ⟨rfl,rfl⟩
  refine⟨_,rfl,?_⟩
  cases hb:zei p[i] with
  | false=>exact jh rfl ⟨by simp [zrh,z3l hil hb],rfl⟩
  | true=>
   refine qp rfl ?_
   refine jr ((i+1:Nat):Int) (by omega) (by omega) (by omega) ?_
   exact⟨⟨i+1,rfl,by omega,rfl,zy6 hil hok hb⟩,by omega⟩
 ·have:i=p.length:=by omega
  subst this
  rw [List.take_length] at hok
  have hall:p.all zei=true:=List.all_eq_true.2 hok
  refine zy (fun h=>⟨by simp only [zrh,hall,if_true];rw [if_pos (by omega)],rfl⟩) (fun h=>⟨by simp only [zrh,hall,if_true];rw [if_neg (by omega)],rfl⟩)
def zbq (p q:Path):Bool:=q.isPrefixOf p
theorem within_iff {p q:Path}:zbq p q=true ↔ q.length<=p.length/\p.take q.length=q:=by
 unfold zbq
 rw [List.isPrefixOf_iff_prefix]
 constructor
 ·rintro ⟨t,rfl⟩
  exact⟨by simp,by simp⟩
 ·rintro ⟨h1,h2⟩
  exact⟨p.drop q.length,(congrArg (·++p.drop q.length) h2.symm).trans (List.take_append_drop _ _)⟩
theorem zqx {p q:Path}{i:Nat}(hip:i < p.length) (hiq:i < q.length) (h:p.take i=q.take i) (e:p[i]=q[i]):p.take (i+1)=q.take (i+1):=by
 rw [List.take_add_one,List.take_add_one,List.getElem?_eq_getElem hip,List.getElem?_eq_getElem hiq,h,e]
theorem qdg {p q:Path}{i:Nat}(hip:i < p.length) (hiq:i < q.length) (e:p[i]≠q[i]):p≠q:=by rintro rfl;exact e rfl
theorem qal {w:World}{H:Heap}{a b:Option Addr}{n nc m mc:Nat}{p q:Path}(hw:w.heap=H) (hL:Cells H a (strRow p)) (hn:n=p.length) (hM:Cells H b (strRow q)) (hm:m=q.length) (hp:p.length<=9223372036854775807) (hq:q.length<=9223372036854775807) :
  qj P zk1 #[.slice a n nc,.slice b m mc] w fun e w'=>e=.returned (.bool (zbq p q))/\w'.heap=H:=by
 subst hn hm
 refine zzq ?_
 unfold ztn
 refine zy (fun h=>⟨by congr 2;refine (Bool.eq_false_iff.2 ?_).symm;intro h2;have:=(within_iff.1 h2).1;omega,hw⟩) (fun hl=>?_)
 refine zae (fun (s:Int) W=>∃ i:Nat,s=(i:Int)/\i<=q.length/\W.heap=H/\p.take i=q.take i) (fun s _=>(q.length-s).toNat) ⟨0,rfl,Nat.zero_le _,hw,by simp⟩ ?_
 rintro _ W ⟨i,rfl,hi,hW,hs⟩
 refine zy (fun hlt=>?_) (fun hge=>?_)
 ·have hil:i < q.length:=by omega
  refine vw hW fun W1 hW1=>?_
  refine z6g hW1 hL rfl (by omega) rfl hM rfl hil rfl ?_
  by_cases e:p[i]'(by omega)=q[i]
  ·refine qp (by simp [e]) ?_
   refine jr ((i+1:Nat):Int) (by omega) (by omega) (by omega) ?_
   exact⟨⟨i+1,rfl,by omega,hW1,zqx (by omega) hil hs e⟩,by omega⟩
  ·refine jh (by simp [e]) ?_
   refine⟨?_,hW1⟩
   congr 2
   refine (Bool.eq_false_iff.2 ?_).symm
   intro h2
   have h3:=(within_iff.1 h2).2
   apply e
   have h4:(p.take q.length)[i]?=q[i]?:=by rw [h3]
   rw [List.getElem?_take,if_pos hil,List.getElem?_eq_getElem (by omega),List.getElem?_eq_getElem hil] at h4
   exact Option.some.inj h4
 ·have:i=q.length:=by omega
  subst this
  rw [List.take_length] at hs
  exact⟨by rw [within_iff.2 ⟨by omega,hs⟩],hW⟩
theorem qev {w:World}(x y:List UInt8):qj P zef #[.string (strOf x),.string (strOf y)] w fun e w'=>e=.returned (.int .i64 (Lib.compareBytes x y))/\w'=w:=by
 have nan:∀ (w:World) (x:List UInt8),qj P zfj #[.string (strOf x)] w fun e w'=>e=.returned (.bool false)/\w'=w:=by
  intro w x
  refine zqg ?_
  unfold zky
  exact⟨by simp,rfl⟩
 refine znx ?_
 unfold zjg
 refine zdf false (nan w x) ?_
 refine zdf false (nan w y) ?_
 refine qp rfl ?_
 refine qp rfl ?_
 rw [bytesLess_eq,zbi,zbi]
 have hr:=zlo (a:=x) (b:=y)
 refine zy (fun h=>?_) (fun h=>?_)
 ·have:=zhu.2 h
  exact⟨by congr 2;omega,rfl⟩
 ·have h1:¬Lib.compareBytes x y < 0:=fun h2=>h (zhu.1 h2)
  by_cases e:x=y
  ·refine qp (by simp [e]) ?_
   have:=zi3.2 e
   exact⟨by rw [this],rfl⟩
  ·refine jh (by simp [e];exact fun h2=>absurd h2 h) ?_
   have h2:Lib.compareBytes x y≠0:=fun h2=>e (zi3.1 h2)
   exact⟨by congr 2;omega,rfl⟩
theorem u8:P.underlying zac=some (.int .u8):=by kernel_rfl
theorem uS8:P.underlying xk=some (.slice zac):=by kernel_rfl
theorem sz8:(P.info? zac).map (·.size)=some 1:=by kernel_rfl
theorem zzf:P.underlying qx=some .string:=by kernel_rfl
theorem E8:Elem P zac 1 1:=zii (z:=.int .u8 0) (by kernel_rfl) rfl
theorem uB:P.underlying zeu=some (.pointer ku):=by kernel_rfl
theorem uUP:P.underlying zi4=some .unsafePointer:=by kernel_rfl
theorem iB:(P.info? ku).map (·.size)=some 2:=by kernel_rfl
theorem zcB:zc P ku=#[.pointer none,.slice none 0 0]:=by kernel_rfl
theorem up8:P.underlying zsc=some (.pointer zac):=by kernel_rfl
theorem qm2:liesAt P P.depth ku (2 / P.cellsOf ku) 0 ku 1=true:=by kernel_rfl
theorem c8:P.cellsOf zac=1:=by kernel_rfl
theorem qfz {t:TypeId}{n:Nat}(h:(P.info? t).map (·.size)=some n):∃ j,P.info? t=some j/\j.size=n:=by
 obtain⟨j,h1,h2⟩:=Option.map_eq_some_iff.1 h
 exact⟨j,h1,h2⟩
theorem qae {w:World}{H:Heap}{b:Nat}{c:Array Value}{T:TypeId}{fr:Nat×Nat}(hw:w.heap=H) (hb:H[b]?=some (.cells c T fr)):w.shape? b=some (T,c.size):=by
 subst hw;simp [World.shape?,hb]
def Bd (H:Heap) (lo b:Nat) (L:List UInt8):Prop:=∃ x p,H[b]?=some (.cells #[.pointer p,zdr x] ku (0,0))/\(p=none\/p=some ⟨b,0,none⟩)/\b < lo/\Mine H lo zac 1 x (byteCells L)
theorem zw7 {w:World}{H:Heap}{b:Nat}{x:Option Addr×Nat×Nat}{p:Option Addr}(hw:w.heap=H) (hb:H[b]?=some (.cells #[.pointer p,zdr x] ku (0,0))) (hp:p=none\/p=some ⟨b,0,none⟩) :
  qj P zcd #[.pointer (some ⟨b,0,none⟩)] w fun e w'=>e=.returned (.tuple #[])/\w'.heap[b]?=some (.cells #[.pointer (some ⟨b,0,none⟩),zdr x] ku (0,0))/\Ext [b] H w'.heap:=by
 refine zjs ?_
 unfold zfu
 obtain⟨j,hj,hjs⟩:=qfz iB
 simp only [jc]
 refine jg (s:=.ptr) (t:=p) hw hb rfl ?_
 rcases hp with rfl | rfl
 ·refine jh rfl ?_
  have hsh:=qae hw hb
  refine zaf (s:=.any) _ w (Lib.run_to_unsafe w ⟨b,0,none⟩ uB uUP hj (by omega) hsh (by simp)) ?_
  refine zj9 (l:=[.any]) (.pointer (some ⟨b,0,none⟩)) (by rw [zmg (e:=Extern.AbiNoEscape.same) (by kernel_rfl)];rfl) ?_
  refine zaf (s:=.ptr) (some ⟨b,0,none⟩) w (Lib.run_from_unsafe w ⟨b,0,none⟩ uUP uB hj hsh qm2) ?_
  refine zb8 hw hb (by simp) fun w1 hw1=>?_
  exact⟨by trivial,by rw [hw1];exact qy hb,by rw [hw1];exact Ext.set _ (by simp)⟩
 ·refine qp rfl ?_
  refine jg (s:=.ptr) (t:=some ⟨b,0,none⟩) hw hb rfl ?_
  refine qc (s:=.bool) false ?_ ?_
  ·have h:=Lib.run_neq_ptr_same (P:=P) w ⟨b,0,none⟩ uB hj
   simp [eqM,eqGuard,h]
   rfl
  ·refine qp rfl ?_
   exact⟨by trivial,by rw [hw];exact hb,by rw [hw];exact .refl _ _⟩
theorem qjk {w:World}{H:Heap}{b:Nat}{n:Nat}(hw:w.heap=H) (hb:H[b]?=some (.cells #[.pointer none,.slice none 0 0] ku (0,0))) (hn0:0 < n) (hn:n<=140737488351232) :
  qj P zfe #[.pointer (some ⟨b,0,none⟩),.int .i64 (n:Int)] w fun e w'=>e=.returned (.tuple #[])/\Bd w'.heap H.size b []/\Ext [b] H w'.heap:=by
 refine zmj ?_
 unfold zh6
 refine zh (l:=[]) (zw7 (x:=(none,0,0)) hw hb (.inl rfl)) ?_
 rintro e w1 ⟨rfl,hb1,hx1⟩
 refine⟨(),rfl,?_⟩
 refine jf ?_
 refine zy (fun h=>absurd h (by omega)) (fun _=>?_)
 refine vw rfl fun w2 hw2=>?_
 have hb2:w2.heap[b]?=some (.cells #[.pointer (some ⟨b,0,none⟩),.slice none 0 0] ku (0,0)):=by rw [hw2];exact hb1
 have hx2:Ext [b] H w2.heap:=by rw [hw2];exact hx1
 simp only [jc,zan,Nat.zero_add]
 refine jg (s:=.slc) (t:=(none,0,0)) rfl hb2 rfl ?_
 refine qc (s:=.int .i64) 0 (by kernel_rfl) ?_
 refine jg (s:=.slc) (t:=(none,0,0)) rfl hb2 rfl ?_
 refine zdb 0 rfl (by omega) (by omega) ?_
 refine zy (fun _=>?_) (fun h=>absurd h (by omega))
 have hgrow:qj P zfd #[.pointer (some ⟨b,0,none⟩),.int .i64 (n:Int)] w2 fun e w'=>e=.returned (.tuple #[])/\Bd w'.heap H.size b []/\Ext [b] H w'.heap:=by
  refine zmm ?_
  unfold zh5
  refine vw rfl fun w3 hw3=>?_
  have hb3:w3.heap[b]?=some (.cells #[.pointer (some ⟨b,0,none⟩),.slice none 0 0] ku (0,0)):=by rw [hw3];exact hb2
  have hx3:Ext [b] H w3.heap:=by rw [hw3];exact hx2
  simp only [jc,zan,Nat.zero_add]
  refine jg (s:=.slc) (t:=(none,0,0)) rfl hb3 rfl ?_
  refine qc (s:=.int .i64) 0 (by kernel_rfl) ?_
  refine zie 0 rfl (by omega) (by omega) ?_
  refine jr (n:Int) (by omega) (by omega) (by omega) ?_
  refine jg (s:=.slc) (t:=(none,0,0)) rfl hb3 rfl ?_
  obtain⟨cs,hrun,hcs,hcs2⟩:=Lib.run_makeNoZero (P:=P) (w:=w3) #[zav] xk zac uS8 n (by omega)
  refine zl1 (l:=[.slc]) (some ⟨w3.heap.size,0,none⟩,n,cs.size) (w3.drew.drew.alloc (.cells cs zac)) (by rw [zi2 (e:=Extern.BytealgMakeNoZero.makeNoZero #[zav] #[xk]) (by kernel_rfl),hrun];rfl) ⟨rfl,rfl,rfl,by show w3.drawn<=w3.drawn+1+1;omega⟩ ?_
  have hh4:(w3.drew.drew.alloc (.cells cs zac)).heap=w3.heap.push (.cells cs zac):=rfl
  generalize w3.drew.drew.alloc (.cells cs zac)=w4 at *
  have hx34:Ext [] w3.heap w4.heap:=by rw [hh4];exact .push _
  have hb4:=hx34.get hb3 (by simp)
  refine⟨jg (s:=.slc) (t:=(none,0,0)) rfl hb4 rfl rfl,?_⟩
  have hne:cs.size≠0:=by omega
  refine qc (s:=.slc) (some ⟨w3.heap.size,0,none⟩,0,cs.size) ((zbd (l:=0) (h:=0) uS8 sz8 .no (.yes rfl) (Nat.le_refl _) (Nat.zero_le _)).trans (by rw [if_neg hne];simp [zan,Sh.val])) ?_
  refine jg (s:=.slc) (t:=(none,0,0)) rfl hb4 rfl ?_
  have hg4:w4.heap[w3.heap.size]?=some (.cells cs zac (0,0)):=by rw [hh4];exact zk
  obtain⟨w5,h5,hc5,hh5⟩:=qcd (P:=P) (w:=w4) (ty:=zav) (xt:=xk) (sa:=none) (sl:=0) (sc:=0) (dl:=0) (dc:=cs.size) (od:=0) (vs:=[]) uS8 sz8 rfl (.inl rfl) (by simp) (by intro v hv;cases hv) hg4 (by simp)
  refine zaf (s:=.int .i64) ((min 0 0:Nat):Int) w5 h5 ?_ hc5
  have hh5':w5.heap=w4.heap:=by
   rw [hh5]
   apply Array.ext_getElem?
   intro i
   rw [Array.getElem?_setIfInBounds]
   by_cases e:w3.heap.size=i
   ·subst e;rw [if_pos rfl,hg4];simp [lt_of_get hg4,setCells]
   ·rw [if_neg e]
  refine zb8 hh5' hb4 (by simp) fun w6 hw6=>?_
  have hx46:Ext [b] w4.heap w6.heap:=by rw [hw6];exact Ext.set _ (by simp)
  have hbl:=lt_of_get hb
  have h3:=hx3.1
  refine⟨by trivial,⟨(some ⟨w3.heap.size,0,none⟩,0,cs.size),some ⟨b,0,none⟩,by rw [hw6];exact qy hb4,.inr rfl,hbl,.inr ⟨w3.heap.size,cs,rfl,by omega,hx46.get hg4 (by simp only [List.mem_singleton];omega),by simp,rfl,Nat.zero_le _,by simp [byteCells]⟩⟩,(hx3.trans (hx34.mono (by simp))).trans hx46⟩
 refine zh (l:=[]) hgrow ?_
 rintro e w7 ⟨rfl,h⟩
 exact⟨(),rfl,by trivial,h⟩
theorem zju {w:World}{H:Heap}{lo b:Nat}{L M:List UInt8}(hw:w.heap=H) (hB:Bd H lo b L) (hlo:lo<=H.size) (hlen:L.length+M.length<=140737488351232) :
  qj P zaw #[.pointer (some ⟨b,0,none⟩),.string (strOf M)] w fun e w'=>e=.returned (.tuple #[.int .i64 (M.length:Int),.nilIface])/\Bd w'.heap lo b (L++M)/\∃ F,Ext F H w'.heap/\∀ c∈F,c=b\/lo<=c:=by
 obtain⟨x,p,hb,hp,hbl,hm⟩:=hB
 refine ziw ?_
 unfold ze8
 refine zh (l:=[]) (zw7 hw hb hp) ?_
 rintro e w1 ⟨rfl,hb1,hx1⟩
 refine⟨(),rfl,?_⟩
 have hm1:Mine w1.heap lo zac 1 x (byteCells L):=hm.ext hx1 (fun c hc=>by have:=jo hm c hc;simp only [List.mem_singleton];omega)
 have hxl:x.2.1=L.length:=by have:=hm.len;simp at this;omega
 simp only [jc,zan,Nat.zero_add]
 refine jg (s:=.slc) (t:=x) rfl hb1 rfl ?_
 refine zbx E8 (by omega) uS8 ⟨_,zzf,by intro k h;cases h⟩ rfl hm1 (by have:=hx1.1;omega) (n:=M.length) (us:=byteCells M) Src.str zay (by omega) ?_
 intro x' w2 hm2 hl2 hx2 hs2
 have hb2:=hx2.get hb1 (fun h=>by have:=jo hm1 _ h;omega)
 refine zb8 rfl hb2 (by simp) fun w3 hw3=>?_
 have hx3:Ext [b] w2.heap w3.heap:=by rw [hw3];exact Ext.set _ (by simp)
 refine⟨rfl,⟨x',some ⟨b,0,none⟩,by rw [hw3];exact qy hb2,.inr rfl,hbl,?_⟩,[b]++jw x,((hx1.mono (by simp)).trans (hx2.mono fun c hc=>List.mem_append_right _ hc)).trans (hx3.mono (by simp)),fun c hc=>?_⟩
 ·rw [<-byteCells_append]
  exact hm2.ext hx3 (fun c hc=>by have:=jo hm2 c hc;simp only [List.mem_singleton];omega)
 ·rcases List.mem_append.1 hc with hc | hc
  ·simp only [List.mem_singleton] at hc;exact .inl hc
  ·exact .inr (jo hm1 c hc)
theorem z7w {w:World}{a:Addr}{n:Nat}:Ext [a.block] w.heap (w.freeze a n).heap:=by
 unfold World.freeze
 split
 ·exact .refl _ _
 ·refine⟨by simp,fun b _ hn=>?_⟩
  simp only
  rw [Array.getElem?_modify,if_neg (fun e=>hn (by simp [e]))]
theorem string_c {w:World}{H:Heap}{lo b:Nat}{L:List UInt8}(hw:w.heap=H) (hB:Bd H lo b L) (hL:L≠[]) (hlen:L.length<=140737488351232) :
  qj P zb0 #[.pointer (some ⟨b,0,none⟩)] w fun e w'=>e=.returned (.string (strOf L))/\∃ F,Ext F H w'.heap/\∀ c∈F,lo<=c:=by
 obtain⟨x,p,hb,hp,hbl,hm⟩:=hB
 refine zge ?_
 unfold zeh
 refine vw hw fun w1 hw1=>?_
 simp only [jc,zan,Nat.zero_add]
 refine jg (s:=.slc) (t:=x) hw1 hb rfl ?_
 refine jg (s:=.slc) (t:=x) hw1 hb rfl ?_
 have hxl:x.2.1=L.length:=by have:=hm.len;simp at this;omega
 have hpos:0 < L.length:=by cases L with | nil=>exact absurd rfl hL | cons a l=>simp
 have hcs:=hm.cells
 rcases hm with⟨rfl,h⟩ | ⟨g,c,hxa,hge,hg,hcz,hvl,hle,he⟩
 ·simp at hxl;omega
 obtain⟨xa,xl,xc⟩:=x
 simp only at hxl hxa hle hcz
 subst hxa hxl
 have hxc:xc≠0:=by omega
 refine zaf (s:=.ptr) (some ⟨g,0,none⟩) w1 (Lib.run_unsafeSliceData_row w1 _ _ _ _ _ hxc) ?_
 refine⟨jg (s:=.slc) (t:=(some ⟨g,0,none⟩,L.length,xc)) hw1 hb rfl rfl,?_⟩
 refine zaf (s:=.str) (strOf L) (w1.freeze ⟨g,0,none⟩ L.length) (Lib.run_unsafeString_row w1 zsc zav qx zac up8 c8 g c.size (qae hw1 hg) L hL (by omega) (by omega) fun j y hj=>?_) ?_ ?_
 ·have:=z7o (a:=⟨g,0,none⟩) hw1 hcs (i:=j) (v:=.int .u8 (y.toNat:Int)) (by simp [byteCells,hj])
  exact this
 ·refine⟨rfl,[g],by rw [<-hw1];exact z7w,fun c hc=>by simp only [List.mem_singleton] at hc;omega⟩
 ·unfold World.freeze;split <;> exact⟨rfl,rfl,rfl,Nat.le_refl _⟩
def joinP:Path->List UInt8
 | []=>[]
 | x :: xs=>x++xs.flatMap fun L=>47 :: L
def x9 (p:Path):List UInt8:=47 :: joinP p
def tlen (p:Path):Nat:=(p.map (·.length)).sum
theorem zvq:∀ {p:Path},(p.flatMap fun L=>(47:UInt8) :: L).length=tlen p+p.length
 | []=>rfl
 | x :: p=>by
  have:=zvq (p:=p)
  simp only [List.flatMap_cons,List.length_append,List.length_cons,tlen,List.map_cons,List.sum_cons] at this |-
  omega
theorem zwq {x:List UInt8}{p:Path}:(joinP (x :: p)).length=tlen (x :: p)+p.length:=by
 simp only [joinP,List.length_append,zvq,tlen,List.map_cons,List.sum_cons]
 omega
theorem qb3 {x:List UInt8}{p:Path}:x9 (x :: p)=(x :: p).flatMap fun L=>47 :: L:=by simp [x9,joinP]
theorem z18 {p:Path}{i:Nat}(h:i < p.length):tlen (p.take (i+1))=tlen (p.take i)+(p[i]).length:=by
 unfold tlen
 rw [List.take_add_one,List.getElem?_eq_getElem h,List.map_append,List.sum_append]
 simp
theorem zts {p:Path}{i:Nat}:tlen (p.take i)<=tlen p:=by
 conv=>rhs;rw [<-List.take_append_drop i p]
 unfold tlen
 rw [List.map_append,List.sum_append]
 omega
set_option maxHeartbeats 4000000 in
theorem qie {w:World}{H:Heap}{a:Option Addr}{n nc:Nat}{p:Path}(hw:w.heap=H) (hL:Cells H a (strRow p)) (hn:n=p.length) (hnc:n<=nc) (hlen:tlen p+p.length<=1099511627776) :
  qj P zk4 #[.slice a n nc,.string (ByteArray.mk #[47])] w fun e w'=>e=.returned (.string (strOf (joinP p)))/\Ext [] H w'.heap:=by
 refine zwm ?_
 unfold zpd
 have hsep:(ByteArray.mk #[47]:ByteArray)=strOf [47]:=rfl
 have hsz:((ByteArray.mk #[47]:ByteArray).size:Int)=1:=rfl
 match p,hL,hn,hlen with
 | [],hL,hn,hlen=>
  subst hn
  exact jh rfl ⟨rfl,by rw [hw];exact .refl _ _⟩
 | [x],hL,hn,hlen=>
  subst hn
  refine qp rfl ?_
  refine jh rfl ?_
  refine zsv (i:=0) hw hL rfl (by simp) rfl ?_
  exact⟨by simp [joinP],by rw [hw];exact .refl _ _⟩
 | x :: y :: p,hL,hn,hlen=>
  generalize hq:x :: y :: p=q at *
  have hql:q.length=p.length+2:=by rw [<-hq];simp
  have hjl:(joinP q).length=tlen q+(q.length-1):=by rw [<-hq,zwq];simp
  refine qp (by simp;omega) ?_
  refine qp (by simp;omega) ?_
  refine joinP_of (fun (s:Int) W=>s=((q.length-1:Nat):Int)/\W=w) ?_ ?_
  ·refine jh rfl ?_
   refine jf ?_
   refine zdb ((q.length-1:Nat):Int) (by omega) (by omega) (by omega) ?_
   refine qb6 9223372036854775807 (q.length-1) rfl rfl (by omega) (by omega) ?_
   have hdiv:2<=9223372036854775807 / (q.length-1):=by
    rw [Nat.le_div_iff_mul_le (by omega)];omega
   refine zy (fun h=>absurd h (by rw [hsz];omega)) (fun _=>?_)
   refine zdb ((q.length-1:Nat):Int) (by omega) (by omega) (by omega) ?_
   refine zie ((q.length-1:Nat):Int) (by rw [hsz];omega) (by omega) (by omega) ?_
   refine jr ((q.length-1:Nat):Int) (by omega) (by omega) (by omega) ?_
   exact⟨rfl,rfl⟩
  rintro _ w ⟨rfl,rfl⟩
  refine zae (fun (s:Int×Int) W=>∃ i:Nat,s=(((q.length-1+tlen (q.take i):Nat):Int),(i:Int))/\i<=q.length/\W=w) (fun s _=>(q.length-s.2).toNat) ⟨0,by simp [tlen],Nat.zero_le _,rfl⟩ ?_
  rintro _ w ⟨i,rfl,hi,rfl⟩
  refine zy (fun hlt=>?_) (fun hge=>?_)
  ·have hil:i < q.length:=by simp only at hlt;omega
   have ht1:=z18 hil
   have ht2:=zts (p:=q) (i:=i+1)
   refine jf ?_
   refine zsv hw hL hn hil rfl ?_
   refine jf ?_
   refine zdb (9223372036854775807-((q.length-1+tlen (q.take i):Nat):Int)) rfl (by omega) (by omega) ?_
   refine zy (fun h=>absurd h (by simp only [jy];omega)) (fun _=>?_)
   refine jr ((q.length-1+tlen (q.take (i+1)):Nat):Int) (by simp only [jy];omega) (by omega) (by omega) ?_
   refine jr ((i+1:Nat):Int) (by omega) (by omega) (by omega) ?_
   exact⟨⟨i+1,rfl,by omega,rfl⟩,by simp only;omega⟩
  have hie:i=q.length:=by simp only at hge;omega
  subst hie
  rw [List.take_length]
  refine ji hw fun w1 hw1=>?_
  rw [zcB] at hw1
  have hb1:w1.heap[H.size]?=some (.cells #[.pointer none,.slice none 0 0] ku (0,0)):=by rw [hw1];exact zk
  have hx1:Ext [] H w1.heap:=by rw [hw1];exact .push _
  refine zh (l:=[]) (qjk rfl hb1 (by omega) (by omega)) ?_
  rintro e w2 ⟨rfl,hB2,hx2⟩
  refine⟨(),rfl,?_⟩
  have hlo:H.size < w1.heap.size:=lt_of_get hb1
  have hs2:=hx2.1
  have hx02:Ext [] H w2.heap:=hx1.own hx2 (by intro b hb hlt;simp at hb;omega)
  have h0q:0 < q.length:=by omega
  refine zsv (i:=0) rfl (hL.ext hx02 (by simp)) hn h0q rfl ?_
  have hq0:q[0]=x:=by simp only [<-hq,List.getElem_cons_zero]
  have hqd:q.drop 1=y :: p:=by rw [<-hq];rfl
  have htx:x.length<=tlen q:=by rw [<-hq];simp [tlen]
  rw [hq0]
  refine zh (zju rfl hB2 hs2 (by simp;omega)) ?_
  rintro e w3 ⟨rfl,hB3,F3,hx3,hF3⟩
  refine⟨((x.length:Int),.nilIface),rfl,?_⟩
  have hx03:Ext [] H w3.heap:=hx02.own hx3 (by intro b hb hlt;rcases hF3 b hb with h | h <;> omega)
  have hs3:=hx3.1
  have hdr:=(hL.ext hx03 (by simp)).drop 1 nc (by simp;omega)
  rw [zvx] at hdr
  refine qc (s:=.slc) (if nc=1 then a else a.map (·.add (1 * 1)),n-1,nc-1) (zbd (l:=1) (h:=n) zj6 zs9 (.yes rfl) .no (by omega) (by omega)) ?_
  rw [List.nil_append] at hB3
  have hdl:(q.drop 1).length=n-1:=by simp;omega
  refine zae (fun (s:Int) W=>∃ i:Nat,s=(i:Int)/\i<=n-1/\Ext [] H W.heap/\w1.heap.size<=W.heap.size/\Bd W.heap w1.heap.size H.size (x++((q.drop 1).take i).flatMap fun L=>47 :: L)) (fun s _=>((n-1:Nat)-s).toNat) ⟨0,rfl,Nat.zero_le _,hx03,by omega,by simpa using hB3⟩ ?_
  rintro _ W ⟨i,rfl,hi,hxW,hsW,hBW⟩
  have hjl2:(joinP q).length=x.length+((q.drop 1).flatMap fun L=>(47:UInt8) :: L).length:=by rw [<-hq];simp [joinP]
  refine zy (fun hlt=>?_) (fun hge=>?_)
  ·have hil:i < (q.drop 1).length:=by simp only at hlt;omega
   have htk:((q.drop 1).take (i+1)).flatMap (fun L=>(47:UInt8) :: L)=((q.drop 1).take i).flatMap (fun L=>47 :: L)++(47 :: (q.drop 1)[i]):=by
    rw [List.take_add_one,List.getElem?_eq_getElem hil,List.flatMap_append];simp
   have htl:(((q.drop 1).take (i+1)).flatMap fun L=>(47:UInt8) :: L).length<=((q.drop 1).flatMap fun L=>(47:UInt8) :: L).length:=by
    conv=>rhs;rw [<-List.take_append_drop (i+1) (q.drop 1),List.flatMap_append,List.length_append]
    omega
   rw [htk] at htl
   simp only [List.length_append,List.length_cons] at htl
   have hdrW:Cells W.heap (if nc=1 then a else a.map (·.add (1 * 1))) (strRow (q.drop 1)):=by
    have:=(hL.ext hxW (by simp)).drop 1 nc (by simp;omega)
    rwa [zvx] at this
   refine zsv rfl hdrW hdl.symm hil rfl ?_
   rw [hsep]
   refine zh (zju rfl hBW hsW (by simp only [List.length_append,List.length_cons,List.length_nil];omega)) ?_
   rintro e w4 ⟨rfl,hB4,F4,hx4,hF4⟩
   refine⟨(1,.nilIface),rfl,?_⟩
   have hx04:Ext [] H w4.heap:=hxW.own hx4 (by intro b hb hlt;rcases hF4 b hb with h | h <;> omega)
   refine zh (zju rfl hB4 (Nat.le_trans hsW hx4.1) (by simp only [List.length_append,List.length_cons,List.length_nil];omega)) ?_
   rintro e w5 ⟨rfl,hB5,F5,hx5,hF5⟩
   refine⟨(((q.drop 1)[i].length:Int),.nilIface),rfl,?_⟩
   refine jr ((i+1:Nat):Int) (by omega) (by omega) (by omega) ?_
   refine⟨⟨i+1,rfl,by omega,hx04.own hx5 (by intro b hb hlt;rcases hF5 b hb with h | h <;> omega),Nat.le_trans hsW (Nat.le_trans hx4.1 hx5.1),?_⟩,by omega⟩
   rw [htk]
   simpa using hB5
  ·have hie:i=(q.drop 1).length:=by simp only at hge;omega
   subst hie
   rw [List.take_length] at hBW
   have hjj:x++(q.drop 1).flatMap (fun L=>(47:UInt8) :: L)=joinP q:=by rw [<-hq];rfl
   rw [hjj] at hBW
   refine zh (string_c rfl hBW (by intro h;rw [h] at hjl;simp at hjl;omega) (by omega)) ?_
   rintro e w6 ⟨rfl,F6,hx6,hF6⟩
   refine⟨strOf (joinP q),rfl,?_⟩
   exact⟨rfl,hxW.own hx6 (by intro b hb hlt;have:=hF6 b hb;omega)⟩
theorem zgg {w:World}{H:Heap}{a:Option Addr}{n nc:Nat}{p:Path}(hw:w.heap=H) (hL:Cells H a (strRow p)) (hn:n=p.length) (hnc:n<=nc) (hlen:tlen p+p.length<=1099511627776) :
  qj P vk #[.slice a n nc] w fun e w'=>e=.returned (.string (strOf (x9 p)))/\Ext [] H w'.heap:=by
 refine zzh ?_
 unfold zt6
 refine zh (qie hw hL hn hnc hlen) ?_
 rintro e w1 ⟨rfl,hx⟩
 refine⟨strOf (joinP p),rfl,?_⟩
 have hjl:(joinP p).length<=tlen p+p.length:=by
  cases p with
  | nil=>simp [joinP]
  | cons x p=>rw [zwq];simp
 exact zyk (A:=[47]) (by simp;omega) ⟨rfl,hx⟩
theorem qf6 {w:World}{H:Heap}{a:Option Addr}{n nc:Nat}{p:Path}(hw:w.heap=H) (hL:Cells H a (strRow p)) (hn:n=p.length) (hlen:tlen p+p.length<=1099511627776) :
  qj P zor #[.slice a n nc] w fun e w'=>e=.returned (.string (strOf (x9 p)))/\w'=w:=by
 refine z4u ?_
 unfold zys
 cases p with
 | nil=>
  subst hn
  exact jh rfl ⟨rfl,rfl⟩
 | cons x p=>
  rw [qb3]
  generalize hq:x :: p=q at *
  have hql:q.length=p.length+1:=by rw [<-hq];simp
  refine qp (by simp;omega) ?_
  refine zae (fun (s:ByteArray×Int) W=>∃ i:Nat,s=(strOf ((q.take i).flatMap fun L=>47 :: L),(i:Int))/\i<=q.length/\W=w) (fun s _=>(q.length-s.2).toNat) ⟨0,rfl,Nat.zero_le _,rfl⟩ ?_
  rintro _ w ⟨i,rfl,hi,rfl⟩
  refine zy (fun hlt=>?_) (fun hge=>?_)
  ·have hil:i < q.length:=by simp only at hlt;omega
   have ht1:=z18 hil
   have ht2:=zts (p:=q) (i:=i+1)
   have hfl:((q.take i).flatMap fun L=>(47:UInt8) :: L).length=tlen (q.take i)+i:=by rw [zvq];simp;omega
   refine zyk (B:=[47]) (by rw [hfl];simp;omega) ?_
   refine zsv hw hL hn hil rfl ?_
   refine zyk (by rw [List.length_append,hfl];simp;omega) ?_
   refine jr ((i+1:Nat):Int) (by omega) (by omega) (by omega) ?_
   refine⟨⟨i+1,?_,by omega,rfl⟩,by simp only;omega⟩
   rw [List.take_add_one,List.getElem?_eq_getElem hil,List.flatMap_append];simp
  ·have hie:i=q.length:=by simp only at hge;omega
   subst hie
   rw [List.take_length]
   exact⟨rfl,rfl⟩
end Go.Proofs.YthaaekcaaecdeaaGreatDoor
namespace Go.Fw
open Go
def qlz (P:Program){α:Type}(gv:Value) (S:List α->Prop) (nx:List α->α->Prop) (enc:α->Array Value) (fp A:List Nat) (w:World):Prop:=
 ∃ gf lb,gv=.func (.func gf) #[] lb/\∀ (l:Nat) (I:List α->World->Prop) (J:World->Prop) (w1:World) (M:List Nat),
  Ext [] w.heap w1.heap->(∀ b∈M,b < w1.heap.size/\b∉fp)->(∀ pre W W',I pre W->Beside w1.heap.size W W'->I pre W')->(∀ pre W W',I pre W->Ext A W.heap W'.heap->I pre W')->I [] w1 ->
  (∀ pre x W,nx pre x->I pre W->ztj P l (enc x) W fun e W'=>Keep M w1.heap.size W.heap W'.heap/\((e=.returned (.bool true)/\I (pre++[x]) W')\/(e=.returned (.bool false)/\J W'))) ->
  qj P gf (#[.func (.yield l) #[] #[]]++lb) w1 fun e W=>(∃ v,e=.returned v)/\((∃ xs,S xs/\I xs W)\/J W)
theorem qcf {P:Program}{α:Type}{gv:Value}{S:List α->Prop}{nx:List α->α->Prop}{shs:List Sh}{tv:α->Tup shs}{fp:List Nat}{w:World}
  {body:Tup shs->World->(World->(World->Prop)->Prop)->(World->Prop)->(World->Prop)->(Nat->World->Prop)->Prop}{done ret:Nat->World->Prop}{ext:Nat->Nat->World->Prop}
  {A:List Nat}(hseq:qlz P gv S nx (fun x=>(Tup.vals shs (tv x)).toArray) fp A w) (hA:∀ b∈A,b∈fp) (M:List Nat) (hM:∀ b∈M,b < w.heap.size/\b∉fp) (hfp:∀ b∈fp,b < w.heap.size)
  (I:List α->World->Prop) (Jr:World->Prop) (Jx:Nat->World->Prop)
  (hI:∀ pre W W',I pre W->Beside w.heap.size W W'->I pre W') (hJr:∀ W W',Jr W->Beside w.heap.size W W'->Jr W') (hJx:∀ i W W',Jx i W->Beside w.heap.size W W'->Jx i W')
  (hIA:∀ pre W W',I pre W->Ext A W.heap W'.heap->I pre W') (h0:I [] w)
  (hbody:∀ pre x W,nx pre x->I pre W->w.heap.size+2<=W.heap.size->∀ (beg:World->(World->Prop)->Prop) (kc kr:World->Prop) (kx:Nat->World->Prop),
   (∀ W1 (K:World->Prop),Ext [] W.heap W1.heap->(∀ W2,Beside w.heap.size W1 W2->W2.heap.size=W1.heap.size ->
    (∀ W3,Keep M w.heap.size W2.heap W3.heap->I (pre++[x]) W3->kc W3)->(∀ W3,Keep M w.heap.size W2.heap W3.heap->Jr W3->kr W3)->(∀ i W3,Keep M w.heap.size W2.heap W3.heap->Jx i W3->kx i W3)->K W2)->beg W1 K) ->
   body (tv x) W beg kc kr kx)
  (hdone:∀ xs W,S xs->I xs W->W.heap[w.heap.size]?=some (.deferred (some []))->done w.heap.size W)
  (hret:∀ W,Jr W->W.heap[w.heap.size]?=some (.deferred (some []))->ret w.heap.size W)
  (hext:∀ i W,Jx i W->W.heap[w.heap.size]?=some (.deferred (some []))->ext i w.heap.size W) :
  z04 P shs gv w body done ret ext:=by
 obtain⟨gf,lb,hg,hseq⟩:=hseq
 refine⟨gf,lb,hg,fun oD oL oB oX oE hD hno w1 hw1 hY=>?_⟩
 obtain⟨hnL,hnB,hnX,hnE⟩:=hno
 have hx1:Ext [] w.heap w1.heap:=by rw [hw1];exact (Ext.push _).trans (Ext.push _)
 have hs1:w1.heap.size=w.heap.size+2:=by rw [hw1];simp
 have hD1:w1.heap[w.heap.size]?=some oD:=by rw [hw1];exact za1 zk
 have hL1:w1.heap[w.heap.size+1]?=some oL:=by
  rw [hw1]
  have:=zk (H:=w.heap.push oD) (o:=oL)
  simpa using this
 have hDc:zj2 oD:=by rw [hD];intro c T fr h;cases h
 have key:∀ {W W':World}{r:Nat}{o:Obj},(∀ o,W.heap[r]?=some o->zj2 o)->w1.heap.size<=r->Ext [r] W.heap W'.heap->∀ b,b < w.heap.size+2->W.heap[b]?=some o->W'.heap[b]?=some o:=
  fun _ hr hx b hb hbo=>hx.get hbo (by simp;omega)
 refine (hseq (w.heap.size+1)
  (fun pre W=>I pre W/\W.heap[w.heap.size]?=some oD/\W.heap[w.heap.size+1]?=some oL)
  (fun W=>W.heap[w.heap.size]?=some oD/\((Jr W/\W.heap[w.heap.size+1]?=some (oX .ret))\/∃ i,Jx i W/\W.heap[w.heap.size+1]?=some (oX (.exit i))))
  w1 ((w.heap.size+1) :: M) hx1 ?_ ?_ ?_ ⟨hI _ _ _ h0 (.new (Nat.le_refl _) hx1),hD1,hL1⟩ ?_).mono ?_
 ·intro b hb
  rcases List.mem_cons.1 hb with rfl | hb
  ·exact⟨by omega,fun h=>by have:=hfp _ h;omega⟩
  ·exact⟨by have:=(hM b hb).1;omega,(hM b hb).2⟩
 ·rintro pre W W' ⟨h1,h2,h3⟩ hA
  have hA':=hA
  obtain⟨r,hr,hn,hx⟩:=hA'
  exact⟨hI _ _ _ h1 (hA.mono (by omega)),key hn hr hx _ (by omega) h2,key hn hr hx _ (by omega) h3⟩
 ·rintro pre W W' ⟨h1,h2,h3⟩ hx
  exact⟨hIA _ _ _ h1 hx,hx.get h2 (fun h=>by have:=hfp _ (hA _ h);omega),hx.get h3 (fun h=>by have:=hfp _ (hA _ h);omega)⟩
 ·rintro pre x W hnx ⟨h1,h2,h3⟩
  have hlt:w.heap.size+1 < W.heap.size:=(Array.getElem?_eq_some_iff.1 h3).1
  refine hY (tv x) W _ h3 (hbody pre x W hnx h1 (by omega) _ _ _ _ ?_)
  intro W1 K hxW1 hK
  have h31:W1.heap[w.heap.size+1]?=some oL:=hxW1.get h3 (by simp)
  have h21:W1.heap[w.heap.size]?=some oD:=hxW1.get h2 (by simp)
  refine⟨h31,fun W2 hW2=>?_⟩
  have hlt1:w.heap.size+1 < W1.heap.size:=(Array.getElem?_eq_some_iff.1 h31).1
  have hh2:W2.heap=W1.heap.setIfInBounds (w.heap.size+1) oB:=by rw [hW2,zce]
  have h32:W2.heap[w.heap.size+1]?=some oB:=by rw [hh2];exact Array.getElem?_setIfInBounds_self_of_lt hlt1
  have h22:W2.heap[w.heap.size]?=some oD:=by rw [hh2,Array.getElem?_setIfInBounds_ne (by omega)];exact h21
  have fin:∀ (o':Obj) (W3:World),Keep M w.heap.size W2.heap W3.heap->W3.heap[w.heap.size+1]?=some oB/\Keep ((w.heap.size+1) :: M) w1.heap.size W.heap (W3.putObj (w.heap.size+1) o').heap/\(W3.putObj (w.heap.size+1) o').heap[w.heap.size]?=some oD /\
    (W3.putObj (w.heap.size+1) o').heap[w.heap.size+1]?=some o'/\Beside w.heap.size W3 (W3.putObj (w.heap.size+1) o'):=by
   intro o' W3 hx3
   have h33:W3.heap[w.heap.size+1]?=some oB:=hx3.2.2 _ _ (by omega) h32 hnB
   have h23:W3.heap[w.heap.size]?=some oD:=hx3.2.2 _ _ (Nat.le_refl _) h22 hDc
   have hlt3:w.heap.size+1 < W3.heap.size:=(Array.getElem?_eq_some_iff.1 h33).1
   have hn2:∀ b,b≠w.heap.size+1->W2.heap[b]?=W1.heap[b]?:=fun b hb=>by rw [hh2];exact Array.getElem?_setIfInBounds_ne (Ne.symm hb)
   have hn4:∀ b,b≠w.heap.size+1->(W3.putObj (w.heap.size+1) o').heap[b]?=W3.heap[b]?:=fun b hb=>by rw [zce];exact Array.getElem?_setIfInBounds_ne (Ne.symm hb)
   have hs2:W2.heap.size=W1.heap.size:=by rw [hh2];simp
   refine⟨h33,⟨?_,?_,?_⟩,?_,?_,.put (by omega) h33 hnB⟩
   ·rw [zce]
    have:=hxW1.1;have:=hx3.1
    simp;omega
   ·intro b hb hl hn
    simp only [List.mem_cons,not_or] at hn
    rw [hn4 b hn.1]
    by_cases hbD:b=w.heap.size
    ·rw [hbD,h23,h2]
    ·rw [hx3.2.1 b (by omega) (by have:=hxW1.1;omega) hn.2,hn2 b hn.1]
     exact hxW1.2 b hl (by simp)
   ·intro b o hb ho hno
    rw [hn4 b (by omega)]
    exact hx3.2.2 b o (by omega) (by rw [hn2 b (by omega)];exact hxW1.get ho (by simp)) hno
   ·rw [hn4 _ (by omega)];exact h23
   ·rw [zce];exact Array.getElem?_setIfInBounds_self_of_lt hlt3
  refine hK W2 (by rw [hW2];exact .put (by omega) h31 hnL) (by rw [hh2];simp) (fun W3 hx3 h=>?_) (fun W3 hx3 h=>?_) (fun i W3 hx3 h=>?_)
  ·obtain⟨a,b,c,d,e⟩:=fin oL W3 hx3
   exact⟨a,b,.inl ⟨rfl,hI _ _ _ h e,c,d⟩⟩
  ·obtain⟨a,b,c,d,e⟩:=fin (oX .ret) W3 hx3
   exact⟨a,b,.inr ⟨rfl,c,.inl ⟨hJr _ _ h e,d⟩⟩⟩
  ·obtain⟨a,b,c,d,e⟩:=fin (oX (.exit i)) W3 hx3
   exact⟨a,b,.inr ⟨rfl,c,.inr ⟨i,hJx _ _ _ h e,d⟩⟩⟩
 ·have put:∀ {W:World}{o o':Obj},W.heap[w.heap.size]?=some oD->(W.putObj (w.heap.size+1) o').heap[w.heap.size]?=some (.deferred (some [])):=by
   intro W o o' h
   rw [zce,Array.getElem?_setIfInBounds_ne (by omega),h,hD]
  rintro e W ⟨hv,⟨xs,hS,h1,h2,h3⟩ | ⟨h2,⟨h1,h3⟩ | ⟨i,h1,h3⟩⟩⟩
  ·exact⟨hv,.inl ⟨h3,hdone xs _ hS (hI _ _ _ h1 (.put (by omega) h3 hnL)) (put (o:=oD) h2)⟩⟩
  ·exact⟨hv,.inr (.inl ⟨h3,hret _ (hJr _ _ h1 (.put (by omega) h3 (hnX _))) (put (o:=oD) h2)⟩)⟩
  ·exact⟨hv,.inr (.inr ⟨i,h3,hext i _ (hJx _ _ _ h1 (.put (by omega) h3 (hnX _))) (put (o:=oD) h2)⟩)⟩
end Go.Fw
namespace Go.Proofs.YthaaekcaaecdeaaGreatDoor
open Go Go.Fw Go.Proofs
def pieces:List UInt8->List (List UInt8)
 | []=>[]
 | c :: L=>if c=47 then [] :: pieces L else match pieces L with | []=>[[c]] | p :: ps=>if L.head?=some 47 then [c] :: ps else (c :: p) :: ps
theorem zjw:∀ {p r:List UInt8},(47:UInt8)∉p->pieces (p++47 :: r)=p :: pieces r
 | [],r,_=>by simp [pieces]
 | c :: p,r,h=>by
  have hc:c≠47:=fun e=>h (by simp [e])
  have ih:=zjw (p:=p) (r:=r) (fun hm=>h (by simp [hm]))
  rw [List.cons_append,pieces,if_neg hc,ih]
  cases p with
  | nil=>simp
  | cons d p=>
   have hd:d≠47:=fun e=>h (by simp [e])
   simp [hd]
theorem zmd:∀ {p:List UInt8},(47:UInt8)∉p->p≠[]->pieces p=[p]
 | [],_,h=>absurd rfl h
 | [c],h,_=>by
  have hc:c≠47:=fun e=>h (by simp [e])
  simp [pieces,hc]
 | c :: d :: p,h,_=>by
  have hc:c≠47:=fun e=>h (by simp [e])
  have hd:d≠47:=fun e=>h (by simp [e])
  have ih:=zmd (p:=d :: p) (fun hm=>h (by simp [hm])) (by simp)
  rw [pieces,if_neg hc,ih]
  simp [hd]
theorem qci (L:List UInt8):(47:UInt8)∉L\/∃ p r,L=p++47 :: r/\(47:UInt8)∉p:=by
 induction L with
 | nil=>left;simp
 | cons c L ih=>
  by_cases hc:c=47
  ·right;exact⟨[],L,by simp [hc],by simp⟩
  ·rcases ih with h | ⟨p,r,h1,h2⟩
   ·left;simp [h,Ne.symm hc]
   ·right;exact⟨c :: p,r,by simp [h1],by simp [h2,Ne.symm hc]⟩
theorem qb4:∀ {L:List UInt8},(47:UInt8)∉L->Lib.indexByte L 47=-1
 | [],_=>rfl
 | c :: L,h=>by
  have hc:¬c=47:=fun e=>h (by simp [e])
  have ih:=qb4 (L:=L) (fun hm=>h (by simp [hm]))
  simp [Lib.indexByte,hc,ih]
theorem qb9:∀ {p r:List UInt8},(47:UInt8)∉p->Lib.indexByte (p++47 :: r) 47=(p.length:Int)
 | [],r,_=>by simp [Lib.indexByte]
 | c :: p,r,h=>by
  have hc:¬c=47:=fun e=>h (by simp [e])
  have ih:=qb9 (p:=p) (r:=r) (fun hm=>h (by simp [hm]))
  simp only [List.cons_append,Lib.indexByte,ih]
  have h1:(c==(47:UInt8))=false:=by simp [hc]
  have h2:((p.length:Int)==-1)=false:=by simp
  rw [h1,h2]
  simp
theorem cut_c {w:World}(L:List UInt8) (hlen:L.length<=1099511627776):qj P zm2 #[.string (strOf L),.string (ByteArray.mk #[47])] w fun e w'=>
  ∃ p r b,e=.returned (.tuple #[.string (strOf p),.string (strOf r),.bool b])/\w'.heap=w.heap/\(((47:UInt8)∉L/\p=L/\r=[])\/(L=p++47 :: r/\(47:UInt8)∉p)):=by
 have hsep:(ByteArray.mk #[47]:ByteArray)=strOf [47]:=rfl
 refine zxr ?_
 unfold zri
 have hix:qj P zdc #[.string (strOf L),.string (ByteArray.mk #[47])] w fun e w'=>e=.returned (.int .i64 (Lib.indexByte L 47))/\w'=w:=by
  refine zi7 ?_
  unfold zfk
  refine jf ?_
  refine jf ?_
  refine qp rfl ?_
  refine zbv (p:=L=[47]) (by rw [z2f,zbi,beq_iff_eq];exact eq_comm) (fun h=>⟨by rw [h];rfl,rfl⟩) (fun _=>?_)
  refine jh rfl ?_
  rw [hsep]
  refine znn (L:=[47]) 0 rfl (by simp) ?_
  have h2:qj P zbh #[.string (strOf L),.int .u8 47] w fun e w'=>e=.returned (.int .i64 (Lib.indexByte L 47))/\w'=w:=by
   refine zhv ?_
   unfold zea
   refine zj9 (l:=[.int .i64]) (Lib.indexByte L 47) ?_ ⟨rfl,rfl⟩
   rw [zg9 (e:=Extern.BytealgIndexByte.indexByte) (by kernel_rfl),Lib.run_indexByteString]
   rfl
  refine zh h2 ?_
  rintro e w' ⟨rfl,rfl⟩
  exact⟨_,rfl,rfl,rfl⟩
 have hcut:qj P zdu #[.string (strOf L),.string (ByteArray.mk #[47])] w fun e w'=>
  ∃ p r b,e=.returned (.tuple #[.string (strOf p),.string (strOf r),.bool b])/\w'.heap=w.heap/\(((47:UInt8)∉L/\p=L/\r=[])\/(L=p++47 :: r/\(47:UInt8)∉p)):=by
  refine zkj ?_
  unfold zf2
  refine zh hix ?_
  rintro e w' ⟨rfl,rfl⟩
  refine⟨_,rfl,?_⟩
  rcases qci L with h | ⟨p,r,rfl,h⟩
  ·rw [qb4 h]
   refine qp rfl ?_
   exact⟨L,[],false,rfl,rfl,.inl ⟨h,rfl,rfl⟩⟩
  ·rw [qb9 h]
   refine jh (by simp) ?_
   refine vw rfl fun w2 hw2=>?_
   simp only [List.length_append,List.length_cons] at hlen
   refine jr ((p.length+1:Nat):Int) (by rw [hsep,jy];simp) (by omega) (by omega) ?_
   refine qc (s:=.str) _ (znt (l:=0) (h:=p.length) zzf .no (.yes rfl) (Nat.zero_le _) (by simp)) ?_
   refine qc (s:=.str) _ (znt (l:=p.length+1) (h:=(p++47 :: r).length) zzf (.yes rfl) .no (by simp) (Nat.le_refl _)) ?_
   refine⟨p,r,true,?_,hw2,.inr ⟨rfl,h⟩⟩
   rw [List.take_left,List.drop_zero,List.take_length,show p++47 :: r=(p++[47])++r by simp,List.drop_left' (by simp)]
 refine zh hcut ?_
 rintro e w' ⟨p,r,b,rfl,h1,h2⟩
 refine⟨(strOf p,strOf r,b),rfl,?_⟩
 exact⟨p,r,b,rfl,h1,h2⟩
theorem z8l {w:World}{H:Heap}{b:Nat}{L:List UInt8}(hw:w.heap=H) (hb:H[b]?=some (.cells #[.string (strOf L)] qx (0,0))) (hlen:L.length<=1099511627776) :
  qlz P (.func (.func zgh) #[] #[.pointer (some ⟨b,0,none⟩)]) (fun ys=>ys=pieces L) (fun pre y=>∃ rest,pieces L=pre++y :: rest) (fun x=>#[.string (strOf x)]) [b] [b] w:=by
 refine⟨_,_,rfl,fun l I J w1 M hx1 hMM hst hIA h0 hY=>?_⟩
 have hb1:=(hw▸hx1).get hb (by simp)
 have hblt:=lt_of_get hb1
 refine ztc ?_
 unfold zna
 simp only [jc]
 have hlt:∀ (R:List UInt8),R.length=R.length:=fun _=>rfl
 refine zb3 (fun n _ W=>∃ pre R,I pre W/\W.heap[b]?=some (.cells #[.string (strOf R)] qx (0,0))/\pieces L=pre++pieces R/\R.length<=1099511627776/\w1.heap.size<=W.heap.size/\n=R.length) L.length ⟨[],L,h0,hb1,by simp,hlen,Nat.le_refl _,rfl⟩ ?_
 rintro n _ W ⟨pre,R,hI,hbW,hpc,hRl,hsz,rfl⟩ K hK
 refine jg (s:=.str) (t:=strOf R) rfl hbW rfl ?_
 refine zbv (p:=R≠[]) (by rw [Bool.not_eq_true',<-Bool.not_eq_true,zg6]) (fun hne=>?_) (fun he=>?_)
 ·refine jg (s:=.str) (t:=strOf R) rfl hbW rfl ?_
  refine zh (cut_c R hRl) ?_
  rintro e W2 ⟨p,r,bb,rfl,hh2,hcase⟩
  refine⟨(strOf p,strOf r,bb),rfl,?_⟩
  have hpr:pieces R=p :: pieces r/\r.length < R.length:=by
   rcases hcase with⟨h1,rfl,rfl⟩ | ⟨rfl,h2⟩
   ·refine⟨by rw [zmd h1 hne];rfl,?_⟩
    cases p with
    | nil=>exact absurd rfl hne
    | cons a p=>simp
   ·exact⟨zjw h2,by simp;omega⟩
  have hx2:Ext [] W.heap W2.heap:=by rw [hh2];exact .refl _ _
  have hI2:=hst _ _ _ hI (.new hsz hx2)
  have hb2:W2.heap[b]?=some (.cells #[.string (strOf R)] qx (0,0)):=by rw [hh2];exact hbW
  refine zwy ((hY pre p W2 ⟨pieces r,by rw [hpc,hpr.1]⟩ hI2).mono ?_)
  rintro e W3 ⟨hK3,⟨rfl,hI3⟩ | ⟨rfl,hJ3⟩⟩
  ·refine⟨true,rfl,?_⟩
   refine qp rfl ?_
   have hb3:=hK3.get hb2 hblt (fun h=>(hMM _ h).2 (by simp))
   refine zb8 rfl hb3 (by simp) fun W4 hW4=>?_
   have hx4:Ext [b] W3.heap W4.heap:=by rw [hW4];exact Ext.set _ (by simp)
   refine hK _ _ _ hpr.2 ⟨pre++[p],r,hIA _ _ _ hI3 hx4,by rw [hW4];exact qy hb3,by rw [hpc,hpr.1];simp,by omega,?_,rfl⟩
   have:=hx4.1;have:=hK3.1;rw [hh2] at this;omega
  ·refine⟨false,rfl,?_⟩
   exact jh rfl ⟨⟨_,rfl⟩,.inr hJ3⟩
 ·have he:R=[]:=Classical.not_not.1 he
  subst he
  refine⟨⟨_,rfl⟩,.inl ⟨pieces L,rfl,?_⟩⟩
  rw [hpc]
  simpa [pieces] using hI
def zb5 (acc:Path) (x:List UInt8):Path:=if x=[]\/x=[46] then acc else if x=[46,46] then acc.dropLast else acc++[x]
def zez (ps:Path):Path:=ps.foldl zb5 []
def zqz (L:List UInt8):Bool:=L.all fun b=>decide (b=47) || ze4 b
def vg (L:List UInt8):Path×Int:=
 if 256 < L.length then ([],2) else if L.head?≠some 47 then ([],40) else if zqz L=false then ([],40)
 else if (pieces L).any (fun x=>decide (16 < x.length)) then ([],41) else if 8 < (zez (pieces L)).length then ([],42) else (zez (pieces L),0)
theorem zhb {ps:Path}{x:List UInt8}:zez (ps++[x])=zb5 (zez ps) x:=by simp [zez]
theorem zzy:∀ {ps acc:Path},(ps.foldl zb5 acc).length<=acc.length+ps.length
 | [],acc=>by simp
 | x :: ps,acc=>by
  have:=zzy (ps:=ps) (acc:=zb5 acc x)
  have h:(zb5 acc x).length<=acc.length+1:=by
   unfold zb5;split
   ·omega
   ·split <;> simp;omega
  simp only [List.foldl_cons,List.length_cons];omega
theorem pieces_len:∀ {L:List UInt8},(pieces L).length<=L.length
 | []=>by simp [pieces]
 | c :: L=>by
  have:=pieces_len (L:=L)
  rw [pieces]
  split
  ·simp;omega
  ·split
   ·simp
   ·rename_i p ps h
    rw [h] at this
    split <;> (simp only [List.length_cons] at this |-;omega)
theorem qhb:Elem P qx 1 16:=zii (z:=.string .empty) (by kernel_rfl) rfl
theorem ql4:zc P zx=#[.slice none 0 0]:=by kernel_rfl
theorem zcE:zc P jd=#[.int .i64 0]:=by kernel_rfl
theorem Mine.cut {H:Heap}{B:Nat}{T:TypeId}{x:Option Addr×Nat×Nat}{vs:List Value}(h:Mine H B T 1 x vs){k:Nat}(hk:k<=x.2.1) :
  Mine H B T 1 (if x.2.2=0 then x.1 else x.1.map (·.add (0 * 1)),k-0,x.2.2-0) (vs.take k):=by
 rcases h with⟨rfl,rfl⟩ | ⟨b,c,hx,hB,hb,hc,hl,hle,he⟩
 ·simp only at hk
  obtain rfl:k=0:=by omega
  exact .inl ⟨by simp,by simp⟩
 ·have hkl:(vs.take k).length=k:=by simp;omega
  refine .inr ⟨b,c,?_,hB,hb,by simpa using hc,by rw [hkl];simp,by simp only;omega,?_⟩
  ·simp only [hx]
   split
   ·rfl
   ·simp [zan]
  ·rw [hkl]
   conv=>rhs;rw [<-he]
   simp only [Array.toList_extract,List.extract_eq_take_drop,List.drop_zero,Nat.sub_zero,List.take_take]
   congr 1;omega
theorem qc7 {x:Option Addr×Nat×Nat}{k c:Nat}:jw (if x.2.2=0 then x.1 else x.1.map (·.add (0 * 1)),k,c)=jw x:=by
 by_cases h:x.2.2=0
 ·rw [if_pos h];rfl
 ·rw [if_neg h]
  cases hx:x.1 with
  | none=>simp [jw,hx]
  | some a=>simp [jw,hx,Addr.add]
theorem zx8 {w:World}{H:Heap}{b2 b3:Nat}{v2 v3:Value}{code:Int}{x:Option Addr×Nat×Nat}(hw:w.heap=H) (h2:H[b2]?=some (.cells #[v2] zx (0,0))) (h3:H[b3]?=some (.cells #[v3] jd (0,0))) (hne:b2≠b3){K:World->Prop}
  (hK:∀ w',Ext [b2,b3] H w'.heap->w'.heap[b2]?=some (.cells #[zdr x] zx (0,0))->w'.heap[b3]?=some (.cells #[.int .i64 code] jd (0,0))->w'.heap.size=H.size->K w') :
  stC ⟨b2,0,none⟩ (.slice x.1 x.2.1 x.2.2) w fun w3=>stC ⟨b3,0,none⟩ (.int .i64 code) w3 fun w4=>K w4:=by
 refine zb8 hw h2 (by simp) fun w3 hw3=>?_
 have h33:w3.heap[b3]?=some (.cells #[v3] jd (0,0)):=by rw [hw3];exact zd8 h3 (Ne.symm hne)
 have h32:w3.heap[b2]?=some (.cells #[zdr x] zx (0,0)):=by rw [hw3];exact qy h2
 refine zb8 rfl h33 (by simp) fun w4 hw4=>?_
 refine hK w4 ?_ (by rw [hw4];exact zd8 h32 hne) (by rw [hw4];exact qy h33) (by rw [hw4,hw3];simp)
 rw [hw4,hw3]
 exact ((Ext.refl _ _).set_own (.inr (by simp))).set_own (.inr (by simp))
theorem z6s {ps:Path}{x:List UInt8}:(ps++[x]).any (fun x=>decide (16 < x.length))=(ps.any (fun x=>decide (16 < x.length)) || decide (16 < x.length)):=by simp
set_option maxHeartbeats 8000000 in
theorem zma {w:World}{H:Heap}(L:List UInt8) (hw:w.heap=H) :
  qj P zbw #[.string (strOf L)] w fun e w'=>∃ x,e=.returned (.tuple #[zdr x,.int .i64 (vg L).2])/\Mine w'.heap H.size qx 1 x (strRow (vg L).1)/\Ext [] H w'.heap:=by
 refine zxy ?_
 unfold zqo
 rw [ql4,zcE]
 refine ji hw fun w1 hw1=>?_
 refine ji hw1 fun w2 hw2=>?_
 have hsz:(H.push (.cells #[.slice none 0 0] zx)).size=H.size+1:=by simp
 have h2:w2.heap[H.size]?=some (.cells #[.slice none 0 0] zx (0,0)):=by rw [hw2];exact za1 zk
 have h3:w2.heap[H.size+1]?=some (.cells #[.int .i64 0] jd (0,0)):=by rw [hw2,<-hsz];exact zk
 have hx2:Ext [] H w2.heap:=by rw [hw2];exact (Ext.push _).trans (Ext.push _)
 have hs2:w2.heap.size=H.size+2:=by rw [hw2];simp
 rw [hsz]
 clear hw1 hw2
 have fin:∀ {w w':World}{x:Option Addr×Nat×Nat}{code:Int},Ext [] H w.heap->Ext [H.size,H.size+1] w.heap w'.heap->x=(none,0,0)->vg L=([],code) ->
   ∃ y,Ending.returned (.tuple #[zdr x,.int .i64 code])=.returned (.tuple #[zdr y,.int .i64 (vg L).2])/\Mine w'.heap H.size qx 1 y (strRow (vg L).1)/\Ext [] H w'.heap:=by
  intro w w' x code h1 h2 hx hp
  subst hx
  rw [hp]
  exact⟨(none,0,0),rfl,.inl ⟨rfl,rfl⟩,h1.own h2 (by intro b hb hlt;simp at hb;omega)⟩
 refine zy (fun hbig=>?_) (fun hsm=>?_)
 ·refine zx8 (x:=(none,0,0)) rfl h2 h3 (by omega) fun w4 hx4 h24 h34 _=>?_
  refine jg (s:=.slc) (t:=(none,0,0)) rfl h24 rfl ?_
  refine jg (s:=.int .i64) (t:=2) rfl h34 rfl ?_
  exact fin hx2 hx4 rfl (by unfold vg;rw [if_pos (by simp only [jy] at hbig;omega)])
 have hL256:L.length<=256:=by simp only [jy] at hsm;omega
 have hhp:qj P zdl #[.string (strOf L),.string (ByteArray.mk #[47])] w2 fun e w'=>e=.returned (.bool (decide (L.head?=some 47)))/\w'=w2:=by
  refine zji ?_
  unfold zgq
  have h1:qj P zbg #[.string (strOf L),.string (ByteArray.mk #[47])] w2 fun e w'=>e=.returned (.bool (decide (L.head?=some 47)))/\w'=w2:=by
   refine zd0 ?_
   unfold zci
   cases L with
   | nil=>exact qp rfl ⟨rfl,rfl⟩
   | cons c L=>
    refine jh (decide_eq_true (by show ((strOf (c :: L)).size:Int)>=1;rw [jy];simp only [List.length_cons];omega)) ?_
    refine qc (s:=.str) _ (znt (l:=0) (h:=1) zzf .no (.yes rfl) (by omega) (by simp)) ?_
    refine⟨?_,rfl⟩
    congr 2
    rw [Bool.eq_iff_iff,zg6,decide_eq_true_iff]
    simp
  exact zdf (decide (L.head?=some 47)) h1 ⟨rfl,rfl⟩
 refine zdf (decide (L.head?=some 47)) hhp ?_
 by_cases hhd:L.head?=some 47
 rotate_left
 ·refine jh (by simp [hhd]) ?_
  refine zx8 (x:=(none,0,0)) rfl h2 h3 (by omega) fun w4 hx4 h24 h34 _=>?_
  refine jg (s:=.slc) (t:=(none,0,0)) rfl h24 rfl ?_
  refine jg (s:=.int .i64) (t:=40) rfl h34 rfl ?_
  exact fin hx2 hx4 rfl (by unfold vg;rw [if_neg (by omega),if_pos hhd])
 refine qp (by simp [hhd]) ?_
 refine zae (fun (s:Int) W=>∃ i:Nat,s=(i:Int)/\i<=L.length/\W=w2/\∀ b∈L.take i,(decide (b=47) || ze4 b)=true) (fun s _=>(L.length-s).toNat) ⟨0,rfl,Nat.zero_le _,rfl,by simp⟩ ?_
 rintro _ w2 ⟨i,rfl,hi,rfl,hpl⟩
 refine zy (fun hlt=>?_) (fun hge=>?_)
 ·have hil:i < L.length:=by simp only [jy] at hlt;omega
  have hnext:(decide (L[i]=47) || ze4 L[i])=true->∀ b∈L.take (i+1),(decide (b=47) || ze4 b)=true:=by
   intro h b hm
   rw [List.take_add_one,List.getElem?_eq_getElem hil] at hm
   rcases List.mem_append.1 hm with hm | hm
   ·exact hpl b hm
   ·simp only [Option.toList_some,List.mem_singleton] at hm;subst hm;exact h
  have hgo:∀ {K:Int->Prop},(decide (L[i]=47) || ze4 L[i])=true->(∀ k,k=((i+1:Nat):Int)->K k)->zbz .i64 (i:Int) 1 K:=fun _ hK=>jr ((i+1:Nat):Int) (by omega) (by omega) (by omega) (hK _ rfl)
  refine jf ?_
  refine jf ?_
  refine znn i rfl hil ?_
  refine zbr (fun h47=>?_) (fun h47=>?_)
  ·refine znn i rfl hil ?_
   refine zdf (ze4 L[i]) (qcm _) ?_
   cases hb:ze4 L[i] with
   | false=>
    refine jh rfl ?_
    refine zx8 (x:=(none,0,0)) rfl h2 h3 (by omega) fun w4 hx4 h24 h34 _=>?_
    refine jg (s:=.slc) (t:=(none,0,0)) rfl h24 rfl ?_
    refine jg (s:=.int .i64) (t:=40) rfl h34 rfl ?_
    refine fin hx2 hx4 rfl ?_
    have:zqz L=false:=by
     unfold zqz
     rw [List.all_eq_false]
     refine⟨L[i],List.getElem_mem hil,?_⟩
     have:¬L[i]=47:=fun e=>h47 (by rw [e];rfl)
     simp [this,hb]
    unfold vg
    rw [if_neg (by omega),if_neg (by simp [hhd]),if_pos this]
   | true=>
    refine qp rfl ?_
    refine hgo (by simp [hb]) ?_
    rintro _ rfl
    exact⟨⟨i+1,rfl,by omega,rfl,hnext (by simp [hb])⟩,by omega⟩
  ·have h47':L[i]=47:=UInt8.toNat_inj.1 (by have h:((L[i]).toNat:Int)=47:=h47;show (L[i]).toNat=47;omega)
   refine hgo (by simp [h47']) ?_
   rintro _ rfl
   exact⟨⟨i+1,rfl,by omega,rfl,hnext (by simp [h47'])⟩,by omega⟩
 have hie:i=L.length:=by simp only [jy] at hge;omega
 subst hie
 rw [List.take_length] at hpl
 have hok:zqz L=true:=List.all_eq_true.2 hpl
 have hP:vg L=if (pieces L).any (fun x=>decide (16 < x.length)) then ([],41) else if 8 < (zez (pieces L)).length then ([],42) else (zez (pieces L),0):=by
  unfold vg;rw [if_neg (by omega),if_neg (by simp [hhd]),if_neg (by simp [hok])]
 refine ji rfl fun w12 hw12=>?_
 have h12:Ext [] w2.heap w12.heap:=by rw [hw12];exact .push _
 have hb5:w12.heap[H.size+2]?=some (.cells #[.slice none 0 0] zx (0,0)):=by rw [hw12,<-hs2];exact zk
 have hs12:w12.heap.size=H.size+3:=by rw [hw12];simp [hs2]
 rw [hs2]
 have hpieces:qj P zld #[.string (strOf L)] w12 fun e w'=>e=.returned (.func (.func zgh) #[] #[.pointer (some ⟨H.size+3,0,none⟩)])/\w'.heap=w12.heap.push (.cells #[.string (strOf L)] qx):=by
  refine zw9 ?_
  unfold zpm
  refine ji rfl fun w13 hw13=>?_
  exact qc (s:=.any) _ rfl ⟨by rw [hs12],hw13⟩
 refine zh hpieces ?_
 rintro e w13 ⟨rfl,hw13⟩
 refine⟨_,rfl,?_⟩
 have h1213:Ext [] w12.heap w13.heap:=by rw [hw13];exact .push _
 have hb1:w13.heap[H.size+3]?=some (.cells #[.string (strOf L)] qx (0,0)):=by rw [hw13,<-hs12];exact zk
 have hs13:w13.heap.size=H.size+4:=by rw [hw13];simp [hs12]
 have h213:=h12.trans h1213
 have hx13:=hx2.trans h213
 have hpl2:=pieces_len (L:=L)
 refine qcf (α:=List UInt8) (shs:=[.str]) (tv:=fun x=>strOf x) (fp:=[H.size+3]) (A:=[H.size+3]) (z8l rfl hb1 (by omega)) (fun _ h=>h) [H.size,H.size+1,H.size+2] ?_ (fun b hb=>by simp only [List.mem_singleton] at hb;omega)
  (fun pre W=>∃ x,Ext [] H W.heap/\W.heap[H.size]?=some (.cells #[.slice none 0 0] zx (0,0))/\W.heap[H.size+1]?=some (.cells #[.int .i64 0] jd (0,0))/\W.heap[H.size+2]?=some (.cells #[zdr x] zx (0,0))/\Mine W.heap (H.size+4) qx 1 x (strRow (zez pre))/\pre.any (fun x=>decide (16 < x.length))=false)
  (fun W=>Ext [] H W.heap/\W.heap[H.size]?=some (.cells #[.slice none 0 0] zx (0,0))/\W.heap[H.size+1]?=some (.cells #[.int .i64 41] jd (0,0))/\(pieces L).any (fun x=>decide (16 < x.length))=true)
  (fun _ _=>False) ?_ ?_ (fun _ _ _ h _=>h.elim) ?_ ?_ ?_ ?_ ?_ (fun _ _ h=>h.elim)
 ·intro b hb
  simp only [List.mem_cons,List.not_mem_nil,or_false] at hb |-
  omega
 ·rintro pre W W' ⟨x,h1,h2,h3,h4,h5,h6⟩ hB
  exact⟨x,hB.ext (by omega) h1,hB.cells h2,hB.cells h3,hB.cells h4,hB.mine h5,h6⟩
 ·rintro W W' ⟨h1,h2,h3,h4⟩ hB
  exact⟨hB.ext (by omega) h1,hB.cells h2,hB.cells h3,h4⟩
 ·rintro pre W W' ⟨x,h1,h2,h3,h4,h5,h6⟩ hx
  have hn:∀ b,b≠H.size+3->b∉[H.size+3]:=fun b h=>by simpa using h
  exact⟨x,h1.own hx (by intro b hb hlt;simp at hb;omega),hx.get h2 (hn _ (by omega)),hx.get h3 (hn _ (by omega)),hx.get h4 (hn _ (by omega)),h5.ext hx (fun b hb=>hn b (by have:=jo h5 b hb;omega)),h6⟩
 ·exact⟨(none,0,0),hx13,h213.get h2 (by simp),h213.get h3 (by simp),h1213.get hb5 (by simp),.inl ⟨rfl,rfl⟩,rfl⟩
 ·rintro pre y W ⟨rest,hrest⟩ ⟨x,k1,k2,k3,k4,k5,k6⟩ hsz beg kc kr kx hbeg
  have hprel:pre.length+1<=256:=by have:=congrArg List.length hrest;simp at this;omega
  have hwl:(zez pre).length<=pre.length:=by have:=zzy (ps:=pre) (acc:=[]);simpa [zez] using this
  refine hbeg W _ (.refl _ _) fun W2 hB2 hs2' hkc hkr _=>?_
  have k12:Ext [] H W2.heap:=hB2.ext (by omega) k1
  have k22:=hB2.cells k2
  have k32:=hB2.cells k3
  have k42:=hB2.cells k4
  have k52:=hB2.mine k5
  have hxl:x.2.1=(zez pre).length:=by have:=k52.len;simp at this;omega
  have hW2:H.size+4<=W2.heap.size:=by omega
  have goOn:∀ {W3:World}{x':Option Addr×Nat×Nat},Ext ((H.size+2) :: jw x) W2.heap W3.heap->W3.heap[H.size+2]?=some (.cells #[zdr x'] zx (0,0))->Mine W3.heap (H.size+4) qx 1 x' (strRow (zez (pre++[y])))->¬16 < y.length->kc W3:=by
   intro W3 x' hx h4 h5 hy
   have hown:=jo k52
   have hn:∀ b,b < H.size+2->b∉(H.size+2) :: jw x:=fun b hb h=>by
    rcases List.mem_cons.1 h with h | h
    ·omega
    ·have:=hown b h;omega
   refine hkc W3 (.of hx (fun b hb=>?_) (by intro b hb;simp at hb;omega)) ⟨x',k12.own hx ?_,hx.get k22 (hn _ (by omega)),hx.get k32 (hn _ (by omega)),h4,h5,by rw [z6s,k6];simp;omega⟩
   ·rcases List.mem_cons.1 hb with rfl | hb
    ·left;simp
    ·right
     refine⟨by have:=hown b hb;omega,?_⟩
     rcases k52 with⟨rfl,_⟩ | ⟨b2,c2,hx2',_,hb2,_⟩
     ·simp [jw] at hb
     ·simp only [jw,hx2',List.mem_singleton] at hb;subst hb;exact⟨_,_,_,hb2⟩
   ·intro b hb hlt
    exact absurd hb (hn b (by omega))
  refine jf ?_
  refine jf ?_
  refine zy (fun hlong=>?_) (fun hshort=>?_)
  ·have hlong:16 < y.length:=by have h:=hlong;simp only [jy] at h;omega
   refine zx8 (x:=(none,0,0)) rfl k22 k32 (by omega) fun w4 hx4 h24 h34 hs4=>?_
   refine hkr w4 (.of hx4 (fun b hb=>.inl (by simp at hb |-;omega)) (by intro b hb;simp at hb;omega)) ⟨k12.own hx4 (by intro b hb hlt;simp at hb;omega),h24,h34,?_⟩
   rw [List.any_eq_true]
   exact⟨y,by rw [hrest];simp,by simpa using hlong⟩
  have hshort:¬16 < y.length:=by have h:=hshort;simp only [jy] at h;omega
  have hnone:zez (pre++[y])=zez pre->kc W2:=fun h=>goOn (.refl _ _) k42 (by rw [h];exact k52) hshort
  refine zbv (p:=y=[]) zg6 (fun h=>hnone (by rw [zhb,zb5,if_pos (.inl h)])) (fun hy0=>?_)
  refine zbv (p:=y=[46]) zg6 (fun h=>hnone (by rw [zhb,zb5,if_pos (.inr h)])) (fun hy1=>?_)
  refine zbv (p:=y=[46,46]) zg6 (fun h=>?_) (fun hy2=>?_)
  ·refine jg (s:=.slc) (t:=x) rfl k42 rfl ?_
   refine jg (s:=.slc) (t:=x) rfl k42 rfl ?_
   refine zdb ((x.2.1:Int)-1) rfl (by omega) (by omega) ?_
   refine qc (s:=.int .i64) ((x.2.1-1:Nat):Int) ?_ ?_
   ·rw [run_max_int2]
    congr 2
    show (if (0:Int) > (x.2.1:Int)-1 then 0 else (x.2.1:Int)-1)=((x.2.1-1:Nat):Int)
    split <;> omega
   have hxc:x.2.1<=x.2.2:=by
    rcases k52 with⟨rfl,_⟩ | ⟨_,_,_,_,_,_,_,h,_⟩
    ·exact Nat.le_refl _
    ·exact h
   refine qc (s:=.slc) (if x.2.2=0 then x.1 else x.1.map (·.add (0 * 1)),(x.2.1-1)-0,x.2.2-0) (zbd zj6 zs9 .no (.yes rfl) (Nat.zero_le _) (by omega)) ?_
   refine zb8 rfl k42 (by simp) fun W3 hW3=>?_
   have hx3:Ext [H.size+2] W2.heap W3.heap:=by rw [hW3];exact Ext.set _ (by simp)
   refine goOn (x':=(if x.2.2=0 then x.1 else x.1.map (·.add (0 * 1)),(x.2.1-1)-0,x.2.2-0)) (hx3.mono (by simp)) (by rw [hW3];exact qy k42) ?_ hshort
   have hcut:=(Mine.cut k52 (k:=x.2.1-1) (by omega)).ext hx3 (fun b hb=>by rw [qc7] at hb;have:=jo k52 b hb;simp only [List.mem_singleton];omega)
   rw [zdi] at hcut
   have hw2:zez (pre++[y])=(zez pre).take (x.2.1-1):=by rw [zhb,zb5,if_neg (by simp [hy0,hy1]),if_pos h,List.dropLast_eq_take,<-hxl]
   rw [hw2]
   exact hcut
  ·refine jg (s:=.slc) (t:=x) rfl k42 rfl ?_
   refine zaf (s:=.slc) (some ⟨W2.heap.size,0,none⟩,1,1) _ (zee qhb zj6 (v:=.string (strOf y)) rfl (by omega) (by omega)) ?_
   have hxp:Ext [] W2.heap (W2.heap.push (.cells (Value.string (strOf y)).cells qx)):=.push _
   refine zbx (n:=1) (us:=[.string (strOf y)]) (H:=W2.heap.push (.cells (Value.string (strOf y)).cells qx)) qhb (by omega) zj6 (zar zj6) rfl (k52.ext hxp (by simp)) (by simp;omega)
    (Src.slc rfl (.inr ⟨W2.heap.size,0,_,_,_,rfl,zk,by simp [Value.cells],by simp [Value.cells]⟩) rfl) (by intro v hv;simp only [List.mem_singleton] at hv;subst hv;rfl) (by omega) ?_
   intro x' W4 hm4 hl4 hx4 _
   have hb4:W4.heap[H.size+2]?=some (.cells #[zdr x] zx (0,0)):=hx4.get (hxp.get k42 (by simp)) (fun h=>by have:=jo k52 _ h;omega)
   refine zb8 rfl hb4 (by simp) fun W5 hW5=>?_
   have hx5:Ext [H.size+2] W4.heap W5.heap:=by rw [hW5];exact Ext.set _ (by simp)
   refine goOn (x':=x') (((hxp.mono (by simp)).trans (hx4.mono (fun b hb=>List.mem_cons_of_mem _ hb))).trans (hx5.mono (by simp))) (by rw [hW5];exact qy hb4) ?_ hshort
   rw [zhb,zb5,if_neg (by simp [hy0,hy1]),if_neg hy2,<-zmx]
   exact hm4.ext hx5 (fun b hb=>by have:=jo hm4 b hb;simp only [List.mem_singleton];omega)
 ·rintro xs W rfl ⟨x,k1,k2,k3,k4,k5,k6⟩ hD
  rw [if_neg (by simp [k6])] at hP
  have hxl:x.2.1=(zez (pieces L)).length:=by have:=k5.len;simp at this;omega
  refine jg (s:=.slc) (t:=x) rfl k4 rfl ?_
  have hne2:∀ {W':World}{o:Obj}{b:Nat},b≠w13.heap.size->W'.heap[b]?=some o->(W'.heap.setIfInBounds w13.heap.size (.deferred none))[b]?=some o:=fun h ho=>zd8 ho h
  refine zy (fun hdeep=>?_) (fun hflat=>?_)
  ·refine zx8 (x:=(none,0,0)) rfl k2 k3 (by omega) fun w4 hx4 h24 h34 hs4=>?_
   refine⟨hx4.get hD (by simp;omega),fun w5 hw5=>?_⟩
   have hh5:w5.heap=w4.heap.setIfInBounds w13.heap.size (.deferred none):=by rw [hw5,zce]
   refine jg (s:=.slc) (t:=(none,0,0)) rfl (by rw [hh5];exact hne2 (by omega) h24) rfl ?_
   refine jg (s:=.int .i64) (t:=42) rfl (by rw [hh5];exact hne2 (by omega) h34) rfl ?_
   rw [if_pos (by omega)] at hP
   rw [hP]
   refine⟨(none,0,0),rfl,.inl ⟨rfl,rfl⟩,?_⟩
   rw [hh5]
   exact (k1.own hx4 (by intro b hb hlt;simp at hb;omega)).set_own (.inl (by omega))
  ·refine jg (s:=.slc) (t:=x) rfl k4 rfl ?_
   refine zx8 (x:=x) rfl k2 k3 (by omega) fun w4 hx4 h24 h34 hs4=>?_
   have hD4:=hx4.get hD (by simp;omega)
   refine⟨hD4,fun w5 hw5=>?_⟩
   have hh5:w5.heap=w4.heap.setIfInBounds w13.heap.size (.deferred none):=by rw [hw5,zce]
   refine jg (s:=.slc) (t:=x) rfl (by rw [hh5];exact hne2 (by omega) h24) rfl ?_
   refine jg (s:=.int .i64) (t:=0) rfl (by rw [hh5];exact hne2 (by omega) h34) rfl ?_
   rw [if_neg (by omega)] at hP
   rw [hP]
   refine⟨x,rfl,?_,?_⟩
   ·have hm4:=k5.ext hx4 (fun b hb=>by have:=jo k5 b hb;simp;omega)
    have hB:Beside w13.heap.size w4 w5:=by rw [hw5];exact .put (Nat.le_refl _) hD4 (by intro _ _ _ h;cases h)
    exact (hB.mine hm4).mono (by omega)
   ·rw [hh5]
    exact (k1.own hx4 (by intro b hb hlt;simp at hb;omega)).set_own (.inl (by omega))
 ·rintro W ⟨k1,k2,k3,k4⟩ hD
  refine⟨hD,fun w5 hw5=>?_⟩
  have hh5:w5.heap=W.heap.setIfInBounds w13.heap.size (.deferred none):=by rw [hw5,zce]
  refine jg (s:=.slc) (t:=(none,0,0)) rfl (by rw [hh5];exact zd8 k2 (by omega)) rfl ?_
  refine jg (s:=.int .i64) (t:=41) rfl (by rw [hh5];exact zd8 k3 (by omega)) rfl ?_
  rw [if_pos k4] at hP
  rw [hP]
  refine⟨(none,0,0),rfl,.inl ⟨rfl,rfl⟩,?_⟩
  rw [hh5]
  exact k1.set_own (.inl (by omega))
def zxv:List UInt8->List (List UInt8)
 | []=>[[]]
 | c :: L=>if c=47 then [] :: zxv L else match zxv L with | []=>[[c]] | p :: ps=>(c :: p) :: ps
theorem zy8:∀ {p r:List UInt8},(47:UInt8)∉p->zxv (p++47 :: r)=p :: zxv r
 | [],r,_=>by simp [zxv]
 | c :: p,r,h=>by
  have hc:c≠47:=fun e=>h (by simp [e])
  rw [List.cons_append,zxv,if_neg hc,zy8 (p:=p) (r:=r) (fun hm=>h (by simp [hm]))]
theorem zww:∀ {p:List UInt8},(47:UInt8)∉p->zxv p=[p]
 | [],_=>rfl
 | c :: p,h=>by
  have hc:c≠47:=fun e=>h (by simp [e])
  rw [zxv,if_neg hc,zww (p:=p) (fun hm=>h (by simp [hm]))]
theorem z4c (n:Nat):∀ {L:List UInt8},L.length<=n->zxv L=pieces L\/zxv L=pieces L++[[]]:=by
 induction n with
 | zero=>
  intro L h
  have h0:L=[]:=List.eq_nil_of_length_eq_zero (by omega)
  subst h0;right;rfl
 | succ n ih=>
  intro L hl
  rcases qci L with h | ⟨p,r,rfl,h⟩
  ·by_cases he:L=[]
   ·subst he;right;rfl
   ·left;rw [zww h,zmd h he]
  ·rw [zy8 h,zjw h]
   simp only [List.length_append,List.length_cons] at hl
   rcases ih (L:=r) (by omega) with h | h
   ·left;rw [h]
   ·right;rw [h];rfl
theorem qan {T:List UInt8}:zez (zxv T)=zez (pieces (47 :: T))/\(zxv T).any (fun x=>decide (16 < x.length))=(pieces (47 :: T)).any (fun x=>decide (16 < x.length)):=by
 have h0:pieces (47 :: T)=[] :: pieces T:=zjw (p:=[]) (by simp)
 have hw:zez ([] :: pieces T)=zez (pieces T):=by simp [zez,zb5]
 rw [h0,hw]
 rcases z4c T.length (L:=T) (Nat.le_refl _) with h | h
 ·rw [h];simp
 ·rw [h,zhb];simp [zb5]
def rem (L:List UInt8) (f:Nat):Path:=if f<=L.length then zxv (L.drop f) else []
theorem qex {L:List UInt8}{f i:Nat}(hf:f<=i) (hi:i<=L.length) (hn:(47:UInt8)∉(L.take i).drop f) (h47:∀ h:i < L.length,L[i]=47):rem L f=(L.take i).drop f :: rem L (i+1):=by
 unfold rem
 rw [if_pos (by omega)]
 by_cases he:i=L.length
 ·subst he
  rw [if_neg (by omega),List.take_length] at *
  rw [zww hn]
 ·have hil:i < L.length:=by omega
  rw [if_pos (by omega)]
  have hs:L.drop f=(L.take i).drop f++47 :: L.drop (i+1):=by
   have h1:L=L.take i++L[i] :: L.drop (i+1):=by rw [<-List.drop_eq_getElem_cons hil,List.take_append_drop]
   conv=>lhs;rw [h1]
   rw [List.drop_append_of_le_length (by simp;omega),h47 hil]
  rw [hs,zy8 hn]
theorem qlw {w:World}{H:Heap}(hw:w.heap=H){K:(Option Addr×Nat×Nat)->World->Prop}(hK:∀ w',Ext [] H w'.heap->Mine w'.heap H.size qx 1 (some ⟨H.size,0,none⟩,0,0) []->K (some ⟨H.size,0,none⟩,0,0) w'):za2 P (Instr.buildSlice zx 0 #[]) .slc w K:=by
 refine zaf (s:=.slc) (some ⟨H.size,0,none⟩,0,0) { w with heap:=H.push (.cells #[] qx) } (by rw [<-hw];kernel_rfl) ?_
 exact hK _ (.push _) (.inr ⟨H.size,#[],rfl,Nat.le_refl _,zk,rfl,rfl,Nat.le_refl _,rfl⟩)
theorem qhi {w:World}{H:Heap}{B:Nat}{x:Option Addr×Nat×Nat}{a:Option Addr}{l c:Nat}{xs ys:Path}(hw:w.heap=H) (hx:Mine H B qx 1 x (strRow xs)) (hB:B<=H.size) (hL:Cells H a (strRow ys)) (hl:l=ys.length) (hlen:xs.length+ys.length<=1099511627776){K:(Option Addr×Nat×Nat)->World->Prop}
  (hK:∀ x' w',Mine w'.heap B qx 1 x' (strRow (xs++ys))->Ext (jw x) H w'.heap->K x' w'):za2 P (Builtin.append_ #[zx,zx] zx #[.slice x.1 x.2.1 x.2.2,.slice a l c]) .slc w K:=by
 have hxl:x.2.1=xs.length:=by have:=hx.len;simp at this;omega
 refine zbx qhb (by omega) zj6 (zar zj6) hw hx hB (Src.slc hw hL (by simp [hl])) zx9 (by omega) ?_
 intro x' w' hm hl' hx' hs
 refine hK x' w' ?_ hx'
 rw [<-zmx];exact hm
theorem z9u {w:World}{H:Heap}(L:List UInt8) (hw:w.heap=H){K:(Option Addr×Nat×Nat)->World->Prop}(hK:∀ a w',Ext [] H w'.heap->Cells w'.heap a (strRow [L])->K (a,1,1) w'):za2 P (Instr.buildSlice zx 1 #[(0,.string (strOf L))]) .slc w K:=by
 refine zaf (s:=.slc) (some ⟨w.heap.size,0,none⟩,1,1) _ (zee qhb zj6 (v:=.string (strOf L)) rfl (by omega) (by omega)) ?_
 exact hK _ _ (by rw [<-hw];exact .push _) (.inr ⟨w.heap.size,0,_,_,_,rfl,zk,by simp [Value.cells,strRow],by simp [Value.cells,strRow]⟩)
set_option maxHeartbeats 8000000 in
theorem z6v {w:World}{H:Heap}(L:List UInt8) (hw:w.heap=H) :
  qj P zmw #[.string (strOf L)] w fun e w'=>∃ x,e=.returned (.tuple #[zdr x,.int .i64 (vg L).2])/\Mine w'.heap H.size qx 1 x (strRow (vg L).1)/\Ext [] H w'.heap:=by
 refine z0w ?_
 unfold zu9
 have fin:∀ {w:World}{code:Int},Ext [] H w.heap->vg L=([],code) ->
   ∃ y,Ending.returned (.tuple #[.slice none 0 0,.int .i64 code])=.returned (.tuple #[zdr y,.int .i64 (vg L).2])/\Mine w.heap H.size qx 1 y (strRow (vg L).1)/\Ext [] H w.heap:=by
  intro w code h1 hp
  rw [hp]
  exact⟨(none,0,0),rfl,.inl ⟨rfl,rfl⟩,h1⟩
 have hx0:Ext [] H w.heap:=by rw [hw];exact .refl _ _
 refine zy (fun hbig=>fin hx0 (by unfold vg;rw [if_pos (by simp only [jy] at hbig;omega)])) (fun hsm=>?_)
 have hL256:L.length<=256:=by simp only [jy] at hsm;omega
 refine jf ?_
 cases L with
 | nil=>exact jh rfl (fin hx0 rfl)
 | cons c0 T=>
 refine qp (by simp;omega) ?_
 refine znn (L:=c0 :: T) 0 rfl (by simp) ?_
 refine zbr (fun h=>fin hx0 ?_) (fun h=>?_)
 ·have:¬c0=47:=fun e=>h (by simp [e])
  unfold vg;rw [if_neg (by omega),if_pos (by simp [this])]
 have hc0:c0=47:=UInt8.toNat_inj.1 (by have h:(c0.toNat:Int)=47:=h;show c0.toNat=47;omega)
 subst hc0
 have hseg:=qan (T:=T)
 clear h
 generalize hLL:(47:UInt8) :: T=L at *
 have hhd:L.head?=some 47:=by rw [<-hLL];rfl
 have hpos:1<=L.length:=by rw [<-hLL];simp
 have hdrop:L.drop 1=T:=by rw [<-hLL];rfl
 refine zae (fun (s:Int) W=>∃ i:Nat,s=(i:Int)/\i<=L.length/\W=w/\∀ b∈L.take i,(decide (b=47) || ze4 b)=true) (fun s _=>(L.length-s).toNat) ⟨0,rfl,Nat.zero_le _,rfl,by simp⟩ ?_
 rintro _ w ⟨i,rfl,hi,rfl,hpl⟩
 refine zy (fun hlt=>?_) (fun hge=>?_)
 ·have hil:i < L.length:=by simp only [jy] at hlt;omega
  have hnext:(decide (L[i]=47) || ze4 L[i])=true->∀ b∈L.take (i+1),(decide (b=47) || ze4 b)=true:=by
   intro h b hm
   rw [List.take_add_one,List.getElem?_eq_getElem hil] at hm
   rcases List.mem_append.1 hm with hm | hm
   ·exact hpl b hm
   ·simp only [Option.toList_some,List.mem_singleton] at hm;subst hm;exact h
  have hgo:∀ {K:Int->Prop},(decide (L[i]=47) || ze4 L[i])=true->(∀ k,k=((i+1:Nat):Int)->K k)->zbz .i64 (i:Int) 1 K:=fun _ hK=>jr ((i+1:Nat):Int) (by omega) (by omega) (by omega) (hK _ rfl)
  refine jf ?_
  refine jf ?_
  refine znn i rfl hil ?_
  refine zbr (fun h47=>?_) (fun h47=>?_)
  ·refine znn i rfl hil ?_
   refine zdf (ze4 L[i]) (qeh _) ?_
   cases hb:ze4 L[i] with
   | false=>
    refine jh rfl ?_
    refine fin hx0 ?_
    have:zqz L=false:=by
     unfold zqz
     rw [List.all_eq_false]
     refine⟨L[i],List.getElem_mem hil,?_⟩
     have:¬L[i]=47:=fun e=>h47 (by rw [e];rfl)
     simp [this,hb]
    unfold vg
    rw [if_neg (by omega),if_neg (by simp [hhd]),if_pos this]
   | true=>
    refine qp rfl ?_
    refine hgo (by simp [hb]) ?_
    rintro _ rfl
    exact⟨⟨i+1,rfl,by omega,rfl,hnext (by simp [hb])⟩,by omega⟩
  ·have h47':L[i]=47:=UInt8.toNat_inj.1 (by have h:((L[i]).toNat:Int)=47:=h47;show (L[i]).toNat=47;omega)
   refine hgo (by simp [h47']) ?_
   rintro _ rfl
   exact⟨⟨i+1,rfl,by omega,rfl,hnext (by simp [h47'])⟩,by omega⟩
 have hie:i=L.length:=by simp only [jy] at hge;omega
 subst hie
 rw [List.take_length] at hpl
 have hok:zqz L=true:=List.all_eq_true.2 hpl
 have hP:vg L=if (zxv T).any (fun x=>decide (16 < x.length)) then ([],41) else if 8 < (zez (zxv T)).length then ([],42) else (zez (zxv T),0):=by
  unfold vg;rw [if_neg (by omega),if_neg (by simp [hhd]),if_neg (by simp [hok]),hseg.1,hseg.2]
 refine zae (fun (s:(Option Addr×Nat×Nat)×Int×Int) W=>∃ (x:Option Addr×Nat×Nat) (f i:Nat) (done:Path),s=(x,(f:Int),(i:Int))/\1<=f/\f<=i/\i<=L.length+1/\(i<=L.length\/f=i)/\zxv T=done++rem L f/\(47:UInt8)∉(L.take i).drop f /\
   Ext [] H W.heap/\Mine W.heap H.size qx 1 x (strRow (zez done))/\done.any (fun x=>decide (16 < x.length))=false/\done.length<=f) (fun s _=>(L.length+1-s.2.2).toNat)
  ⟨(none,0,0),1,1,[],rfl,by omega,by omega,by omega,.inl hpos,by rw [rem,if_pos hpos,hdrop];rfl,by rw [List.drop_eq_nil_of_le (by simp;omega)];simp,hx0,.inl ⟨rfl,rfl⟩,rfl,by simp⟩ ?_
 rintro _ W ⟨x,f,i,done,rfl,hf1,hfi,hi,hor,hsg,hno,hxW,hmW,hany,hdl⟩
 have hwl:(zez done).length<=done.length:=by have:=zzy (ps:=done) (acc:=[]);simpa [zez] using this
 have hxl:x.2.1=(zez done).length:=by have:=hmW.len;simp at this;omega
 have hHW:=hxW.1
 refine zy (fun hle=>?_) (fun hgt=>?_)
 ·have hil:i<=L.length:=by simp only [jy] at hle;omega
  refine joinP_of (fun (s:(Option Addr×Nat×Nat)×Int) W'=>∃ (x':Option Addr×Nat×Nat) (f':Nat) (done':Path),s=(x',(f':Int))/\1<=f'/\f'<=i+1/\(i+1<=L.length\/f'=i+1)/\zxv T=done'++rem L f'/\(47:UInt8)∉(L.take (i+1)).drop f' /\
   Ext [] H W'.heap/\Mine W'.heap H.size qx 1 x' (strRow (zez done'))/\done'.any (fun x=>decide (16 < x.length))=false/\done'.length<=f') ?_ ?_
  rotate_left
  ·rintro _ W' ⟨x',f',done',rfl,h1,h2,h3,h4,h5,h6,h7,h8,h9⟩
   refine jr ((i+1:Nat):Int) (by simp only;omega) (by omega) (by omega) ?_
   exact⟨⟨x',f',i+1,done',rfl,h1,h2,by omega,h3,h4,h5,h6,h7,h8,h9⟩,by simp only;omega⟩
  refine joinP_of (fun _ W'=>W'=W/\∀ h:i < L.length,L[i]=47) ?_ ?_
  ·refine zy (fun hlt=>?_) (fun hge=>⟨rfl,fun h=>absurd hge (by simp only [jy];omega)⟩)
   have hil2:i < L.length:=by simp only [jy] at hlt;omega
   refine znn i rfl hil2 ?_
   refine zbr (fun h47=>?_) (fun h47=>?_)
   ·refine⟨x,f,done,rfl,hf1,by omega,.inl (by omega),hsg,?_,hxW,hmW,hany,hdl⟩
    rw [List.take_add_one,List.getElem?_eq_getElem hil2,List.drop_append_of_le_length (by simp;omega)]
    intro hm
    rcases List.mem_append.1 hm with hm | hm
    ·exact hno hm
    ·simp only [Option.toList_some,List.mem_singleton] at hm
     exact h47 (by rw [<-hm];rfl)
   ·exact⟨rfl,fun _=>UInt8.toNat_inj.1 (by have h:((L[i]).toNat:Int)=47:=h47;show (L[i]).toNat=47;omega)⟩
  rintro _ W' ⟨rfl,h47⟩
  have hstep:=qex hfi hil hno h47
  generalize hp:(L.take i).drop f=p at *
  refine qc (s:=.str) (strOf p) ((znt (l:=f) (h:=i) zzf (.yes rfl) (.yes rfl) hfi hil).trans (by rw [hp];rfl)) ?_
  refine jr ((i+1:Nat):Int) (by simp only;omega) (by omega) (by omega) ?_
  refine zy (fun hlong=>?_) (fun hshort=>?_)
  ·have hlong:16 < p.length:=by have h:=hlong;simp only [jy] at h;omega
   refine fin hxW ?_
   rw [hP,if_pos]
   rw [hsg,hstep,List.any_eq_true]
   exact⟨p,by simp,by simpa using hlong⟩
  have hshort:¬16 < p.length:=by have h:=hshort;simp only [jy] at h;omega
  have endI:∀ {W2:World}{x2:Option Addr×Nat×Nat},Ext [] H W2.heap->Mine W2.heap H.size qx 1 x2 (strRow (zez (done++[p])))->(∃ (x':Option Addr×Nat×Nat) (f':Nat) (done':Path),((x2.1,x2.2.1,x2.2.2),((i+1:Nat):Int))=(x',(f':Int))/\1<=f'/\f'<=i+1/\(i+1<=L.length\/f'=i+1)/\zxv T=done'++rem L f'/\(47:UInt8)∉(L.take (i+1)).drop f' /\
    Ext [] H W2.heap/\Mine W2.heap H.size qx 1 x' (strRow (zez done'))/\done'.any (fun x=>decide (16 < x.length))=false/\done'.length<=f'):=by
   intro W2 x2 h1 h2
   refine⟨x2,i+1,done++[p],rfl,by omega,by omega,.inr rfl,by rw [hsg,hstep];simp,by rw [List.drop_eq_nil_of_le (by simp;omega)];simp,h1,h2,by rw [z6s,hany];simp;omega,by simp;omega⟩
  refine joinP_of (fun (x':Option Addr×Nat×Nat) W2=>Ext [] H W2.heap/\Mine W2.heap H.size qx 1 x' (strRow (if p=[46,46] then (zez done).dropLast else zez done))) ?_ ?_
  ·refine zbv (p:=p=[46,46]) zg6 (fun h=>?_) (fun h=>?_)
   ·rw [if_pos h]
    refine zy (fun hpos=>?_) (fun hneg=>?_)
    ·simp only at hpos
     refine qlw rfl fun W2 hx2 hm2=>?_
     have hxc:x.2.1<=x.2.2:=by
      rcases hmW with⟨rfl,_⟩ | ⟨_,_,_,_,_,_,_,h,_⟩
      ·exact Nat.le_refl _
      ·exact h
     refine zdb ((x.2.1-1:Nat):Int) (by simp only;omega) (by omega) (by omega) ?_
     refine qc (s:=.slc) (if x.2.2=0 then x.1 else x.1.map (·.add (0 * 1)),(x.2.1-1)-0,x.2.2-0) (zbd zj6 zs9 .no (.yes rfl) (Nat.zero_le _) (show x.2.1-1<=x.2.2 by omega)) ?_
     have hcut:=(Mine.cut (hmW.ext hx2 (by simp)) (k:=x.2.1-1) (by omega)).cells
     rw [zdi] at hcut
     refine qhi (xs:=[]) rfl hm2 hx2.1 hcut (by simp;omega) (by simp;omega) ?_
     intro x3 W3 hm3 hx3
     refine⟨(hxW.trans hx2).own hx3 (by intro b hb hlt;simp [jw] at hb;omega),?_⟩
     rw [List.dropLast_eq_take,<-hxl]
     exact hm3.mono hHW
    ·simp only at hneg
     have:zez done=[]:=List.eq_nil_of_length_eq_zero (by omega)
     refine⟨hxW,?_⟩
     rw [this] at hmW |-
     exact hmW
   ·rw [if_neg h];exact⟨hxW,hmW⟩
  rintro x' W2 ⟨hx2,hm2⟩
  have same:zez (done++[p])=(if p=[46,46] then (zez done).dropLast else zez done)->(∃ (x'':Option Addr×Nat×Nat) (f':Nat) (done':Path),((x'.1,x'.2.1,x'.2.2),((i+1:Nat):Int))=(x'',(f':Int))/\1<=f'/\f'<=i+1/\(i+1<=L.length\/f'=i+1)/\zxv T=done'++rem L f'/\(47:UInt8)∉(L.take (i+1)).drop f' /\
    Ext [] H W2.heap/\Mine W2.heap H.size qx 1 x'' (strRow (zez done'))/\done'.any (fun x=>decide (16 < x.length))=false/\done'.length<=f'):=fun h=>endI hx2 (by rw [h];exact hm2)
  have n1:([]:List UInt8)≠[46,46]:=by simp
  have n2:([46]:List UInt8)≠[46,46]:=by simp
  refine zbv (p:=p≠[]) (by rw [Bool.not_eq_true',<-Bool.not_eq_true,zg6]) (fun hp0=>?_) (fun hp0=>?_)
  ·refine zbv (p:=p≠[46]) (by rw [Bool.not_eq_true',<-Bool.not_eq_true,zg6]) (fun hp1=>?_) (fun hp1=>?_)
   ·refine zbv (p:=p≠[46,46]) (by rw [Bool.not_eq_true',<-Bool.not_eq_true,zg6]) (fun hp2=>?_) (fun hp2=>?_)
    ·rw [if_neg hp2] at hm2
     refine z9u p rfl fun a W3 hx3 hC3=>?_
     refine qhi rfl (hm2.ext hx3 (by simp)) (by have:=hx2.1;have:=hx3.1;omega) hC3 rfl (by simp;omega) ?_
     intro x4 W4 hm4 hx4
     refine endI ((hx2.trans hx3).own hx4 (by intro b hb hlt;have:=jo hm2 b hb;omega)) ?_
     rw [zhb,zb5,if_neg (by simp [hp0,hp1]),if_neg hp2]
     exact hm4
    ·have hp2:p=[46,46]:=Classical.not_not.1 hp2
     exact same (by rw [zhb,zb5,if_neg (by simp [hp0,hp1]),if_pos hp2,if_pos hp2])
   ·have hp1:p=[46]:=Classical.not_not.1 hp1
    exact same (by rw [zhb,zb5,if_pos (.inr hp1),if_neg (by rw [hp1];exact n2)])
  ·have hp0:p=[]:=Classical.not_not.1 hp0
   exact same (by rw [zhb,zb5,if_pos (.inl hp0),if_neg (by rw [hp0];exact n1)])
 ·have hie:i=L.length+1:=by simp only [jy] at hgt;omega
  have hfe:f=L.length+1:=by rcases hor with h | h <;> omega
  have hdone:zxv T=done:=by rw [hsg,rem,if_neg (by omega),List.append_nil]
  rw [hdone,if_neg (by simp [hany])] at hP
  refine zy (fun hdeep=>?_) (fun hflat=>?_)
  ·refine fin hxW ?_
   rw [hP,if_pos (by simp only at hdeep;omega)]
  ·rw [if_neg (by simp only at hflat;omega)] at hP
   rw [hP]
   exact⟨x,rfl,hmW,hxW⟩
theorem z6l {w:World}{H:Heap}(L:List UInt8) (hw:w.heap=H) :
  qj P zml #[.string (strOf L)] w fun e w'=>∃ x,e=.returned (zdr x)/\Mine w'.heap H.size qx 1 x (strRow (vg L).1)/\Ext [] H w'.heap:=by
 refine z2g ?_
 unfold zvp
 refine zh (z6v L hw) ?_
 rintro e w' ⟨x,rfl,h⟩
 exact⟨(x,_),rfl,x,rfl,h⟩
open Go.Sort
theorem zds:∀ {p q:Path},zeb p q=0 ↔ p=q
 | [],[]=>by simp [zeb]
 | [],_ :: _=>by simp [zeb]
 | _ :: _,[]=>by simp [zeb]
 | x :: p,y :: q=>by
  simp only [zeb]
  by_cases h:Lib.compareBytes x y=0
  ·rw [if_neg (fun e=>e h),zds,zi3.1 h];simp
  ·rw [if_pos h]
   have:x≠y:=fun e=>h (zi3.2 e)
   simp [h,this]
theorem zjr:∀ {p q:Path},zeb p q=- zeb q p
 | [],[]=>by simp [zeb]
 | [],_ :: _=>by simp [zeb]
 | _ :: _,[]=>by simp [zeb]
 | x :: p,y :: q=>by
  simp only [zeb]
  have hn:=zus (a:=x) (b:=y)
  by_cases h:Lib.compareBytes x y=0
  ·rw [if_neg (fun e=>e h),if_neg (fun e=>e (by omega)),zjr]
  ·rw [if_pos h,if_pos (by omega),hn]
theorem zs4:∀ {p q:Path},zeb p q=-1\/zeb p q=0\/zeb p q=1
 | [],[]=>by simp [zeb]
 | [],_ :: _=>by simp [zeb]
 | _ :: _,[]=>by simp [zeb]
 | x :: p,y :: q=>by
  simp only [zeb]
  split
  ·exact zlo
  ·exact zs4
theorem zlw:∀ {p q r:Path},zeb p q < 0->zeb q r < 0->zeb p r < 0
 | [],[],_,h,_=>by simp [zeb] at h
 | [],_ :: _,[],_,h=>by simp [zeb] at h
 | [],_ :: _,_ :: _,_,_=>by simp [zeb]
 | _ :: _,[],_,h,_=>by simp [zeb] at h
 | _ :: _,_ :: _,[],_,h=>by simp [zeb] at h
 | x :: p,y :: q,z :: r,h1,h2=>by
  simp only [zeb] at h1 h2 |-
  by_cases hxy:Lib.compareBytes x y=0
  ·rw [if_neg (fun e=>e hxy)] at h1
   obtain rfl:=zi3.1 hxy
   by_cases hyz:Lib.compareBytes x z=0
   ·rw [if_neg (fun e=>e hyz)] at h2 |-
    exact zlw h1 h2
   ·rw [if_pos hyz] at h2 |-
    exact h2
  ·rw [if_pos hxy] at h1
   by_cases hyz:Lib.compareBytes y z=0
   ·obtain rfl:=zi3.1 hyz
    rw [if_pos hxy];exact h1
   ·rw [if_pos hyz] at h2
    have h3:=zhu.2 (List.lt_trans (zhu.1 h1) (zhu.1 h2))
    rw [if_pos (by omega)];exact h3
theorem z5q {α:Type}(f:α->Path):SWO (ltOf fun x y=>zeb (f x) (f y)):=by
 have h:∀ x y,ltOf (fun x y=>zeb (f x) (f y)) x y=true ↔ zeb (f x) (f y) < 0:=by
  intro x y;unfold ltOf;exact decide_eq_true_iff
 refine⟨fun x=>?_,fun x y z h1 h2=>?_,fun x y z h1 h2=>?_⟩
 ·rw [<-Bool.not_eq_true,h,zds.2 rfl];omega
 ·rw [h] at *;exact zlw h1 h2
 ·rw [<-Bool.not_eq_true,h] at *
  intro h3
  have hxy:=zs4 (p:=f x) (q:=f y)
  have hyz:=zs4 (p:=f y) (q:=f z)
  have n1:=zjr (p:=f x) (q:=f y)
  have n2:=zjr (p:=f y) (q:=f z)
  rcases Int.lt_or_eq_of_le (show zeb (f y) (f x)<=0 by omega) with h4 | h4
  ·rcases Int.lt_or_eq_of_le (show zeb (f z) (f y)<=0 by omega) with h5 | h5
   ·have h6:=zlw h5 h4
    have n3:=zjr (p:=f x) (q:=f z)
    omega
   ·rw [zds.1 h5] at h3;omega
  ·rw [zds.1 h4] at h2;omega
theorem zn2:∀ {i:Nat}{p q:Path},p.take i=q.take i->i<=p.length->i<=q.length->zeb p q=zeb (p.drop i) (q.drop i)
 | 0,p,q,_,_,_=>by simp
 | i+1,[],q,_,h,_=>by simp at h
 | i+1,x :: p,[],_,_,h=>by simp at h
 | i+1,x :: p,y :: q,h,h1,h2=>by
  simp only [List.take_succ_cons,List.cons.injEq] at h
  obtain⟨rfl,h⟩:=h
  simp only [zeb,List.drop_succ_cons]
  rw [if_neg (fun e=>e (zi3.2 rfl))]
  exact zn2 h (by simpa using h1) (by simpa using h2)
theorem z0n {w:World}{H:Heap}{a b:Option Addr}{n nc m mc:Nat}{p q:Path}(hw:w.heap=H) (hL:Cells H a (strRow p)) (hn:n=p.length) (hM:Cells H b (strRow q)) (hm:m=q.length) (hp:p.length<=1099511627776) :
  qj P zft #[.slice a n nc,.slice b m mc] w fun e w'=>e=.returned (.int .i64 (zeb p q))/\w'=w:=by
 subst hn hm
 refine zui ?_
 unfold zoj
 have h:qj P zao #[.slice a p.length nc,.slice b q.length mc,.func (.func zef) #[] #[]] w fun e w'=>e=.returned (.int .i64 (zeb p q))/\w'=w:=by
  refine zdg ?_
  unfold zbf
  refine zae (fun (s:Int) W=>∃ i:Nat,s=(i:Int)/\i<=p.length/\i<=q.length/\W=w/\p.take i=q.take i) (fun s _=>(p.length-s).toNat) ⟨0,rfl,Nat.zero_le _,Nat.zero_le _,rfl,by simp⟩ ?_
  rintro _ w ⟨i,rfl,hi,hj,rfl,hs⟩
  have hd:=zn2 hs hi hj
  refine zy (fun hlt=>?_) (fun hge=>?_)
  ·have hil:i < p.length:=by omega
   refine zsv hw hL rfl hil rfl ?_
   refine zy (fun hge=>?_) (fun hlt2=>?_)
   ·have:i=q.length:=by omega
    rw [List.drop_eq_getElem_cons hil,List.drop_eq_nil_of_le (show q.length<=i by omega)] at hd
    exact⟨by rw [hd];rfl,rfl⟩
   ·have hjl:i < q.length:=by omega
    refine zsv hw hM rfl hjl rfl ?_
    refine zon ((qev _ _).mono ?_)
    rintro e w' ⟨rfl,rfl⟩
    refine⟨_,rfl,?_⟩
    rw [List.drop_eq_getElem_cons hil,List.drop_eq_getElem_cons hjl,zeb] at hd
    refine zbr (fun hne=>?_) (fun heq=>?_)
    ·rw [if_pos hne] at hd
     exact⟨by rw [hd],rfl⟩
    ·refine jr ((i+1:Nat):Int) (by omega) (by omega) (by omega) ?_
     exact⟨⟨i+1,rfl,by omega,by omega,rfl,zqx hil hjl hs (zi3.1 heq)⟩,by omega⟩
  ·have:i=p.length:=by omega
   rw [List.drop_eq_nil_of_le (show p.length<=i by omega)] at hd
   refine zy (fun h=>?_) (fun h=>?_)
   ·rw [List.drop_eq_getElem_cons (show i < q.length by omega)] at hd
    exact⟨by rw [hd];rfl,rfl⟩
   ·rw [List.drop_eq_nil_of_le (show q.length<=i by omega)] at hd
    exact⟨by rw [hd];rfl,rfl⟩
 refine zh h ?_
 rintro e w' ⟨rfl,rfl⟩
 exact⟨_,rfl,rfl,rfl⟩
theorem zyq {w:World}{H:Heap}{a b:Option Addr}{n nc m mc:Nat}{p q:Path}(hw:w.heap=H) (hL:Cells H a (strRow p)) (hn:n=p.length) (hM:Cells H b (strRow q)) (hm:m=q.length) (hp:p.length<=1099511627776) :
  qj P zjt #[.slice a n nc,.slice b m mc] w fun e w'=>e=.returned (.int .i64 (zeb p q))/\w'.heap=H:=by
 subst hn hm
 refine zxj ?_
 unfold zqs
 refine jf ?_
 refine joinP_of (fun _ W=>W.heap=H/\∃ i:Nat,i<=p.length/\i<=q.length/\(i=p.length\/i=q.length)/\p.take i=q.take i) ?_ ?_
 ·refine zae (fun (s:Int) W=>∃ i:Nat,s=(i:Int)/\i<=p.length/\i<=q.length/\W.heap=H/\p.take i=q.take i) (fun s _=>(p.length-s).toNat) ⟨0,rfl,Nat.zero_le _,Nat.zero_le _,hw,by simp⟩ ?_
  rintro _ W ⟨i,rfl,hi,hj,hW,hs⟩
  have hd:=zn2 hs hi hj
  refine jf ?_
  refine zy (fun hlt=>?_) (fun hge=>⟨hW,i,hi,hj,.inl (by omega),hs⟩)
  refine zy (fun hlt2=>?_) (fun hge=>⟨hW,i,hi,hj,.inr (by omega),hs⟩)
  have hil:i < p.length:=by omega
  have hjl:i < q.length:=by omega
  rw [List.drop_eq_getElem_cons hil,List.drop_eq_getElem_cons hjl,zeb] at hd
  have hr:=zlo (a:=p[i]) (b:=q[i])
  refine vw hW fun W1 hW1=>?_
  refine z6g hW1 hL rfl hil rfl hM rfl hjl rfl ?_
  rw [zbi,zbi,bytesLess_eq]
  refine zy (fun h=>?_) (fun h=>?_)
  ·have h2:=zhu.2 h
   rw [if_pos (by omega)] at hd
   exact⟨by rw [hd];congr 2;omega,hW1⟩
  have hnl:¬Lib.compareBytes p[i] q[i] < 0:=fun h2=>h (zhu.1 h2)
  refine vw hW1 fun W2 hW2=>?_
  refine z6g hW2 hL rfl hil rfl hM rfl hjl rfl ?_
  rw [zbi,zbi,bytesLess_eq]
  by_cases e:p[i]=q[i]
  ·refine qp (by simp [e]) ?_
   refine jr ((i+1:Nat):Int) (by omega) (by omega) (by omega) ?_
   exact⟨⟨i+1,rfl,by omega,by omega,hW2,zqx hil hjl hs e⟩,by omega⟩
  ·refine jh (by simp [e];exact fun h2=>absurd h2 h) ?_
   have h2:Lib.compareBytes p[i] q[i]≠0:=fun h2=>e (zi3.1 h2)
   rw [if_pos h2] at hd
   exact⟨by rw [hd];congr 2;omega,hW2⟩
 ·rintro _ W ⟨hW,i,hi,hj,hor,hs⟩
  have hd:=zn2 hs hi hj
  refine zy (fun h=>?_) (fun h=>?_)
  ·rw [List.drop_eq_nil_of_le (show p.length<=i by omega),List.drop_eq_getElem_cons (show i < q.length by omega)] at hd
   exact⟨by rw [hd];rfl,hW⟩
  ·refine zy (fun h2=>?_) (fun h2=>?_)
   ·rw [List.drop_eq_nil_of_le (show q.length<=i by omega),List.drop_eq_getElem_cons (show i < p.length by omega)] at hd
    exact⟨by rw [hd];rfl,hW⟩
   ·rw [List.drop_eq_nil_of_le (show q.length<=i by omega),List.drop_eq_nil_of_le (show p.length<=i by omega)] at hd
    exact⟨by rw [hd];rfl,hW⟩
theorem plain47:ze4 47=false:=by decide
theorem zej {L:List UInt8}:zei L=true ↔ (L≠[]/\L.length<=16/\L≠[46]/\L≠[46,46])/\∀ b∈L,ze4 b=true:=by
 unfold zei
 rw [Bool.and_eq_true,decide_eq_true_iff,List.all_eq_true]
theorem zvk {L:List UInt8}(h:zei L=true):(47:UInt8)∉L:=by
 intro hm
 have:=(zej.1 h).2 47 hm
 rw [plain47] at this;cases this
def okP (p:Path):Prop:=(∀ L∈p,zei L=true)/\p.length<=8
theorem zum {p:Path}:zrh p=0 ↔ okP p:=by
 unfold zrh okP
 by_cases h:p.all zei=true
 ·rw [if_pos h]
  rw [List.all_eq_true] at h
  by_cases h2:8 < p.length
  ·rw [if_pos h2]
   constructor
   ·intro h3;omega
   ·intro h3;omega
  ·rw [if_neg h2]
   exact⟨fun _=>⟨h,by omega⟩,fun _=>rfl⟩
 ·rw [if_neg h]
  rw [List.all_eq_true] at h
  constructor
  ·intro h3;omega
  ·intro h3;exact absurd h3.1 h
theorem okP.take {p:Path}(h:okP p) (i:Nat):okP (p.take i):=⟨fun L hL=>h.1 L (List.mem_of_mem_take hL),by have:=h.2;simp;omega⟩
theorem okP.tlen {p:Path}(h:okP p):tlen p<=16 * p.length:=by
 obtain⟨h,h8⟩:=h
 clear h8
 induction p with
 | nil=>simp [Go.Proofs.YthaaekcaaecdeaaGreatDoor.tlen]
 | cons x p ih=>
  have h1:=(zej.1 (h x (by simp))).1.2.1
  have h2:=ih fun L hL=>h L (by simp [hL])
  simp only [Go.Proofs.YthaaekcaaecdeaaGreatDoor.tlen,List.map_cons,List.sum_cons,List.length_cons] at h2 |-
  omega
theorem okP.small {p:Path}(h:okP p):Go.Proofs.YthaaekcaaecdeaaGreatDoor.tlen p+p.length<=136:=by have:=h.tlen;have:=h.2;omega
theorem okP.fit {p:Path}(h:okP p):Fit p:=fun L hL=>by have:=(zej.1 (h.1 L hL)).1.2.1;omega
theorem zvd:∀ {p:Path},p≠[]->(∀ L∈p,zei L=true)->pieces (joinP p)=p
 | [],h,_=>absurd rfl h
 | [x],_,h=>by
  have hx:=h x (by simp)
  have:joinP [x]=x:=by simp [joinP]
  rw [this,zmd (zvk hx) (zej.1 hx).1.1]
 | x :: y :: p,_,h=>by
  have hx:=h x (by simp)
  have e:joinP (x :: y :: p)=x++47 :: joinP (y :: p):=by simp [joinP]
  rw [e,zjw (zvk hx),zvd (by simp) fun L hL=>h L (List.mem_cons_of_mem _ hL)]
theorem zyy:∀ {p acc:Path},(∀ L∈p,zei L=true)->p.foldl zb5 acc=acc++p
 | [],acc,_=>by simp
 | x :: p,acc,h=>by
  obtain⟨⟨h1,h2,h3,h4⟩,_⟩:=zej.1 (h x (by simp))
  rw [List.foldl_cons]
  have e:zb5 acc x=acc++[x]:=by rw [zb5,if_neg (by simp [h1,h3]),if_neg h4]
  rw [e,zyy fun L hL=>h L (List.mem_cons_of_mem _ hL)];simp
theorem z7n:∀ {p:Path},∀ b∈joinP p,b=47\/∃ L∈p,b∈L
 | [],b,h=>by simp [joinP] at h
 | x :: p,b,h=>by
  simp only [joinP,List.mem_append,List.mem_flatMap,List.mem_cons] at h
  rcases h with h | ⟨L,hL,h | h⟩
  ·exact .inr ⟨x,by simp,h⟩
  ·exact .inl h
  ·exact .inr ⟨L,by simp [hL],h⟩
theorem zf1 {p:Path}(h:okP p):vg (x9 p)=(p,0):=by
 have hlen:(x9 p).length<=137:=by
  have h1:=h.small
  unfold x9
  cases p with
  | nil=>simp [joinP]
  | cons x p=>
   simp only [List.length_cons,zwq]
   simp only [List.length_cons] at h1
   omega
 have hok:zqz (x9 p)=true:=by
  unfold zqz x9
  rw [List.all_eq_true]
  intro b hb
  rcases List.mem_cons.1 hb with rfl | hb
  ·simp
  ·rcases z7n b hb with rfl | ⟨L,hL,hm⟩
   ·simp
   ·rw [(zej.1 (h.1 L hL)).2 b hm];simp
 have hpc:pieces (x9 p)=[] :: p:=by
  unfold x9
  have h0:pieces (47 :: joinP p)=[] :: pieces (joinP p):=zjw (p:=[]) (by simp)
  rw [h0]
  by_cases hp:p=[]
  ·subst hp;rfl
  ·rw [zvd hp h.1]
 have hwalk:zez (pieces (x9 p))=p:=by
  rw [hpc]
  show (p.foldl zb5 (zb5 [] []))=p
  rw [zyy h.1];simp [zb5]
 have hany:(pieces (x9 p)).any (fun x=>decide (16 < x.length))=false:=by
  rw [hpc,List.any_eq_false]
  intro x hx
  rcases List.mem_cons.1 hx with rfl | hx
  ·simp
  ·have:=(zej.1 (h.1 x hx)).1.2.1
   simp;omega
 have h8:=h.2
 unfold vg
 rw [if_neg (by omega),if_neg (by simp [x9]),if_neg (by simp [hok]),hany,hwalk,if_neg (by simp),if_neg (by omega)]
theorem zkn {p q:Path}(hp:okP p) (hq:okP q) (h:x9 p=x9 q):p=q:=by
 have:=zf1 hp
 rw [h,zf1 hq] at this
 simpa using this.symm
theorem zl0:∀ {L x:List UInt8},x∈pieces L->(47:UInt8)∉x/\∀ b∈x,b∈L
 | [],x,h=>by simp [pieces] at h
 | c :: L,x,h=>by
  rw [pieces] at h
  by_cases hc:c=47
  ·rw [if_pos hc] at h
   rcases List.mem_cons.1 h with rfl | h
   ·simp
   ·have:=zl0 h
    exact⟨this.1,fun b hb=>List.mem_cons_of_mem _ (this.2 b hb)⟩
  ·rw [if_neg hc] at h
   cases hps:pieces L with
   | nil=>
    rw [hps] at h
    simp only [List.mem_singleton] at h
    subst h
    exact⟨by simp [Ne.symm hc],by simp⟩
   | cons p ps=>
    rw [hps] at h
    have hp:=zl0 (L:=L) (x:=p) (by rw [hps];simp)
    simp only at h
    split at h
    ·rcases List.mem_cons.1 h with rfl | h
     ·exact⟨by simp [Ne.symm hc],by simp⟩
     ·have:=zl0 (L:=L) (x:=x) (by rw [hps];simp [h])
      exact⟨this.1,fun b hb=>List.mem_cons_of_mem _ (this.2 b hb)⟩
    ·rcases List.mem_cons.1 h with rfl | h
     ·refine⟨by simp [Ne.symm hc,hp.1],fun b hb=>?_⟩
      rcases List.mem_cons.1 hb with rfl | hb
      ·simp
      ·exact List.mem_cons_of_mem _ (hp.2 b hb)
     ·have:=zl0 (L:=L) (x:=x) (by rw [hps];simp [h])
      exact⟨this.1,fun b hb=>List.mem_cons_of_mem _ (this.2 b hb)⟩
theorem z6f:∀ {ps acc:Path}{x:List UInt8},x∈ps.foldl zb5 acc->x∈acc\/(x∈ps/\x≠[]/\x≠[46]/\x≠[46,46])
 | [],acc,x,h=>.inl h
 | y :: ps,acc,x,h=>by
  rw [List.foldl_cons] at h
  rcases z6f h with h | ⟨h1,h2⟩
  ·unfold zb5 at h
   split at h
   ·exact .inl h
   ·rename_i h1
    split at h
    ·exact .inl ((List.dropLast_sublist acc).subset h)
    ·rename_i h2
     rcases List.mem_append.1 h with h | h
     ·exact .inl h
     ·simp only [List.mem_singleton] at h
      subst h
      simp only [not_or] at h1
      exact .inr ⟨by simp,h1.1,h1.2,h2⟩
  ·exact .inr ⟨List.mem_cons_of_mem _ h1,h2⟩
theorem zmu (L:List UInt8):okP (vg L).1:=by
 have nil:okP []:=⟨by simp,by simp⟩
 unfold vg
 split
 ·exact nil
 split
 ·exact nil
 split
 ·exact nil
 rename_i hok
 split
 ·exact nil
 rename_i hany
 split
 ·exact nil
 rename_i hdeep
 refine⟨fun x hx=>?_,by simp only;omega⟩
 rcases z6f hx with h | ⟨h1,h2,h3,h4⟩
 ·cases h
 ·have hm:=zl0 h1
  rw [zej]
  refine⟨⟨h2,?_,h3,h4⟩,fun b hb=>?_⟩
  ·simp only [Bool.not_eq_true,List.any_eq_false] at hany
   have:=hany x h1
   simp at this;omega
  ·have hb2:=hm.2 b hb
   simp only [Bool.not_eq_false] at hok
   have h5:=List.all_eq_true.1 hok b hb2
   have h6:b≠47:=fun e=>hm.1 (by rw [<-e];exact hb)
   simpa [h6] using h5
theorem zis {vs:List Value}:(Value.cells (.agg vs.toArray):Array Value)=vs.toArray:=rfl
theorem zrz {T E:TypeId}{sz:Nat}{H:Heap}{a:Option Addr}{l c:Nat}{vs:List Value}{i:Nat}{n:Int}(hu:P.underlying T=some (.slice E)) (hs:(P.info? E).map (·.size)=some sz) (hL:Cells H a vs) (hc:l<=c) (hi:i<=l) (hn:n=(i:Int)) :
  ∃ a',(∀ w,(Instr.sliceAt T (.slice a l c) none (some (.int .i64 n)) none).run P w=.ok (.slice a' i c) w)/\Cells H a' (vs.take (i * sz)):=by
 refine⟨_,fun w=>zbd (l:=0) (h:=i) hu hs .no (.yes hn) (Nat.zero_le _) (by omega),?_⟩
 by_cases h:c=0
 ·rw [if_pos h];exact hL.take _
 ·rw [if_neg h,Nat.zero_mul]
  have:=hL.part 0 vs.length (by omega)
  simp only [List.drop_zero,List.take_length] at this
  exact this.take _
theorem qcu {T E:TypeId}{sz:Nat}{H:Heap}{a:Option Addr}{l c:Nat}{vs:List Value}{i:Nat}{n:Int}(hu:P.underlying T=some (.slice E)) (hs:(P.info? E).map (·.size)=some sz) (hL:Cells H a vs) (hv:vs.length=l * sz) (hc:l<=c) (hi:i<=l) (hn:n=(i:Int)) :
  ∃ a',(∀ w,(Instr.sliceAt T (.slice a l c) (some (.int .i64 n)) none none).run P w=.ok (.slice a' (l-i) (c-i)) w)/\Cells H a' (vs.drop (i * sz)):=by
 refine⟨_,fun w=>zbd (l:=i) (h:=l) hu hs (.yes hn) .no (by omega) (by omega),?_⟩
 by_cases h:c=i
 ·left
  rw [List.drop_eq_nil_of_le]
  rw [hv,show l=i by omega];exact Nat.le_refl _
 ·rw [if_neg h]
  have h1:i * sz<=l * sz:=Nat.mul_le_mul_right _ hi
  have:=hL.part (i * sz) (vs.length-i * sz) (by omega)
  rwa [List.take_of_length_le (by simp)] at this
theorem zw1 {κ ν:Type} [DecidableEq κ] {kt et mt:TypeId}{ok:κ->Prop}{enc:κ->Value}{ev:ν->Value}{w:World}{H:Heap}{m c:Nat}{l:ML κ ν}(K:KeyOk P kt κ ok enc) (hu:P.underlying mt=some (.map kt et)){z:Value}(hz:∀ w,(zeroValue et).run P w=.ok z w) (hw:w.heap=H) (hm:H[m]?=some (.map (ents enc (vl ev l)) c)) (hl:MOk ok l c){k:κ}(hk:ok k) :
  (Instr.lookup mt (.map (some m)) (enc k) false).run P w=.ok (((zc6 l k).map ev).getD z) w:=by
 have hf:=K.find w k (ents enc (vl ev l)).toList (vl ev l) hk hl.vl.fine (by simp [ents])
 have hg:=zwn (l:=vl ev l) (k:=k)
 generalize (((vl ev l).findIdx? (fun x=>x.1==k)).bind fun i=>((vl ev l)[i]?).map fun x=>(i,x.2.1))=r at hf hg
 simp only [Instr.lookup,Sem.run_bind,xu hu,Result.andThen_ok,z5d hw hm (by intros;simp),Sem.run_pure,K.chk w k _ hk,hf]
 rw [<-zst,<-hg]
 cases r with
 | none=>simp [hz]
 | some x=>simp
theorem z7a {cs:Array Value}{t:TypeId}{o:Nat}{v:Value}{w:World}(ha:(isAgg t).run P w=.ok false w) (hc:cs[o]?=some v):(part t cs o).run P w=.ok v w:=by
 simp [part,ha,hc]
theorem qkp {a b:List UInt8}:(a==b)=decide (a=b):=by rw [Bool.eq_iff_iff];simp
structure Fil where
 path:List UInt8
 dir:Bool
 data:List UInt8
deriving DecidableEq,Inhabited
def zb6 (f:Fil):List Value:=[.string (strOf f.path),.bool f.dir,.string (strOf f.data)]
theorem zdz (f:Fil):(zb6 f).length=3:=rfl
theorem zr9 {f:Fil}:zbo (zb6 f):=by
 intro v hv
 simp only [zb6,List.mem_cons,List.not_mem_nil,or_false] at hv
 rcases hv with rfl | rfl | rfl <;> rfl
def nm (f:Fil):Path:=(vg f.path).1
theorem zk3 (f:Fil):okP (nm f):=zmu f.path
def clean (f:Fil):Fil:=⟨x9 (nm f),f.dir,f.data⟩
theorem zzg {f:Fil}:nm (clean f)=nm f:=by unfold nm clean;rw [zf1 (zk3 f)];rfl
theorem zcF:(zc P zn).size=3:=by kernel_rfl
theorem szF:P.cellsOf zn=3:=by kernel_rfl
theorem qhj {w:World}{H:Heap}(f:Fil) (hw:w.heap=H){K:Nat->World->Prop}(hK:∀ w',w'.heap=H.push (.cells (zb6 f).toArray zn (0,0))->K H.size w') :
  zat (zc P zn) zn w fun b w1=>zah P (storeVar zn (⟨b,0,none⟩:Addr) (.agg (zb6 f).toArray)) w1 fun w2=>K b w2:=
 zxp (v:=.agg (zb6 f).toArray) szF zcF (by simp [Value.cells,zb6]) (by simpa [Value.cells] using zr9) hw hK
theorem uFs:P.underlying qm=some (.slice zn):=by kernel_rfl
theorem ql3:(P.info? zn).map (·.size)=some 3:=by kernel_rfl
theorem EFi:Elem P zn 3 40:=zii (z:=.agg #[.string .empty,.bool false,.string .empty]) (by kernel_rfl) rfl
theorem z9b (S:List Fil):(S.flatMap zb6).length=S.length * 3:=by rw [xg zb6 zdz]
theorem qkz {S:List Fil}:zbo (S.flatMap zb6):=by
 intro v hv
 obtain⟨i,_,hi⟩:=List.mem_flatMap.1 hv
 exact zr9 v hi
theorem qje {S:List Fil}{i:Nat}(hi:i<=S.length):(S.flatMap zb6).take (i * 3)=(S.take i).flatMap zb6:=by
 have h1:S.flatMap zb6=(S.take i).flatMap zb6++(S.drop i).flatMap zb6:=by rw [<-List.flatMap_append,List.take_append_drop]
 have h2:((S.take i).flatMap zb6).length=i * 3:=by rw [z9b,List.length_take,Nat.min_eq_left hi]
 rw [h1,List.take_left' h2]
theorem qhw {S:List Fil}{i:Nat}(hi:i<=S.length):(S.flatMap zb6).drop (i * 3)=(S.drop i).flatMap zb6:=by
 have h1:S.flatMap zb6=(S.take i).flatMap zb6++(S.drop i).flatMap zb6:=by rw [<-List.flatMap_append,List.take_append_drop]
 have h2:((S.take i).flatMap zb6).length=i * 3:=by rw [z9b,List.length_take,Nat.min_eq_left hi]
 rw [h1,List.drop_left' h2]
theorem ql9 {w:World}{H:Heap}(hw:w.heap=H){K:(Option Addr×Nat×Nat)->World->Prop}(hK:∀ w',Ext [] H w'.heap->Mine w'.heap H.size zn 3 (some ⟨H.size,0,none⟩,0,0) (([]:List Fil).flatMap zb6)->K (some ⟨H.size,0,none⟩,0,0) w'):za2 P (Instr.buildSlice qm 0 #[]) .slc w K:=by
 refine zaf (s:=.slc) (some ⟨H.size,0,none⟩,0,0) { w with heap:=H.push (.cells #[] zn) } (by rw [<-hw];kernel_rfl) ?_
 exact hK _ (.push _) (.inr ⟨H.size,#[],rfl,Nat.le_refl _,zk,rfl,rfl,Nat.le_refl _,rfl⟩)
theorem qj8 {w:World}{H:Heap}{B:Nat}{x:Option Addr×Nat×Nat}{a:Option Addr}{l c:Nat}{xs ys:List Fil}(hw:w.heap=H) (hx:Mine H B zn 3 x (xs.flatMap zb6)) (hB:B<=H.size) (hL:Cells H a (ys.flatMap zb6)) (hl:l=ys.length) (hlen:xs.length+ys.length<=1099511627){K:(Option Addr×Nat×Nat)->World->Prop}
  (hK:∀ x' w',Mine w'.heap B zn 3 x' ((xs++ys).flatMap zb6)->Ext (jw x) H w'.heap->K x' w'):za2 P (Builtin.append_ #[qm,qm] qm #[.slice x.1 x.2.1 x.2.2,.slice a l c]) .slc w K:=by
 have hxl:x.2.1=xs.length:=by have:=hx.len;rw [z9b] at this;omega
 refine zbx EFi (by omega) uFs (zar uFs) hw hx hB (Src.slc hw hL (by rw [z9b,hl])) qkz (by omega) ?_
 intro x' w' hm hl' hx' hs
 refine hK x' w' ?_ hx'
 rw [List.flatMap_append];exact hm
theorem qlt {w:World}{H:Heap}(f:Fil) (hw:w.heap=H){K:(Option Addr×Nat×Nat)->World->Prop}(hK:∀ a w',Ext [] H w'.heap->Cells w'.heap a ([f].flatMap zb6)->K (a,1,1) w'):za2 P (Instr.buildSlice qm 1 #[(0,.agg (zb6 f).toArray)]) .slc w K:=by
 refine zaf (s:=.slc) (some ⟨w.heap.size,0,none⟩,1,1) _ (zee EFi uFs (v:=.agg (zb6 f).toArray) (by simp [Value.cells,zdz]) (by omega) (by omega)) ?_
 exact hK _ _ (by rw [<-hw];exact .push _) (.inr ⟨w.heap.size,0,_,_,_,rfl,zk,by simp [Value.cells,zb6],by simp [Value.cells,zb6]⟩)
theorem qbi {w:World}{H:Heap}{B:Nat}{x:Option Addr×Nat×Nat}{T:List Fil}{i:Fil}(hw:w.heap=H) (hm:Mine H B zn 3 x (T.flatMap zb6)) (hBs:B<=H.size) (hlen:T.length<=1073741824){K:(Option Addr×Nat×Nat)->World->Prop}
  (hK:∀ x' w',Mine w'.heap B zn 3 x' ((T++[i]).flatMap zb6)->Ext (jw x) H w'.heap->(∀ c∈jw x',c∈jw x\/H.size<=c)->K x' w') :
  za2 P (Instr.buildSlice qm 1 #[(0,.agg (zb6 i).toArray)]) .slc w fun (t27:(Option Addr×Nat×Nat)) w_13=>
  za2 P (Builtin.append_ #[qm,qm] qm #[(Value.slice x.1 x.2.1 x.2.2),(Value.slice t27.1 t27.2.1 t27.2.2)]) .slc w_13 K:=by
 have hlx:x.2.1=T.length:=by have:=hm.len;rw [z9b] at this;omega
 refine zaf (s:=.slc) (some ⟨w.heap.size,0,none⟩,1,1) _ (zee EFi uFs (v:=.agg (zb6 i).toArray) (by simp [Value.cells,zdz]) (by omega) (by omega)) ?_
 subst hw
 have hxp:Ext [] w.heap (w.heap.push (.cells (Value.agg (zb6 i).toArray).cells zn)):=.push _
 refine zbx (bts:=40) (n:=1) (us:=zb6 i) (H:=w.heap.push (.cells (Value.agg (zb6 i).toArray).cells zn)) EFi (by omega) uFs (zar uFs) rfl (hm.ext hxp (by simp)) (by simp;omega)
  (Src.slc rfl (.inr ⟨w.heap.size,0,_,_,_,rfl,zk,by simp [zis],by simp [zis,List.take_of_length_le]⟩) (by rw [zdz])) zr9 (by omega) ?_
 intro x' w4 hm4 hl4 hx4 hs4
 refine hK x' w4 (by rw [List.flatMap_append,List.flatMap_singleton];exact hm4) ((hxp.mono (by simp)).trans hx4) (fun c hc=>?_)
 rcases hs4 c hc with h | h
 ·exact .inl h
 ·right;have:=hxp.1;omega
theorem zzc {w:World}{H:Heap}{B:Nat}{x:Option Addr×Nat×Nat}{p:Path}(hw:w.heap=H) (hm:Mine H B qx 1 x (strRow p)) (hp:p.length<=1099511627776) :
  qj P za8 #[.slice x.1 x.2.1 x.2.2] w fun e w'=>∃ x',e=.returned (zdr x')/\Mine w'.heap H.size qx 1 x' (strRow p)/\Ext [] H w'.heap:=by
 have hl:x.2.1=p.length:=by have:=hm.len;simp at this;omega
 have hC:=hm.cells
 refine zh9 ?_
 unfold zep
 by_cases h:x.1.isNone=true
 ·have hx0:x.1=none:=by simpa using h
  refine jh h ?_
  rcases hm with⟨_,h2⟩ | ⟨_,_,h2,_⟩
  ·exact⟨(none,0,0),rfl,.inl ⟨rfl,h2⟩,by rw [hw];exact .refl _ _⟩
  ·rw [hx0] at h2;cases h2
 ·refine qp (by cases hh:x.1 with
   | none=>rw [hh] at h;exact absurd rfl h
   | some v=>rfl) ?_
  refine qlw hw fun w1 hx1 hm1=>?_
  refine qhi (xs:=[]) (ys:=p) rfl hm1 hx1.1 (hC.ext hx1 (by simp)) hl (by simp;omega) fun x' w2 hm2 hx2=>?_
  exact⟨x',rfl,hm2,hx1.own hx2 (fun c hc hlt=>by simp [jw] at hc;omega)⟩
theorem qf1 {w:World}{H:Heap}{a b:Option Addr}{n nc m mc:Nat}{p q:Path}(hw:w.heap=H) (hL:Cells H a (strRow p)) (hn:n=p.length) (hM:Cells H b (strRow q)) (hm:m=q.length) (hp:p.length<=9223372036854775807) :
  qj P zcz #[.slice a n nc,.slice b m mc] w fun e w'=>e=.returned (.bool (decide (p=q)))/\w'.heap=H:=by
 subst hn hm
 refine zic ?_
 unfold zek
 refine zbr (fun h=>⟨by rw [decide_eq_false];rintro rfl;exact h rfl,hw⟩) (fun hl=>?_)
 have hl:p.length=q.length:=by omega
 refine zae (fun (s:Int) W=>∃ i:Nat,s=(i:Int)/\i<=p.length/\W.heap=H/\p.take i=q.take i) (fun s _=>(p.length-s).toNat) ⟨0,rfl,Nat.zero_le _,hw,by simp⟩ ?_
 rintro _ W ⟨i,rfl,hi,hW,hs⟩
 refine zy (fun hlt=>?_) (fun hge=>?_)
 ·have hil:i < p.length:=by omega
  refine vw hW fun W1 hW1=>?_
  refine z6g hW1 hL rfl hil rfl hM rfl (by omega) rfl ?_
  by_cases e:p[i]=q[i]
  ·refine qp (by simp [e]) ?_
   refine jr ((i+1:Nat):Int) (by omega) (by omega) (by omega) ?_
   exact⟨⟨i+1,rfl,by omega,hW1,zqx hil (by omega) hs e⟩,by omega⟩
  ·refine jh (by simp [e]) ?_
   exact⟨by rw [decide_eq_false (qdg hil (by omega) e)],hW1⟩
 ·have:i=p.length:=by omega
  subst this
  rw [List.take_length,hl,List.take_length] at hs
  exact⟨by rw [decide_eq_true hs],hW⟩
theorem z6z {w:World}{H:Heap}{a b:Option Addr}{n nc m mc:Nat}{p q:Path}(hw:w.heap=H) (hL:Cells H a (strRow p)) (hn:n=p.length) (hnc:n<=nc) (hM:Cells H b (strRow q)) (hm:m=q.length) (hp:p.length<=9223372036854775807) (hq:q.length<=9223372036854775807) :
  qj P zio #[.slice a n nc,.slice b m mc] w fun e w'=>e=.returned (.bool (zbq p q))/\w'.heap=H:=by
 refine zwo ?_
 unfold zph
 refine zy (fun h=>?_) (fun h=>⟨by congr 2;refine (Bool.eq_false_iff.2 ?_).symm;intro h2;have:=(within_iff.1 h2).1;omega,hw⟩)
 refine qc (s:=.slc) (if nc=0 then a else a.map (·.add (0 * 1)),m-0,nc-0) (zbd zj6 zs9 .no (.yes rfl) (Nat.zero_le _) (by omega)) ?_
 have hC:Cells H (if nc=0 then a else a.map (·.add (0 * 1))) (strRow (p.take m)):=by
  have:=(hL.drop 0 nc (by simp;omega)).take m
  rwa [List.drop_zero,zdi] at this
 refine zh (qf1 hw hC (by simp;omega) hM hm (by simp;omega)) ?_
 rintro e w' ⟨rfl,hw'⟩
 refine⟨_,rfl,?_⟩
 refine⟨?_,hw'⟩
 congr 2
 rw [Bool.eq_iff_iff,decide_eq_true_iff,within_iff,hm]
 exact⟨fun h=>⟨by omega,h⟩,fun h=>h.2⟩
theorem jm {w:World}{H:Heap}(L:List UInt8) (hw:w.heap=H) :
  qj P zhf #[.string (strOf L)] w fun e w'=>∃ x,e=.returned (zdr x)/\Mine w'.heap H.size qx 1 x (strRow (vg L).1)/\Ext [] H w'.heap:=by
 refine zxh ?_
 unfold zq4
 refine zh (zma L hw) ?_
 rintro e w' ⟨x,rfl,h⟩
 exact⟨(x,_),rfl,x,rfl,h⟩
structure Ino where
 names:Path
 kind:Int
 opq:Bool
 data:List UInt8
deriving DecidableEq,Inhabited
def raw (t:List UInt8) (k:Int) (o:Bool) (d:List UInt8):List Value:=[.string (strOf t),.int .i64 k,.bool o,.string (strOf d)]
def encI (i:Ino):List Value:=raw (x9 i.names) i.kind i.opq i.data
def qe2 (i:Ino):Value:=.agg (encI i).toArray
def qkf (t:List UInt8) (k:Int) (o:Bool) (d:List UInt8):Value:=.agg (raw t k o d).toArray
def keyS (L:List UInt8):Value:=.string (strOf L)
theorem zed (i:Ino):(encI i).length=4:=rfl
theorem zvz {t d:List UInt8}{k:Int}{o:Bool}:zbo (raw t k o d):=by
 intro v hv
 simp only [raw,List.mem_cons,List.not_mem_nil,or_false] at hv
 rcases hv with rfl | rfl | rfl | rfl <;> rfl
theorem zox {i:Ino}:zbo (encI i):=zvz
structure Good (L:List Ino):Prop where
 ok:∀ i∈L,okP i.names/\i.names≠[]
 rise:L.Pairwise fun a b=>zeb a.names b.names < 0
 small:∀ i∈L,i.data.length<=1024
 many:L.length<=1024
def tot (L:List Ino):Nat:=(L.map fun i=>i.data.length).sum
abbrev IM:=ML (List UInt8) Ino
structure St (M:IM) (L:List Ino):Prop where
 perm:(M.map (·.2.1)).Perm L
 key:∀ x∈M,x.1=x9 x.2.1.names
 good:Good L
def Up (H:Heap) (p m:Nat) (nodes bytes:Int) (L:List Ino):Prop:=∃ M c,H[p]?=some (.cells #[.int .i64 nodes,.int .i64 bytes,.int .i64 (tot L:Int),.map (some m)] zbl (0,0)) /\
 H[m]?=some (.map (ents keyS (vl qe2 M)) c)/\MOk (fun _=>True) M c/\St M L
theorem Up.ext {F:List Nat}{H H':Heap}{p m:Nat}{n b:Int}{L:List Ino}(h:Up H p m n b L) (hx:Ext F H H') (hp:p∉F) (hm:m∉F):Up H' p m n b L:=by
 obtain⟨M,c,h1,h2,h3⟩:=h
 exact⟨M,c,hx.get h1 hp,hx.get h2 hm,h3⟩
theorem z0j:KeyOk P qx (List UInt8) (fun _=>True) keyS:=KeyOk.str zzf
theorem uM:P.underlying je=some (.map qx zl):=by kernel_rfl
def zI:Value:=qkf [] 0 false []
theorem zMI (w:World):(zeroValue zl).run P w=.ok zI w:=by kernel_rfl
theorem zcI:zc P zl=(raw [] 0 false []).toArray:=by kernel_rfl
theorem szI:P.cellsOf zl=4:=by kernel_rfl
theorem bI (w:World):(Instr.build zl #[]).run P w=.ok zI w:=by kernel_rfl
theorem bU (n b:Int) (m:Option Nat) (w:World):(Instr.build zbl #[(0,.int .i64 n),(1,.int .i64 b),(3,.map m)]).run P w=.ok (.agg #[.int .i64 n,.int .i64 b,.int .i64 0,.map m]) w:=by kernel_rfl
theorem uI:P.underlying zdd=some (.slice zl):=by kernel_rfl
theorem EI:Elem P zl 4 48:=zii (z:=qkf [] 0 false []) (by kernel_rfl) rfl
theorem zki {H:Heap}{B:Nat}{T:TypeId}{sz:Nat}{x:Option Addr×Nat×Nat}{vs:List Value}(h:Mine H B T sz x vs):∀ b∈jw x,b < H.size/\∃ c,H[b]?=some (.cells c T (0,0)):=by
 intro b hb
 rcases h with⟨rfl,_⟩ | ⟨b2,c,hx,_,hb2,_⟩
 ·simp [jw] at hb
 ·simp only [jw,hx,List.mem_singleton] at hb
  subst hb;exact⟨lt_of_get hb2,c,hb2⟩
def z8m (n b:Int):Prop:=0<=n/\n<=128/\0<=b/\b<=8192
instance (n b:Int):Decidable (z8m n b):=by unfold z8m;infer_instance
theorem St.nil:St [] []:=⟨.refl _,by simp,⟨by simp,.nil,by simp,by simp⟩⟩
theorem new_c {w:World}{H:Heap}(n b:Int) (hw:w.heap=H):qj P zmk #[.int .i64 n,.int .i64 b] w fun e w'=>
  (¬z8m n b/\e=.returned (.tuple #[.pointer none,.int .i64 1])/\w'.heap=H)\/(z8m n b/\∃ p m,e=.returned (.tuple #[.pointer (some ⟨p,0,none⟩),.int .i64 0])/\Up w'.heap p m n b []/\Ext [] H w'.heap/\H.size<=p/\p < w'.heap.size/\H.size<=m/\m < w'.heap.size):=by
 refine z16 ?_
 unfold zwh
 refine jf ?_
 refine zy (fun h=>.inl ⟨fun h2=>by have:=h2.1;omega,rfl,hw⟩) (fun h1=>?_)
 refine zy (fun h=>.inl ⟨fun h2=>by have:=h2.2.1;omega,rfl,hw⟩) (fun h2=>?_)
 refine zy (fun h=>.inl ⟨fun h2=>by have:=h2.2.2.1;omega,rfl,hw⟩) (fun h3=>?_)
 refine zy (fun h=>.inl ⟨fun h2=>by have:=h2.2.2.2;omega,rfl,hw⟩) (fun h4=>?_)
 refine zaf (s:=.map) (some H.size) _ (zkd hw) ?_
 refine qc (s:=.any) _ (bU _ _ _ _) ?_
 refine ji (H:=H.push (.map #[] 0)) rfl fun w2 hw2=>?_
 refine .inr ⟨⟨by omega,by omega,by omega,by omega⟩,H.size+1,H.size,by simp,⟨[],0,?_,?_,.nil,.nil⟩,by rw [hw2];exact (Ext.push _).push_own,by omega,by rw [hw2];simp,by omega,by rw [hw2];simp;omega⟩
 ·rw [hw2]
  have:(H.push (.map #[] 0)).size=H.size+1:=by simp
  rw [<-this];exact zk
 ·rw [hw2];exact za1 zk
def zns (k:Int) (o:Bool) (d:List UInt8):Int:=
 if k < 1\/3 < k then 100 else if (d≠[]/\k≠1)\/(o=true/\k≠2) then 1 else if 1024 < d.length then 134 else 0
theorem qj1 {w:World}{H:Heap}(t d:List UInt8) (k:Int) (o:Bool) (hw:w.heap=H):qj P zol #[qkf t k o d] w fun e w'=>e=.returned (.int .i64 (zns k o d))/\Ext [] H w'.heap:=by
 refine zzm ?_
 unfold zt0
 refine ji hw fun w1 hw1=>?_
 have hx1:Ext [] H w1.heap:=by rw [hw1];exact .push _
 have hb:w1.heap[H.size]?=some (.cells (raw t k o d).toArray zl (0,0)):=by rw [hw1];exact zk
 refine jg (s:=.int .i64) (t:=k) rfl hb rfl ?_
 have data:∀ {R1 R2:Prop},(d≠[]->R1)->(d=[]->R2)->ld .str (⟨H.size,3,none⟩:Addr) w1 fun (t14:ByteArray)=>qw (!(t14.toList==(ByteArray.mk #[]).toList)) R1 R2:=by
  intro R1 R2 h1 h2
  refine jg (s:=.str) (t:=strOf d) rfl hb rfl ?_
  exact zbv (p:=d≠[]) (by rw [Bool.not_eq_true',<-Bool.not_eq_true,zg6]) h1 (fun h=>h2 (Classical.not_not.1 h))
 refine jf ?_
 refine jf ?_
 refine jf ?_
 refine zba (fun h3=>?_) (fun h3=>zba (fun h2=>?_) (fun h2=>zba (fun h1=>?_) (fun h1=>?_)))
 ·subst h3
  refine jg (s:=.bool) (t:=o) rfl hb rfl ?_
  cases o with
  | true=>exact jh rfl ⟨by simp [zns],hx1⟩
  | false=>
   refine qp rfl ?_
   refine data (fun h=>⟨by simp [zns,h],hx1⟩) (fun h=>⟨by simp [zns,h],hx1⟩)
 ·subst h2
  refine data (fun h=>⟨by simp [zns,h],hx1⟩) (fun h=>⟨by simp [zns,h],hx1⟩)
 ·subst h1
  refine jg (s:=.bool) (t:=o) rfl hb rfl ?_
  cases o with
  | true=>exact jh rfl ⟨by simp [zns],hx1⟩
  | false=>
   refine qp rfl ?_
   refine jg (s:=.str) (t:=strOf d) rfl hb rfl ?_
   refine zy (fun h=>⟨?_,hx1⟩) (fun h=>⟨?_,hx1⟩)
   ·have h:1024 < d.length:=by simp only [jy] at h;omega
    simp [zns,h]
   ·have h:¬1024 < d.length:=by simp only [jy] at h;omega
    simp [zns,h]
 ·exact⟨by unfold zns;rw [if_pos (by omega)],hx1⟩
def z0o (n b:Int) (L:List Ino):Bool:=decide ((L.length:Int) > n) || decide ((tot L:Int) > b)
theorem qht {w:World}{H:Heap}{p m:Nat}{n b:Int}{L:List Ino}(hw:w.heap=H) (hU:Up H p m n b L):qj P zhe #[.pointer (some ⟨p,0,none⟩)] w fun e w'=>e=.returned (.bool (z0o n b L))/\w'.heap=H:=by
 obtain⟨M,c,h1,h2,h3,h4⟩:=hU
 have hl:M.length=L.length:=by have:=h4.perm.length_eq;rwa [List.length_map] at this
 refine zpw ?_
 unfold zkv
 refine vw hw fun w1 hw1=>?_
 refine jh rfl ?_
 simp only [jc,zan,Nat.zero_add]
 refine jg (s:=.map) (t:=some m) hw1 h1 rfl ?_
 refine qc (s:=.int .i64) _ (z1r uM hw1 h2) ?_
 refine jg (s:=.int .i64) (t:=n) hw1 h1 rfl ?_
 refine zy (fun h=>⟨?_,hw1⟩) (fun h=>?_)
 ·unfold z0o;rw [decide_eq_true (by omega)];rfl
 ·refine jg (s:=.int .i64) (t:=(tot L:Int)) hw1 h1 rfl ?_
  refine jg (s:=.int .i64) (t:=b) hw1 h1 rfl ?_
  refine⟨?_,hw1⟩
  unfold z0o;rw [decide_eq_false (p:=(L.length:Int) > n) (by omega)];rfl
def zfz (L:List Ino) (p:Path):Option Ino:=if p≠[]/\zrh p=0 then L.find? (fun i=>decide (i.names=p)) else none
def zsl (o:Option Ino):List Value:=match o with | some i=>encI i | none=>raw [] 0 false []
theorem zmp {o:Option Ino}:(zsl o).length=4:=by cases o <;> rfl
theorem zov {o:Option Ino}:zbo (zsl o):=by cases o;exact zvz;exact zox
theorem qbn {M:IM}{c:Nat}{L:List Ino}(hM:MOk (fun _=>True) M c) (h:St M L){p:Path}(hp:okP p):zc6 M (x9 p)=L.find? (fun i=>decide (i.names=p)):=by
 cases hf:L.find? (fun i=>decide (i.names=p)) with
 | some i=>
  have h1:=List.mem_of_find?_eq_some hf
  have h2:i.names=p:=by simpa using List.find?_some hf
  obtain⟨x,hx,rfl⟩:=List.mem_map.1 (h.perm.mem_iff.2 h1)
  have h3:=h.key x hx
  rw [h2] at h3
  rw [<-h3]
  exact zp2 hM.keys (c:=x.2.2) (by exact hx)
 | none=>
  refine zn0 fun x hx e=>?_
  have h1:x.2.1∈L:=h.perm.mem_iff.1 (List.mem_map.2 ⟨x,hx,rfl⟩)
  have h2:=h.key x hx
  have h3:x.2.1.names=p:=zkn (h.good.ok _ h1).1 hp (by rw [<-h2,e])
  have:=List.find?_eq_none.1 hf _ h1
  exact this (by simpa using h3)
theorem stI {w:World}{H:Heap}{b:Nat}{c:Array Value}{vs:List Value}{K:World->Prop}(hw:w.heap=H) (hb:H[b]?=some (.cells c zl (0,0))) (hc:c.size=4) (h4:vs.length=4) (h1:zbo vs) (hK:∀ w',w'.heap=H.setIfInBounds b (.cells vs.toArray zl (0,0))->K w') :
  zah P (storeVar zl (⟨b,0,none⟩:Addr) (.agg vs.toArray)) w K:=by
 have hcs:(Value.agg vs.toArray).cells=vs.toArray:=rfl
 refine zbe (v:=.agg vs.toArray) (by rw [szI,hcs];simp [h4]) (by rw [hcs];simp [h4]) (by rw [hcs];exact h1) hw hb (by rw [hcs];simp [h4,hc]) fun w' hw'=>?_
 refine hK w' ?_
 rw [hw',hcs,zau (by simp [h4,hc])]
theorem qko:zI=.agg (raw [] 0 false []).toArray:=rfl
set_option maxHeartbeats 4000000 in
theorem z8g {w:World}{H:Heap}{p m:Nat}{nn bb:Int}{L:List Ino}{a:Option Addr}{n nc:Nat}{q:Path}(hw:w.heap=H) (hU:Up H p m nn bb L) (hL:Cells H a (strRow q)) (hn:n=q.length) (hnc:n<=nc) (hf:Fit q) (hq:q.length<=9223372036854775807) :
  qj P zdh #[.pointer (some ⟨p,0,none⟩),.slice a n nc] w fun e w'=>e=.returned (.tuple #[.agg (zsl (zfz L q)).toArray,.bool (zfz L q).isSome])/\Ext [] H w'.heap:=by
 refine zrd ?_
 unfold zlv
 rw [zcI]
 refine ji hw fun w1 hw1=>?_
 have hx1:Ext [] H w1.heap:=by rw [hw1];exact .push _
 have hb1:w1.heap[H.size]?=some (.cells (raw [] 0 false []).toArray zl (0,0)):=by rw [hw1];exact zk
 have none_way:∀ {w:World},zfz L q=none->Ext [] H w.heap->w.heap[H.size]?=some (.cells (raw [] 0 false []).toArray zl (0,0))->zad P (Instr.build zl #[]) .any w fun (t20:Value)=>zah P (storeVar zl (⟨H.size,0,none⟩:Addr) t20) w fun w_2=>ldA P 4 (⟨H.size,0,none⟩:Addr) w_2 fun t4=>
   (Ending.returned (Value.tuple #[(Value.agg t4),(Value.bool false)])=.returned (.tuple #[.agg (zsl (zfz L q)).toArray,.bool (zfz L q).isSome])/\Ext [] H w_2.heap):=by
  intro w hg hx hb
  refine qc (s:=.any) zI (bI w) ?_
  rw [qko]
  refine stI rfl hb rfl rfl zvz fun w2 hw2=>?_
  refine xw rfl (by rw [hw2];exact qy hb) rfl ?_
  rw [hg]
  exact⟨rfl,by rw [hw2];exact hx.set_own (.inl (Nat.le_refl _))⟩
 refine jf ?_
 refine qp rfl ?_
 refine zba (fun h0=>none_way (by unfold zfz;rw [if_neg];intro h;exact h.1 (List.eq_nil_of_length_eq_zero (by omega))) hx1 hb1) (fun h0=>?_)
 refine zh (z3o rfl (hL.ext hx1 (by simp)) hn hf (by omega)) ?_
 rintro e w4 ⟨rfl,hw4⟩
 subst w4
 refine⟨_,rfl,?_⟩
 refine zbr (fun h=>none_way (by unfold zfz;rw [if_neg fun h2=>h h2.2]) hx1 hb1) (fun hok=>?_)
 have hqok:=zum.1 hok
 have hne:q≠[]:=by rintro rfl;simp at hn;omega
 have hgl:zfz L q=L.find? (fun i=>decide (i.names=q)):=by unfold zfz;rw [if_pos ⟨hne,hok⟩]
 obtain⟨M,c,h1,h2,h3,h4⟩:=hU
 have hget:=qbn h3 h4 hqok
 rw [<-hgl] at hget
 have hval:((zc6 M (x9 q)).map qe2).getD zI=.agg (zsl (zfz L q)).toArray:=by rw [hget];cases zfz L q <;> rfl
 have look:∀ {w:World},w.heap[m]?=some (.map (ents keyS (vl qe2 M)) c)->(Instr.lookup je (.map (some m)) (.string (strOf (x9 q))) true).run P w=.ok (.tuple #[.agg (zsl (zfz L q)).toArray,.bool (zfz L q).isSome]) w:=by
  intro w hm
  have h:=zfv z0j uM zMI rfl hm h3 (k:=x9 q) trivial
  rw [hval,hget] at h
  exact h
 have hsmall:=hqok.small
 have fin:∀ {w:World},Ext [] H w.heap->w.heap[H.size]?=some (.cells (raw [] 0 false []).toArray zl (0,0))->∀ {b6:Nat},H.size<=b6->b6≠H.size->w.heap[b6]?=some (.cells (raw [] 0 false []).toArray zl (0,0)) ->
   zah P (storeVar zl (⟨b6,0,none⟩:Addr) (.agg (zsl (zfz L q)).toArray)) w fun w_10=>ldA P 4 (⟨b6,0,none⟩:Addr) w_10 fun t31=>zah P (storeVar zl (⟨H.size,0,none⟩:Addr) (Value.agg t31)) w_10 fun w_11=>ldA P 4 (⟨H.size,0,none⟩:Addr) w_11 fun t4_3=>
   (Ending.returned (Value.tuple #[(Value.agg t4_3),(Value.bool (zfz L q).isSome)])=.returned (.tuple #[.agg (zsl (zfz L q)).toArray,.bool (zfz L q).isSome])/\Ext [] H w_11.heap):=by
  intro w hx hb b6 hb6 hne6 h6
  refine stI rfl h6 rfl zmp zov fun w2 hw2=>?_
  refine xw rfl (by rw [hw2];exact qy h6) (by simp [zmp]) ?_
  have hb2:w2.heap[H.size]?=some (.cells (raw [] 0 false []).toArray zl (0,0)):=by rw [hw2];exact zd8 hb (Ne.symm hne6)
  refine stI rfl hb2 rfl zmp zov fun w3 hw3=>?_
  refine xw rfl (by rw [hw3];exact qy hb2) (by simp [zmp]) ?_
  exact⟨rfl,by rw [hw3,hw2];exact (hx.set_own (.inl hb6)).set_own (.inl (Nat.le_refl _))⟩
 refine vw rfl fun w7 hw7=>?_
 have hx17:Ext [] w1.heap w7.heap:=by rw [hw7];exact .refl _ _
 have hx07:=hx1.trans hx17
 simp only [jc,zan,Nat.zero_add]
 refine jg (s:=.map) (t:=some m) rfl (hx07.get h1 (by simp)) rfl ?_
 constructor
 ·refine zh (zgg rfl (hL.ext hx07 (by simp)) hn hnc (by omega)) ?_
  rintro e w8 ⟨rfl,hx8⟩
  refine⟨strOf (x9 q),rfl,?_⟩
  have hx08:=hx07.trans hx8
  refine⟨jg (s:=.map) (t:=some m) rfl (hx08.get h1 (by simp)) rfl rfl,?_⟩
  refine zct (l:=[.any,.bool]) (.agg (zsl (zfz L q)).toArray,(zfz L q).isSome) (look (hx08.get h2 (by simp))) ?_
  refine ji rfl fun w9 hw9=>?_
  have hx89:Ext [] w8.heap w9.heap:=by rw [hw9];exact .push _
  have hx09:=hx08.trans hx89
  refine⟨zct (l:=[.any,.bool]) (.agg (zsl (zfz L q)).toArray,(zfz L q).isSome) (look (hx09.get h2 (by simp))) rfl,?_⟩
  refine⟨jg (s:=.map) (t:=some m) rfl (hx09.get h1 (by simp)) rfl rfl,?_⟩
  exact fin hx09 ((hx17.trans (hx8.trans hx89)).get hb1 (by simp)) (by have:=hx08.1;omega) (by have:=lt_of_get hb1;have:=(hx17.trans hx8).1;omega) (by rw [hw9];exact zk)
 ·refine ji rfl fun w12 hw12=>?_
  have hx712:Ext [] w7.heap w12.heap:=by rw [hw12];exact .push _
  have hx012:=hx07.trans hx712
  refine⟨jg (s:=.map) (t:=some m) rfl (hx012.get h1 (by simp)) rfl rfl,?_⟩
  refine zh (zgg rfl (hL.ext hx012 (by simp)) hn hnc (by omega)) ?_
  rintro e w13 ⟨rfl,hx13⟩
  refine⟨strOf (x9 q),rfl,?_⟩
  have hx013:=hx012.trans hx13
  refine⟨jg (s:=.map) (t:=some m) rfl (hx013.get h1 (by simp)) rfl rfl,?_⟩
  refine zct (l:=[.any,.bool]) (.agg (zsl (zfz L q)).toArray,(zfz L q).isSome) (look (hx013.get h2 (by simp))) ?_
  exact fin hx013 ((hx17.trans (hx712.trans hx13)).get hb1 (by simp)) (by have:=hx07.1;omega) (by have:=lt_of_get hb1;have:=hx17.1;omega) (hx13.get (by rw [hw12];exact zk) (by simp))
theorem ix1 {s:Sh}{w:World}{H:Heap}{a:Option Addr}{len i:Nat}{n:Int}{vs:List Value}{t:s.T}(hw:w.heap=H) (hL:Cells H a vs) (hlen:len=vs.length) (hi:vs[i]?=some (s.val t)) (hn:n=(i:Int)){K:s.T->Prop}(hK:K t) :
  ixS a len 1 n fun p=>ld s p w K:=by
 have hlt:=(List.getElem?_eq_some_iff.1 hi).1
 rcases hL with h | ⟨b,o,c,T,fr,rfl,hb,hsz,hc⟩
 ·subst h;simp at hlt
 ·refine zvs i hn (by omega) ?_
  refine jg (s:=s) hw hb ?_ hK
  rw [<-hc,Array.getElem?_toList,Array.getElem?_extract] at hi
  split at hi
  ·exact hi
  ·cases hi
theorem z0y {w:World}{H:Heap}{st e:TypeId}{sz bts:Nat}{v:Value}{us:List Value}(E:Elem P e sz bts) (hu:P.underlying st=some (.slice e)) (hv:v.cells=us.toArray) (hl:us.length=sz) (h0:0 < sz) (h1:sz<=16777216) (hw:w.heap=H){K:(Option Addr×Nat×Nat)->World->Prop}
  (hK:∀ w',Cells w'.heap (some ⟨H.size,0,none⟩) us->Ext [] H w'.heap->w'.heap.size=H.size+1->K (some ⟨H.size,0,none⟩,1,1) w'):za2 P (Instr.buildSlice st 1 #[(0,v)]) .slc w K:=by
 subst hw
 refine zaf (s:=.slc) (some ⟨w.heap.size,0,none⟩,1,1) _ (zee E hu (v:=v) (by rw [hv];simpa using hl) h0 h1) ?_
 rw [hv]
 exact hK _ (.inr ⟨w.heap.size,0,_,_,_,rfl,zk,by simp,by simp⟩) (.push _) (by simp)
structure Sn where
 file:Fil
 dirs:List Nat
 up:Bool
def zl8:Fil:=⟨[],false,[]⟩
def sn0:Sn:=⟨zl8,[],false⟩
def snC (s:Sn) (x:Option Addr×Nat×Nat):List Value:=[.string (strOf s.file.path),.bool s.file.dir,.string (strOf s.file.data),zdr x,.bool s.up]
theorem qaz {s:Sn}{x:Option Addr×Nat×Nat}:zbo (snC s x):=by
 intro v hv
 simp only [snC,zdr,List.mem_cons,List.not_mem_nil,or_false] at hv
 rcases hv with rfl | rfl | rfl | rfl | rfl <;> rfl
theorem qe9:zc P zi=(snC sn0 (none,0,0)).toArray:=by kernel_rfl
theorem qmd:P.cellsOf zi=5:=by kernel_rfl
theorem qaj {w:World}{H:Heap}(s:Sn) (x:Option Addr×Nat×Nat) (hw:w.heap=H){K:Nat->World->Prop}(hK:∀ w',w'.heap=H.push (.cells (snC s x).toArray zi (0,0))->K H.size w') :
  zat (zc P zi) zi w fun b w1=>zah P (storeVar zi (⟨b,0,none⟩:Addr) (.agg (snC s x).toArray)) w1 fun w2=>K b w2:=
 zxp (v:=.agg (snC s x).toArray) qmd (by rw [qe9];rfl) (by simp [Value.cells,snC]) (by simpa [Value.cells] using qaz) hw hK
theorem qfl {w:World}{H:Heap}{b:Nat}{c:Array Value}{s:Sn}{x:Option Addr×Nat×Nat}{K:World->Prop}(hw:w.heap=H) (hb:H[b]?=some (.cells c zi (0,0))) (hc:c.size=5) (hK:∀ w',w'.heap=H.setIfInBounds b (.cells (snC s x).toArray zi (0,0))->K w') :
  zah P (storeVar zi (⟨b,0,none⟩:Addr) (.agg (snC s x).toArray)) w K:=by
 refine zbe (v:=.agg (snC s x).toArray) (by rw [qmd];rfl) (by simp [Value.cells,snC]) (by simpa [Value.cells] using qaz) hw hb (by simp [Value.cells,snC,hc]) fun w' hw'=>hK w' ?_
 rw [hw',show (Value.agg (snC s x).toArray).cells.toList=snC s x from rfl,zau (by rw [hc];rfl)]
def zoz (Ly:List Fil) (p:List UInt8):Option Fil:=Ly.find? fun f=>f.path=p
def zc1 (ls:List (List Fil)) (p:List UInt8):List Nat->Sn->Sn
 | [],s=>s
 | i :: is,s=>match zoz (ls.getD i []) p with
  | none=>zc1 ls p is s
  | some f=>if f.dir then zc1 ls p is ⟨f,s.dirs++[i],s.up⟩ else if s.dirs=[] then ⟨f,s.dirs,s.up⟩ else s
def qd0 (f:Fil):Value:=.agg (zb6 f).toArray
def qau (H:Heap) (m:Nat) (Ly:List Fil):Prop:=∃ (M:ML (List UInt8) Fil) (c:Nat),H[m]?=some (.map (ents keyS (vl qd0 M)) c)/\MOk (fun _=>True) M c/\(M.map (·.2.1)).Perm Ly/\∀ x∈M,x.1=x.2.1.path
def qcq (m:Nat):Value:=.map (some m)
def z9e (H:Heap) (u:Nat) (pu:Value) (ls:List (List Fil)):Prop:=∃ (x:Option Addr×Nat×Nat) (ms:List Nat),H[u]?=some (.cells #[zdr x,pu] zcw (0,0))/\Cells H x.1 (ms.map qcq)/\x.2.1=ms.length/\ms.length=ls.length/\∀ i m,ms[i]?=some m->qau H m (ls.getD i [])
theorem qau.ext {H H':Heap}{m:Nat}{Ly:List Fil}{fp:List Nat}(h:qau H m Ly) (hx:Ext fp H H') (hm:m∉fp):qau H' m Ly:=by
 obtain⟨M,c,h1,h2⟩:=h
 exact⟨M,c,hx.get h1 hm,h2⟩
theorem z9e.ext {H H':Heap}{u:Nat}{pu:Value}{ls:List (List Fil)}(h:z9e H u pu ls) (hx:Ext [] H H'):z9e H' u pu ls:=by
 obtain⟨x,ms,h1,h2,h3,h4,h5⟩:=h
 exact⟨x,ms,hx.get h1 (by simp),h2.ext hx (by simp),h3,h4,fun i m hi=>(h5 i m hi).ext hx (by simp)⟩
theorem zl7 {M:ML (List UInt8) Fil}{c:Nat}{Ly:List Fil}(hM:MOk (fun _=>True) M c) (hp:(M.map (·.2.1)).Perm Ly) (hk:∀ x∈M,x.1=x.2.1.path) (p:List UInt8):zc6 M p=zoz Ly p:=by
 cases hg:zc6 M p with
 | none=>
  symm
  refine List.find?_eq_none.2 fun f hf=>?_
  obtain⟨x,hx,rfl⟩:=List.mem_map.1 (hp.mem_iff.2 hf)
  have:=znm hg x hx
  rw [hk x hx] at this
  simpa using this
 | some f=>
  obtain⟨c',hm⟩:=zet hg
  have hf:f∈Ly:=hp.mem_iff.1 (List.mem_map.2 ⟨_,hm,rfl⟩)
  have hpf:p=f.path:=hk _ hm
  symm
  unfold zoz
  cases hl:Ly.find? (fun f=>f.path=p) with
  | none=>exact absurd hpf.symm (by simpa using List.find?_eq_none.1 hl f hf)
  | some g=>
   have h1:=List.mem_of_find?_eq_some hl
   have h2:g.path=p:=by simpa using List.find?_some hl
   obtain⟨x,hx,rfl⟩:=List.mem_map.1 (hp.mem_iff.2 h1)
   have:=key_inj hM hx hm (by rw [hk x hx,h2])
   rw [this]
theorem qnc {L M:List UInt8}:((strOf L).toList==(strOf M).toList)=decide (L=M):=by
 rw [Bool.eq_iff_iff,z3r,decide_eq_true_iff]
theorem uLm:P.underlying zca=some (.map qx zn):=by kernel_rfl
theorem zMF (w:World):(zeroValue zn).run P w=.ok (qd0 zl8) w:=by kernel_rfl
theorem uSi:P.underlying zmy=some (.slice zav):=by kernel_rfl
theorem Ei:Elem P zav 1 8:=zii (z:=.int .i64 0) (by kernel_rfl) rfl
def intRow (ds:List Nat):List Value:=ds.map fun (i:Nat)=>.int .i64 (i:Int)
theorem len_intRow {ds:List Nat}:(intRow ds).length=ds.length:=by simp [intRow]
theorem qk9 {w:World}{H:Heap}{m:Nat}{Ly:List Fil}(hw:w.heap=H) (hm:qau H m Ly) (p:List UInt8) :
  (Instr.lookup zca (.map (some m)) (.string (strOf p)) true).run P w=.ok (.tuple #[qd0 ((zoz Ly p).getD zl8),.bool (zoz Ly p).isSome]) w:=by
 obtain⟨M,c,h1,h2,h3,h4⟩:=hm
 have:=zfv (ev:=qd0) z0j uLm zMF hw h1 h2 (k:=p) trivial
 rw [zl7 h2 h3 h4 p] at this
 rw [show (Value.string (strOf p))=keyS p from rfl,this]
 cases zoz Ly p <;> rfl
theorem ql0 {w:World}{H:Heap}{b:Nat}{s:Sn}{y:Option Addr×Nat×Nat}(f:Fil){K:World->Prop}(hw:w.heap=H) (hb:H[b]?=some (.cells (snC s y).toArray zi (0,0))) (hK:∀ w',w'.heap=H.setIfInBounds b (.cells (snC ⟨f,s.dirs,s.up⟩ y).toArray zi (0,0))->K w') :
  zah P (storeVar zn (⟨b,0,none⟩:Addr) (.agg (zb6 f).toArray)) w K:=by
 refine zbe (v:=.agg (zb6 f).toArray) (by rw [szF];rfl) (by simp [Value.cells,zb6]) (by simpa [Value.cells] using zr9) hw hb (by simp [Value.cells,snC,zb6]) fun w' hw'=>hK w' ?_
 rw [hw'];rfl
set_option maxHeartbeats 4000000 in
theorem z6y {w:World}{H:Heap}{u n nc:Nat}{pu:Value}{ls:List (List Fil)}{a:Option Addr}{ds:List Nat}(p:List UInt8) (hw:w.heap=H) (hU:z9e H u pu ls) (hD:Cells H a (intRow ds)) (hn:n=ds.length) (hds:∀ i∈ds,i < ls.length) (hm:ds.length<=1000000) :
  qj P zey #[.pointer (some ⟨u,0,none⟩),.slice a n nc,.string (strOf p)] w fun e w'=>∃ y,e=.returned (.tuple #[.agg (snC (zc1 ls p ds sn0) y).toArray,.bool (!decide ((zc1 ls p ds sn0).file.path=[]))])/\Mine w'.heap H.size zav 1 y (intRow (zc1 ls p ds sn0).dirs)/\Ext [] H w'.heap:=by
 refine zo2 ?_
 unfold zkb
 refine ji hw fun w1 hw1=>?_
 refine ji rfl fun w2 hw2=>?_
 have hx2:Ext [] H w2.heap:=by rw [hw2,hw1];exact (Ext.push _).push_own
 have h6:w2.heap[H.size]?=some (.cells (snC sn0 (none,0,0)).toArray zi (0,0)):=by rw [hw2,hw1];exact za1 (by rw [qe9];exact zk)
 have e1:w1.heap.size=H.size+1:=by rw [hw1];simp
 have h8:w2.heap[H.size+1]?=some (.cells (snC sn0 (none,0,0)).toArray zi (0,0)):=by rw [hw2,<-e1,qe9];exact zk
 rw [e1]
 let St:=fun (st:Sn) (y:Option Addr×Nat×Nat) (w':World)=>w'.heap[H.size]?=some (.cells (snC sn0 (none,0,0)).toArray zi (0,0))/\w'.heap[H.size+1]?=some (.cells (snC st y).toArray zi (0,0))/\Mine w'.heap (H.size+2) zav 1 y (intRow st.dirs)/\Ext [] H w'.heap
 refine joinP_of (fun _ w'=>∃ y,St (zc1 ls p ds sn0) y w') ?_ ?_
 ·refine jf ?_
  refine zb3 (fun k s w'=>∃ (i:Nat) (st:Sn) (y:Option Addr×Nat×Nat),s=(i:Int)/\k+i=ds.length/\st.dirs.length<=i/\zc1 ls p (ds.drop i) st=zc1 ls p ds sn0/\St st y w') ds.length ⟨0,sn0,(none,0,0),rfl,rfl,by simp [sn0],rfl,h6,h8,.inl ⟨rfl,rfl⟩,hx2⟩ ?_
  rintro k s w3 ⟨i,st,y,rfl,hk,hdl,he,g6,g8,hY,hx3⟩ K hK
  refine zy (fun h=>?_) (fun h=>?_)
  ·have hi:i < ds.length:=by omega
   have hdrop:ds.drop i=ds[i] :: ds.drop (i+1):=List.drop_eq_getElem_cons hi
   have hU3:=hU.ext hx3
   obtain⟨x,ms,u1,u2,u3,u4,u5⟩:=hU3
   have hdi:=hds _ (List.getElem_mem hi)
   obtain⟨m,hmi⟩:∃ m,ms[ds[i]]?=some m:=⟨ms[ds[i]]'(by omega),by simp⟩
   refine joinP_of (fun _ w'=>∃ (st':Sn) (y':Option Addr×Nat×Nat),st'.dirs.length<=i+1/\zc1 ls p (ds.drop (i+1)) st'=zc1 ls p ds sn0/\St st' y' w') ?_ ?_
   ·refine jf ?_
    refine ix1 (s:=.int .i64) (t:=(ds[i]:Int)) (i:=i) rfl (hD.ext hx3 (by simp)) (by rw [len_intRow,hn]) (by simp [intRow,hi];rfl) rfl ?_
    simp only [jc]
    refine jg (s:=.slc) (t:=x) rfl u1 rfl ?_
    refine ix1 (s:=.map) (t:=some m) (i:=ds[i]) rfl u2 (by simp [u3]) (by simp [hmi,qcq];rfl) rfl ?_
    refine zct (l:=[.any,.bool]) (qd0 ((zoz (ls.getD ds[i] []) p).getD zl8),(zoz (ls.getD ds[i] []) p).isSome) (qk9 rfl (u5 _ _ hmi) p) ?_
    refine qhj _ rfl fun w4 hw4=>?_
    have hx4:Ext [] w3.heap w4.heap:=by rw [hw4];exact .push _
    have b11:w4.heap[w3.heap.size]?=some (.cells (zb6 ((zoz (ls.getD ds[i] []) p).getD zl8)).toArray zn (0,0)):=by rw [hw4];exact zk
    have g64:=hx4.get g6 (by simp)
    have g84:=hx4.get g8 (by simp)
    have hY4:=hY.ext hx4 (by simp)
    have hx04:=hx3.trans hx4
    cases hg:zoz (ls.getD ds[i] []) p with
    | none=>
     refine jh rfl ?_
     refine⟨st,y,by omega,?_,g64,g84,hY4,hx04⟩
     rw [<-he,hdrop,zc1,hg]
    | some f=>
     refine qp rfl ?_
     rw [hg,Option.getD_some] at b11
     refine jg (s:=.bool) (t:=f.dir) rfl b11 rfl ?_
     cases hd:f.dir with
     | false=>
      refine jh rfl ?_
      refine joinP_of (fun _ w'=>∃ y,St (zc1 ls p ds sn0) y w') ?_ (fun _ _ h=>h)
      have hres:(if st.dirs=[] then ⟨f,st.dirs,st.up⟩ else st)=zc1 ls p ds sn0:=by rw [<-he,hdrop,zc1,hg];simp [hd]
      have hyl:=hY4.len
      rw [len_intRow] at hyl
      refine jg (s:=.slc) (t:=y) rfl g84 rfl ?_
      refine zba (fun h0=>?_) (fun h0=>?_)
      ·have h00:st.dirs=[]:=List.eq_nil_of_length_eq_zero (by omega)
       refine xw rfl b11 rfl ?_
       refine ql0 f rfl g84 fun w5 hw5=>?_
       rw [if_pos h00] at hres
       rw [<-hres]
       refine⟨y,by rw [hw5];exact zd8 g64 (by omega),by rw [hw5];exact qy g84,?_,by rw [hw5];exact hx04.set_own (.inl (by omega))⟩
       exact hY4.ext (M:=[H.size+1]) (by rw [hw5];exact Ext.set _ (by simp)) (fun b hb hbm=>by have:=jo hY4 b hb;simp at hbm;omega)
      ·rw [if_neg (fun h=>h0 (by rw [h] at hyl;simp at hyl;omega))] at hres
       rw [<-hres]
       exact⟨y,g64,g84,hY4,hx04⟩
     | true=>
      refine qp rfl ?_
      refine vw rfl fun w5 hw5=>?_
      rw [<-hw5] at b11 g64 g84 hY4 hx04
      refine xw rfl b11 rfl ?_
      refine jg (s:=.slc) (t:=y) rfl g84 rfl ?_
      refine z0y (us:=[.int .i64 (ds[i]:Int)]) Ei uSi rfl rfl (by omega) (by omega) rfl fun w6 hc6 hx6 hs6=>?_
      refine⟨jg (s:=.slc) (t:=y) rfl (hx6.get g84 (by simp)) rfl rfl,xw rfl (hx6.get b11 (by simp)) rfl rfl,?_⟩
      have hlt:=lt_of_get g84
      have hyl:=hY4.len
      rw [len_intRow] at hyl
      have hyb:∀ b∈jw y,H.size+2<=b:=jo hY4
      refine zbx Ei (by omega) uSi (zar uSi) rfl (hY4.ext hx6 (by simp)) (by omega) (Src.slc rfl hc6 rfl) (by intro v hv;simp at hv;subst hv;rfl) (by omega) fun y' w7 hm7 hl7 hx7 hs7=>?_
      have hby:w3.heap.size∉jw y:=fun h=>by have:=(zki hY _ h).1;omega
      have b117:=hx7.get (hx6.get b11 (by simp)) hby
      refine⟨xw rfl b117 rfl rfl,?_⟩
      have g87:=hx7.get (hx6.get g84 (by simp)) (fun h=>by have:=hyb _ h;omega)
      have g67:=hx7.get (hx6.get g64 (by simp)) (fun h=>by have:=hyb _ h;omega)
      refine ql0 f rfl g87 fun w8 hw8=>?_
      have g88:w8.heap[H.size+1]?=some (.cells (snC ⟨f,st.dirs,st.up⟩ y).toArray zi (0,0)):=by rw [hw8];exact qy g87
      refine zb8 rfl g88 (by simp [snC]) fun w9 hw9=>?_
      have hx9:Ext [] H w9.heap:=by
       have h1:Ext [] H w7.heap:=(hx04.trans hx6).own hx7 (fun b hb hlt'=>by have:=hyb b hb;omega)
       rw [hw9,hw8];exact (h1.set_own (.inl (by omega))).set_own (.inl (by omega))
      have hx79:Ext [H.size+1] w7.heap w9.heap:=by rw [hw9,hw8];exact (Ext.set _ (by simp)).trans (Ext.set _ (by simp))
      refine⟨⟨f,st.dirs++[ds[i]],st.up⟩,y',by simp;omega,?_,hx79.get g67 (by simp),by rw [hw9];exact qy g88,?_,hx9⟩
      ·rw [<-he,hdrop,zc1,hg];simp [hd]
      ·have:intRow (st.dirs++[ds[i]])=intRow st.dirs++[.int .i64 (ds[i]:Int)]:=by simp [intRow]
       show Mine _ _ _ _ _ (intRow (st.dirs++[ds[i]]))
       rw [this]
       refine hm7.ext hx79 (fun b hb hbm=>?_)
       simp at hbm
       have:=jo hm7 b hb
       omega
   ·rintro _ w5 ⟨st',y',h1,h2,h3⟩
    refine jr ((i+1:Nat):Int) (by omega) (by omega) (by omega) ?_
    exact hK (k-1) _ _ (by omega) ⟨i+1,st',y',rfl,by omega,h1,h2,h3⟩
  ·have:i=ds.length:=by omega
   subst this
   rw [List.drop_length,zc1] at he
   exact⟨y,he▸⟨g6,g8,hY,hx3⟩⟩
 ·rintro _ w3 ⟨y,g6,g8,hY,hx3⟩
  refine vw rfl fun w4 hw4=>?_
  rw [<-hw4] at g6 g8 hY hx3
  refine xw rfl g8 rfl ?_
  refine jg (s:=.str) (t:=strOf (zc1 ls p ds sn0).file.path) rfl g8 rfl ?_
  refine qfl (s:=zc1 ls p ds sn0) (x:=y) rfl g6 rfl fun w5 hw5=>?_
  have g85:w5.heap[H.size+1]?=some (.cells (snC (zc1 ls p ds sn0) y).toArray zi (0,0)):=by rw [hw5];exact zd8 g8 (by omega)
  have g65:w5.heap[H.size]?=some (.cells (snC (zc1 ls p ds sn0) y).toArray zi (0,0)):=by rw [hw5];exact qy g6
  refine⟨jg (s:=.str) (t:=strOf (zc1 ls p ds sn0).file.path) rfl g85 rfl rfl,?_⟩
  refine xw rfl g65 rfl ?_
  refine⟨y,?_,?_,by rw [hw5];exact hx3.set_own (.inl (by omega))⟩
  ·rw [show (ByteArray.mk #[]).toList=(strOf []).toList from rfl,qnc]
  ·exact (hY.ext (M:=[H.size]) (by rw [hw5];exact Ext.set _ (by simp)) (fun b hb hbm=>by have:=jo hY b hb;simp at hbm;omega)).mono (by omega)
def upP (p:Nat):Value:=.pointer (some ⟨p,0,none⟩)
def zw6 (H:Heap) (u p m:Nat) (nn bb:Int) (ls:List (List Fil)) (L:List Ino):Prop:=z9e H u (upP p) ls/\Up H p m nn bb L
theorem zw6.ext {H H':Heap}{u p m:Nat}{nn bb:Int}{ls:List (List Fil)}{L:List Ino}(h:zw6 H u p m nn bb ls L) (hx:Ext [] H H'):zw6 H' u p m nn bb ls L:=⟨h.1.ext hx,h.2.ext hx (by simp) (by simp)⟩
def zgl (ls:List (List Fil)) (L:List Ino) (d:Sn) (q:Path):Sn×Bool:=
 if d.up=true then match zfz L q with
  | none=>(zc1 ls (x9 q) d.dirs sn0,!decide ((zc1 ls (x9 q) d.dirs sn0).file.path=[]))
  | some i=>if i.kind=3 then (sn0,false) else if i.kind=1 then (⟨⟨x9 q,false,i.data⟩,[],false⟩,true)
   else (⟨⟨x9 q,true,[]⟩,if i.opq=true\/(zc1 ls (x9 q) d.dirs sn0).file.dir=false then [] else (zc1 ls (x9 q) d.dirs sn0).dirs,true⟩,true)
 else (zc1 ls (x9 q) d.dirs sn0,!decide ((zc1 ls (x9 q) d.dirs sn0).file.path=[]))
theorem zqa {ls:List (List Fil)}{p:List UInt8}:∀ (ds:List Nat) (s:Sn),(zc1 ls p ds s).dirs.length<=s.dirs.length+ds.length/\∀ i∈(zc1 ls p ds s).dirs,i∈s.dirs\/i∈ds
 | [],s=>by simp [zc1]
 | d :: ds,s=>by
  unfold zc1
  split
  ·have:=zqa (ls:=ls) (p:=p) ds s
   exact⟨by simp;omega,fun i hi=>(this.2 i hi).imp id (by simp;exact fun h=>.inr h)⟩
  ·rename_i f _
   split
   ·have:=zqa (ls:=ls) (p:=p) ds ⟨f,s.dirs++[d],s.up⟩
    simp only [List.length_append,List.length_cons,List.length_nil,List.mem_append,List.mem_cons,List.not_mem_nil,or_false] at this |-
    refine⟨by omega,fun i hi=>?_⟩
    rcases this.2 i hi with (h | h) | h
    ·exact .inl h
    ·exact .inr (.inl h)
    ·exact .inr (.inr h)
   ·split
    ·exact⟨by simp,fun i hi=>.inl hi⟩
    ·exact⟨by simp,fun i hi=>.inl hi⟩
theorem qkr {w:World}{H:Heap}(o:Option Ino) (hw:w.heap=H){K:Nat->World->Prop}(hK:∀ w',w'.heap=H.push (.cells (zsl o).toArray zl (0,0))->K H.size w') :
  zat (zc P zl) zl w fun b w1=>zah P (storeVar zl (⟨b,0,none⟩:Addr) (.agg (zsl o).toArray)) w1 fun w2=>K b w2:=
 zxp (v:=.agg (zsl o).toArray) (by rw [szI];cases o <;> rfl) (by rw [zcI];cases o <;> rfl) (by cases o <;> simp [Value.cells,zsl,raw,encI]) (by simpa [Value.cells] using zov) hw hK
theorem qlu (w:World):(Instr.build zi #[]).run P w=.ok (.agg (snC sn0 (none,0,0)).toArray) w:=by kernel_rfl
theorem qnn (a c:ByteArray) (b:Bool) (w:World):(Instr.build zi #[(0,.agg #[.string a,.bool b,.string c])]).run P w=.ok (.agg #[.string a,.bool b,.string c,.slice none 0 0,.bool false]) w:=by kernel_rfl
theorem qm1 (a c:ByteArray) (b u:Bool) (x:Option Addr) (l k:Nat) (w:World):(Instr.build zi #[(0,.agg #[.string a,.bool b,.string c]),(1,.slice x l k),(2,.bool u)]).run P w=.ok (.agg #[.string a,.bool b,.string c,.slice x l k,.bool u]) w:=by kernel_rfl
theorem qnx (a d:ByteArray) (w:World):(Instr.build zn #[(0,.string a),(2,.string d)]).run P w=.ok (.agg #[.string a,.bool false,.string d]) w:=by kernel_rfl
theorem qme (a:ByteArray) (w:World):(Instr.build zn #[(0,.string a),(1,.bool true)]).run P w=.ok (.agg #[.string a,.bool true,.string (strOf [])]) w:=by kernel_rfl
set_option maxHeartbeats 4000000 in
theorem z4x {w:World}{H:Heap}{u p m n nc:Nat}{nn bb:Int}{ls:List (List Fil)}{L:List Ino}{a:Option Addr}{q:Path}{d:Sn}{x:Option Addr×Nat×Nat}(hw:w.heap=H) (hU:zw6 H u p m nn bb ls L)
  (hD:Cells H x.1 (intRow d.dirs)) (hxl:x.2.1=d.dirs.length) (hds:∀ i∈d.dirs,i < ls.length) (hm:d.dirs.length<=1000000) (hL:Cells H a (strRow q)) (hn:n=q.length) (hnc:n<=nc) (hq:okP q) :
  qj P zd3 #[.pointer (some ⟨u,0,none⟩),.agg (snC d x).toArray,.slice a n nc] w fun e w'=>∃ y,e=.returned (.tuple #[.agg (snC (zgl ls L d q).1 y).toArray,.bool (zgl ls L d q).2])/\Mine w'.heap H.size zav 1 y (intRow (zgl ls L d q).1.dirs)/\Ext [] H w'.heap:=by
 refine zp8 ?_
 unfold zks
 refine ji hw fun w1 hw1=>?_
 have h4:w1.heap[H.size]?=some (.cells (snC d x).toArray zi (0,0)):=by rw [hw1];exact zk
 refine ji rfl fun w2 hw2=>?_
 have e1:w1.heap.size=H.size+1:=by rw [hw1];simp
 have h6:w2.heap[H.size+1]?=some (.cells (snC sn0 (none,0,0)).toArray zi (0,0)):=by rw [hw2,<-e1,qe9];exact zk
 have h42:w2.heap[H.size]?=some (.cells (snC d x).toArray zi (0,0)):=by rw [hw2];exact za1 h4
 have hx2:Ext [] H w2.heap:=by rw [hw2,hw1];exact (Ext.push _).push_own
 rw [e1]
 refine zh (zgg rfl (hL.ext hx2 (by simp)) hn hnc (by have:=hq.small;omega)) ?_
 rintro e w3 ⟨rfl,hx3⟩
 refine⟨_,rfl,?_⟩
 have hx03:=hx2.trans hx3
 refine jg (s:=.slc) (t:=x) rfl (hx3.get h42 (by simp)) rfl ?_
 refine zh (z6y (x9 q) rfl (hU.1.ext hx03) (hD.ext hx03 (by simp)) hxl hds hm) ?_
 rintro e w4 ⟨y,rfl,hY,hx4⟩
 refine⟨(_,_),rfl,?_⟩
 obtain⟨s,hs⟩:∃ s,s=zc1 ls (x9 q) d.dirs sn0:=⟨_,rfl⟩
 rw [<-hs] at hY |-
 have h3s:H.size+2<=w3.heap.size:=by have:=lt_of_get h6;have:=hx3.1;omega
 have hx04:=hx03.trans hx4
 refine qaj s y rfl fun w5 hw5=>?_
 have h9:w5.heap[w4.heap.size]?=some (.cells (snC s y).toArray zi (0,0)):=by rw [hw5];exact zk
 have hx5:Ext [] w4.heap w5.heap:=by rw [hw5];exact .push _
 have hx25:=(hx3.trans hx4).trans hx5
 have hx05:=hx04.trans hx5
 have hY5:=hY.ext hx5 (by simp)
 have h65:=hx25.get h6 (by simp)
 have h4s:H.size+2<=w4.heap.size:=by have:=hx4.1;omega
 refine jg (s:=.bool) (t:=d.up) rfl (hx25.get h42 (by simp)) rfl ?_
 have fin:∀ {W:World}(s':Sn) (y':Option Addr×Nat×Nat) (o:Bool),zgl ls L d q=(s',o)->W.heap[H.size+1]?=some (.cells (snC sn0 (none,0,0)).toArray zi (0,0))->Ext [] H W.heap->Mine W.heap (H.size+2) zav 1 y' (intRow s'.dirs) ->
   zah P (storeVar zi (⟨H.size+1,0,none⟩:Addr) (.agg (snC s' y').toArray)) W fun w_7=>ldA P 5 (⟨H.size+1,0,none⟩:Addr) w_7 fun t6=>∃ y,Ending.returned (.tuple #[.agg t6,.bool o])=.returned (.tuple #[.agg (snC (zgl ls L d q).1 y).toArray,.bool (zgl ls L d q).2])/\Mine w_7.heap H.size zav 1 y (intRow (zgl ls L d q).1.dirs)/\Ext [] H w_7.heap:=by
  intro W s' y' o ho h6 hx hY
  refine qfl rfl h6 rfl fun w7 hw7=>?_
  refine xw rfl (by rw [hw7];exact qy h6) rfl ?_
  rw [ho]
  refine⟨y',rfl,(hY.ext (M:=[H.size+1]) (by rw [hw7];exact Ext.set _ (by simp)) (fun b hb hbm=>by have:=jo hY b hb;simp at hbm;omega)).mono (by omega),by rw [hw7];exact hx.set_own (.inl (by omega))⟩
 cases hup:d.up with
 | false=>
  refine jh rfl ?_
  refine xw rfl h9 rfl ?_
  exact fin s y _ (by unfold zgl;rw [hup,<-hs];rfl) h65 hx05 (hY5.mono h3s)
 | true=>
  refine qp rfl ?_
  simp only [jc,Addr.add,Nat.zero_add,Option.map_none]
  obtain⟨xl,ms,u1,u2⟩:=(hU.1.ext hx05)
  refine jg (s:=.ptr) (t:=some ⟨p,0,none⟩) rfl u1 rfl ?_
  refine zh (z8g rfl (hU.2.ext hx05 (by simp) (by simp)) (hL.ext hx05 (by simp)) hn hnc hq.fit (by have:=hq.2;omega)) ?_
  rintro e w6 ⟨rfl,hx6⟩
  refine⟨(_,_),rfl,?_⟩
  refine qkr _ rfl fun w7 hw7=>?_
  have hx7:Ext [] w6.heap w7.heap:=by rw [hw7];exact .push _
  have h11:w7.heap[w6.heap.size]?=some (.cells (zsl (zfz L q)).toArray zl (0,0)):=by rw [hw7];exact zk
  have hx57:=hx6.trans hx7
  have hx07:=hx05.trans hx57
  have hY7:=(hY5.ext hx57 (by simp)).mono h3s
  have h67:=hx57.get h65 (by simp)
  have h97:=hx57.get h9 (by simp)
  cases hg:zfz L q with
  | none=>
   refine jf ?_
   refine jf ?_
   refine jh rfl ?_
   refine xw rfl h97 rfl ?_
   exact fin s y _ (by unfold zgl;rw [hup,hg,<-hs];rfl) h67 hx07 hY7
  | some i=>
   rw [hg] at h11
   have ho:zgl ls L d q=if i.kind=3 then (sn0,false) else if i.kind=1 then (⟨⟨x9 q,false,i.data⟩,[],false⟩,true) else (⟨⟨x9 q,true,[]⟩,if i.opq=true\/s.file.dir=false then [] else s.dirs,true⟩,true):=by
    unfold zgl;rw [hup,hg,<-hs];rfl
   refine joinP_of (fun _ w'=>∃ y',i.kind≠3/\i.kind≠1/\w'.heap[H.size+1]?=some (.cells (snC sn0 (none,0,0)).toArray zi (0,0))/\Ext [] H w'.heap/\w'.heap[w4.heap.size]?=some (.cells (snC s y').toArray zi (0,0)) /\
    Mine w'.heap (H.size+2) zav 1 y' (intRow (if i.opq=true\/s.file.dir=false then [] else s.dirs))) ?_ ?_
   ·refine jf ?_
    refine qp rfl ?_
    refine jg (s:=.int .i64) (t:=i.kind) rfl h11 rfl ?_
    refine zba (fun h3=>?_) (fun h3=>?_)
    ·refine qc (s:=.any) _ (qlu _) ?_
     exact fin sn0 (none,0,0) false (by rw [ho,if_pos h3]) h67 hx07 (.inl ⟨rfl,rfl⟩)
    refine jg (s:=.int .i64) (t:=i.kind) rfl h11 rfl ?_
    refine zba (fun h1=>?_) (fun h1=>?_)
    ·refine jg (s:=.str) (t:=strOf i.data) rfl h11 rfl ?_
     refine qc (s:=.any) _ (qnx _ _ _) ?_
     refine qc (s:=.any) _ (qnn _ _ _ _) ?_
     exact fin ⟨⟨x9 q,false,i.data⟩,[],false⟩ (none,0,0) true (by rw [ho,if_neg h3,if_pos h1]) h67 hx07 (.inl ⟨rfl,rfl⟩)
    have cut:∀ {W:World},W.heap=w7.heap->(i.opq=true\/s.file.dir=false)->stC (⟨w4.heap.size,3,none⟩:Addr) (.slice none 0 0) W fun w'=>∃ y',i.kind≠3/\i.kind≠1/\w'.heap[H.size+1]?=some (.cells (snC sn0 (none,0,0)).toArray zi (0,0))/\Ext [] H w'.heap/\w'.heap[w4.heap.size]?=some (.cells (snC s y').toArray zi (0,0)) /\
      Mine w'.heap (H.size+2) zav 1 y' (intRow (if i.opq=true\/s.file.dir=false then [] else s.dirs)):=by
     intro W hW hc
     refine zb8 hW h97 (by simp [snC]) fun w8 hw8=>?_
     rw [if_pos hc]
     exact⟨(none,0,0),h3,h1,by rw [hw8];exact zd8 h67 (by omega),by rw [hw8];exact hx07.set_own (.inl (by omega)),by rw [hw8];exact qy h97,.inl ⟨rfl,rfl⟩⟩
    refine jg (s:=.bool) (t:=i.opq) rfl h11 rfl ?_
    refine zbv (p:=i.opq=true) Iff.rfl (fun hoq=>cut rfl (.inl hoq)) (fun hoq=>?_)
    refine jg (s:=.bool) (t:=s.file.dir) rfl h97 rfl ?_
    refine zbv (p:=s.file.dir=false) (by simp) (fun hdd=>cut rfl (.inr hdd)) (fun hdd=>?_)
    exact⟨y,h3,h1,h67,hx07,h97,by rw [if_neg (by simp [hoq,hdd])];exact hY7⟩
   ·rintro _ w8 ⟨y',h3,h1,h68,hx08,h98,hY8⟩
    refine qc (s:=.any) _ (qme _ _) ?_
    refine jg (s:=.slc) (t:=y') rfl h98 rfl ?_
    refine qc (s:=.any) _ (qm1 _ _ _ _ _ _ _ _) ?_
    exact fin ⟨⟨x9 q,true,[]⟩,if i.opq=true\/s.file.dir=false then [] else s.dirs,true⟩ y' true (by rw [ho,if_neg h3,if_neg h1]) h68 hx08 hY8
def zlg (ls:List (List Fil)):Sn:=⟨⟨[47],true,[]⟩,List.range ls.length,true⟩
structure DirOK (n:Nat) (s:Sn):Prop where
 lt:∀ i∈s.dirs,i < n
 few:s.dirs.length<=n
theorem DirOK.sn0 {n:Nat}:DirOK n sn0:=⟨by simp [YthaaekcaaecdeaaGreatDoor.sn0],by simp [YthaaekcaaecdeaaGreatDoor.sn0]⟩
theorem DirOK.root {ls:List (List Fil)}:DirOK ls.length (zlg ls):=⟨by simp [zlg],by simp [zlg]⟩
theorem DirOK.over {ls:List (List Fil)}{L:List Ino}{d:Sn}{n:Nat}(h:DirOK n d) (q:Path):DirOK n (zgl ls L d q).1:=by
 have hb:DirOK n (zc1 ls (x9 q) d.dirs YthaaekcaaecdeaaGreatDoor.sn0):=by
  have:=zqa (ls:=ls) (p:=x9 q) d.dirs YthaaekcaaecdeaaGreatDoor.sn0
  refine⟨fun i hi=>?_,?_⟩
  ·rcases this.2 i hi with h' | h'
   ·simp [YthaaekcaaecdeaaGreatDoor.sn0] at h'
   ·exact h.lt i h'
  ·have h1:=this.1;have h2:YthaaekcaaecdeaaGreatDoor.sn0.dirs.length=0:=rfl;have:=h.few;omega
 unfold zgl
 split
 ·split
  ·exact hb
  ·split
   ·exact .sn0
   ·split
    ·exact⟨by simp,by simp⟩
    ·refine⟨?_,?_⟩
     ·dsimp only
      split
      ·simp
      ·exact hb.lt
     ·dsimp only
      split
      ·simp
      ·exact hb.few
 ·exact hb
theorem qoc (w:World):(Instr.build zi #[(0,.agg #[.string (ByteArray.mk #[47]),.bool true,.string (strOf [])]),(2,.bool true)]).run P w=.ok (.agg (snC ⟨⟨[47],true,[]⟩,[],true⟩ (none,0,0)).toArray) w:=by kernel_rfl
set_option maxHeartbeats 4000000 in
theorem qfb {w:World}{H:Heap}{u:Nat}{pu:Value}{ls:List (List Fil)}(hw:w.heap=H) (hU:z9e H u pu ls) (hl:ls.length<=1000000) :
  qj P zfg #[.pointer (some ⟨u,0,none⟩)] w fun e w'=>∃ y,e=.returned (.agg (snC (zlg ls) y).toArray)/\Mine w'.heap H.size zav 1 y (intRow (zlg ls).dirs)/\Ext [] H w'.heap:=by
 refine zqi ?_
 unfold zkr
 refine ji hw fun w1 hw1=>?_
 have e1:w1.heap.size=H.size+1:=by rw [hw1];simp
 have h2:w1.heap[H.size]?=some (.cells (snC sn0 (none,0,0)).toArray zi (0,0)):=by rw [hw1,qe9];exact zk
 refine qc (s:=.any) _ (qme _ _) ?_
 refine qc (s:=.any) _ (qoc _) ?_
 refine qaj _ _ rfl fun w3 hw3=>?_
 have h23:w3.heap[H.size]?=some (.cells (snC sn0 (none,0,0)).toArray zi (0,0)):=by rw [hw3];exact za1 h2
 have h3:w3.heap[H.size+1]?=some (.cells (snC ⟨⟨[47],true,[]⟩,[],true⟩ (none,0,0)).toArray zi (0,0)):=by rw [hw3,<-e1];exact zk
 have hx3:Ext [] H w3.heap:=by rw [hw3,hw1];exact (Ext.push _).push_own
 rw [e1]
 obtain⟨x,ms,u1,u2,u3,u4,u5⟩:=hU
 simp only [jc]
 refine jg (s:=.slc) (t:=x) rfl (hx3.get u1 (by simp)) rfl ?_
 refine zb3 (fun k s w'=>∃ (i:Nat) (y:Option Addr×Nat×Nat),s=(i:Int)/\k+i=ls.length/\w'.heap[H.size]?=some (.cells (snC sn0 (none,0,0)).toArray zi (0,0))/\w'.heap[H.size+1]?=some (.cells (snC ⟨⟨[47],true,[]⟩,List.range i,true⟩ y).toArray zi (0,0)) /\
  Mine w'.heap (H.size+2) zav 1 y (intRow (List.range i))/\Ext [] H w'.heap) ls.length ⟨0,(none,0,0),rfl,rfl,h23,h3,.inl ⟨rfl,rfl⟩,hx3⟩ ?_
 rintro k s w4 ⟨i,y,rfl,hk,g2,g3,hY,hx4⟩ K hK
 have hyl:=hY.len
 rw [len_intRow,List.length_range] at hyl
 have hlt:=lt_of_get g3
 refine zy (fun h=>?_) (fun h=>?_)
 ·refine jg (s:=.slc) (t:=y) rfl g3 rfl ?_
  refine z0y (us:=[.int .i64 (i:Int)]) Ei uSi rfl rfl (by omega) (by omega) rfl fun w6 hc6 hx6 hs6=>?_
  have hyb:∀ b∈jw y,H.size+2<=b:=jo hY
  refine zbx Ei (by omega) uSi (zar uSi) rfl (hY.ext hx6 (by simp)) (by omega) (Src.slc rfl hc6 rfl) (by intro v hv;simp at hv;subst hv;rfl) (by omega) fun y' w7 hm7 hl7 hx7 hs7=>?_
  have g27:=hx7.get (hx6.get g2 (by simp)) (fun h=>by have:=hyb _ h;omega)
  have g37:=hx7.get (hx6.get g3 (by simp)) (fun h=>by have:=hyb _ h;omega)
  refine zb8 rfl g37 (by simp [snC]) fun w8 hw8=>?_
  have hx78:Ext [H.size+1] w7.heap w8.heap:=by rw [hw8];exact Ext.set _ (by simp)
  refine jr ((i+1:Nat):Int) (by omega) (by omega) (by omega) ?_
  refine hK (k-1) _ _ (by omega) ⟨i+1,y',rfl,by omega,hx78.get g27 (by simp),by rw [hw8];exact qy g37,?_,?_⟩
  ·have:intRow (List.range (i+1))=intRow (List.range i)++[.int .i64 (i:Int)]:=by simp [intRow,List.range_succ]
   rw [this]
   exact hm7.ext hx78 (fun b hb hbm=>by have:=jo hm7 b hb;simp at hbm;omega)
  ·have h1:Ext [] H w7.heap:=(hx4.trans hx6).own hx7 (fun b hb hlt'=>by have:=hyb b hb;omega)
   rw [hw8];exact h1.set_own (.inl (by omega))
 ·have:i=ls.length:=by omega
  subst this
  refine xw rfl g3 rfl ?_
  refine qfl (s:=zlg ls) (x:=y) rfl g2 rfl fun w8 hw8=>?_
  refine xw rfl (by rw [hw8];exact qy g2) rfl ?_
  exact⟨y,rfl,(hY.ext (M:=[H.size]) (by rw [hw8];exact Ext.set _ (by simp)) (fun b hb hbm=>by have:=jo hY b hb;simp at hbm;omega)).mono (by omega),by rw [hw8];exact hx4.set_own (.inl (by omega))⟩
def zpx (ls:List (List Fil)) (L:List Ino) (q:Path):Nat->Sn->Sn×Bool
 | 0,s=>(s,true)
 | k+1,s=>if (zgl ls L s (q.take (q.length-k))).2=false\/s.file.dir=false then (sn0,false) else zpx ls L q k (zgl ls L s (q.take (q.length-k))).1
theorem zyb {ls:List (List Fil)}{L:List Ino}{q:Path}{n:Nat}:∀ (k:Nat) (s:Sn),DirOK n s->DirOK n (zpx ls L q k s).1
 | 0,s,h=>h
 | k+1,s,h=>by
  unfold zpx
  split
  ·exact .sn0
  ·exact zyb k _ (h.over _)
set_option maxHeartbeats 4000000 in
theorem qi4 {w:World}{H:Heap}{u p m n nc:Nat}{nn bb:Int}{ls:List (List Fil)}{L:List Ino}{a:Option Addr}{q:Path}(hw:w.heap=H) (hU:zw6 H u p m nn bb ls L) (hl:ls.length<=1000000)
  (hL:Cells H a (strRow q)) (hn:n=q.length) (hnc:n<=nc) (hq:okP q) :
  qj P zhy #[.pointer (some ⟨u,0,none⟩),.slice a n nc] w fun e w'=>∃ y,e=.returned (.tuple #[.agg (snC (zpx ls L q q.length (zlg ls)).1 y).toArray,.bool (zpx ls L q q.length (zlg ls)).2])/\Mine w'.heap H.size zav 1 y (intRow (zpx ls L q q.length (zlg ls)).1.dirs)/\Ext [] H w'.heap:=by
 refine zp9 ?_
 unfold zk2
 refine ji hw fun w1 hw1=>?_
 have e1:w1.heap.size=H.size+1:=by rw [hw1];simp
 have h4:w1.heap[H.size]?=some (.cells (snC sn0 (none,0,0)).toArray zi (0,0)):=by rw [hw1,qe9];exact zk
 have hx1:Ext [] H w1.heap:=by rw [hw1];exact .push _
 refine zh (qfb rfl (hU.1.ext hx1) hl) ?_
 rintro e w2 ⟨y,rfl,hY,hx2⟩
 refine⟨_,rfl,?_⟩
 refine qaj _ _ rfl fun w4 hw4=>?_
 have hx24:Ext [] w2.heap w4.heap:=by rw [hw4];exact .push _
 have h6:w4.heap[w2.heap.size]?=some (.cells (snC (zlg ls) y).toArray zi (0,0)):=by rw [hw4];exact zk
 have hx14:=hx2.trans hx24
 obtain⟨B,hB⟩:∃ B,B=w2.heap.size:=⟨_,rfl⟩
 rw [<-hB] at h6 |-
 have hBs:H.size+1<=B:=by have:=hx2.1;omega
 have hq8:=hq.2
 obtain⟨Res,hRes⟩:∃ Res,Res=zpx ls L q q.length (zlg ls):=⟨_,rfl⟩
 rw [<-hRes]
 refine zb3 (fun k s w'=>∃ (i:Nat) (st:Sn) (y:Option Addr×Nat×Nat),s=(i:Int)/\k+i=q.length/\zpx ls L q k st=Res/\DirOK ls.length st/\w'.heap[H.size]?=some (.cells (snC sn0 (none,0,0)).toArray zi (0,0))/\w'.heap[B]?=some (.cells (snC st y).toArray zi (0,0)) /\
  B∉jw y/\Mine w'.heap (H.size+1) zav 1 y (intRow st.dirs)/\Ext [] H w'.heap) q.length ⟨0,zlg ls,y,rfl,rfl,hRes.symm,.root,hx14.get h4 (by simp),h6,fun hb=>by have:=(zki hY _ hb).1;omega,(hY.ext hx24 (by simp)).mono (by omega),hx1.trans hx14⟩ ?_
 rintro k s w5 ⟨i,st,y,rfl,hk,he,hd,g4,g6,hyB,hY,hx5⟩ K hK
 refine zy (fun h=>?_) (fun h=>?_)
 ·obtain⟨k,rfl⟩:∃ k',k=k'+1:=⟨k-1,by omega⟩
  have hql:q.length-k=i+1:=by omega
  unfold zpx at he
  rw [hql] at he
  obtain⟨r,hr⟩:∃ r,r=zgl ls L st (q.take (i+1)):=⟨_,rfl⟩
  rw [<-hr] at he
  refine joinP_of (fun _ w'=>∃ (st':Sn) (y':Option Addr×Nat×Nat),zpx ls L q k st'=Res/\DirOK ls.length st'/\w'.heap[H.size]?=some (.cells (snC sn0 (none,0,0)).toArray zi (0,0))/\w'.heap[B]?=some (.cells (snC st' y').toArray zi (0,0)) /\
   B∉jw y'/\Mine w'.heap (H.size+1) zav 1 y' (intRow st'.dirs)/\Ext [] H w'.heap) ?_ ?_
  ·refine jf ?_
   refine vw rfl fun w6 hw6=>?_
   rw [<-hw6] at g4 g6 hY hx5
   refine jr ((i+1:Nat):Int) (by omega) (by omega) (by omega) ?_
   refine xw rfl g6 rfl ?_
   obtain⟨a',hcut,hLc⟩:=zrz (i:=i+1) (n:=((i+1:Nat):Int)) zj6 zs9 (hL.ext hx5 (by simp)) hnc (by omega) rfl
   rw [Nat.mul_one,zdi] at hLc
   refine qc (s:=.slc) (a',i+1,nc) (hcut _) ?_
   have hyl:y.2.1=st.dirs.length:=by have:=hY.len;rw [len_intRow] at this;omega
   have hlt6:=lt_of_get g6
   have tail:∀ {W:World}{b8:Nat}{y':Option Addr×Nat×Nat},W.heap[H.size]?=some (.cells (snC sn0 (none,0,0)).toArray zi (0,0))->W.heap[B]?=some (.cells (snC st y).toArray zi (0,0))->W.heap[b8]?=some (.cells (snC r.1 y').toArray zi (0,0))->B∉jw y'->Mine W.heap (H.size+1) zav 1 y' (intRow r.1.dirs)->Ext [] H W.heap ->
     Go.Fw.joinP Unit (fun k_3=>
      qw (!r.2) (
      zad P (Instr.build zi #[]) .any W fun (t35:Value)=>
      zah P (storeVar zi (⟨H.size,0,none⟩:Addr) t35) W fun w_10=>
      ldA P 5 (⟨H.size,0,none⟩:Addr) w_10 fun t4=>
      (∃ y,Ending.returned (Value.tuple #[(Value.agg t4),(Value.bool false)])=.returned (.tuple #[.agg (snC Res.1 y).toArray,.bool Res.2])/\Mine w_10.heap H.size zav 1 y (intRow Res.1.dirs)/\Ext [] H w_10.heap)) (
      ld .bool (⟨B,1,none⟩:Addr) W fun (t32:Bool)=>
      qw (!t32) (
      zad P (Instr.build zi #[]) .any W fun (t35_1:Value)=>
      zah P (storeVar zi (⟨H.size,0,none⟩:Addr) t35_1) W fun w_11=>
      ldA P 5 (⟨H.size,0,none⟩:Addr) w_11 fun t4_1=>
      (∃ y,Ending.returned (Value.tuple #[(Value.agg t4_1),(Value.bool false)])=.returned (.tuple #[.agg (snC Res.1 y).toArray,.bool Res.2])/\Mine w_11.heap H.size zav 1 y (intRow Res.1.dirs)/\Ext [] H w_11.heap)) (
      k_3 () W))) (fun _ w_12=>
      ldA P 5 (⟨b8,0,none⟩:Addr) w_12 fun t36=>
      zah P (storeVar zi (⟨B,0,none⟩:Addr) (Value.agg t36)) w_12 fun w_13=>
      ∃ (st':Sn) (y':Option Addr×Nat×Nat),zpx ls L q k st'=Res/\DirOK ls.length st'/\w_13.heap[H.size]?=some (.cells (snC sn0 (none,0,0)).toArray zi (0,0))/\w_13.heap[B]?=some (.cells (snC st' y').toArray zi (0,0)) /\
       B∉jw y'/\Mine w_13.heap (H.size+1) zav 1 y' (intRow st'.dirs)/\Ext [] H w_13.heap):=by
    intro W b8 y' q4 q6 q8 hyB' hY' hxW
    have bad:(r.2=false\/st.file.dir=false)->zad P (Instr.build zi #[]) .any W fun (t35:Value)=>
      zah P (storeVar zi (⟨H.size,0,none⟩:Addr) t35) W fun w_10=>
      ldA P 5 (⟨H.size,0,none⟩:Addr) w_10 fun t4=>
      (∃ y,Ending.returned (Value.tuple #[(Value.agg t4),(Value.bool false)])=.returned (.tuple #[.agg (snC Res.1 y).toArray,.bool Res.2])/\Mine w_10.heap H.size zav 1 y (intRow Res.1.dirs)/\Ext [] H w_10.heap):=by
     intro hb
     rw [if_pos hb] at he
     refine qc (s:=.any) _ (qlu _) ?_
     refine qfl rfl q4 rfl fun w7 hw7=>?_
     refine xw rfl (by rw [hw7];exact qy q4) rfl ?_
     rw [<-he]
     exact⟨(none,0,0),rfl,.inl ⟨rfl,rfl⟩,by rw [hw7];exact hxW.set_own (.inl (by omega))⟩
    refine joinP_of (fun _ w'=>w'=W/\r.2=true/\st.file.dir=true) ?_ ?_
    ·refine zbv (p:=r.2=false) (by simp) (fun hr2=>bad (.inl hr2)) (fun hr2=>?_)
     refine jg (s:=.bool) (t:=st.file.dir) rfl q6 rfl ?_
     refine zbv (p:=st.file.dir=false) (by simp) (fun hr3=>bad (.inr hr3)) (fun hr3=>⟨rfl,by simpa using hr2,by simpa using hr3⟩)
    ·rintro _ w12 ⟨rfl,hr2,hr3⟩
     rw [if_neg (by simp [hr2,hr3])] at he
     refine xw rfl q8 rfl ?_
     refine qfl rfl q6 rfl fun w13 hw13=>?_
     refine⟨r.1,y',he,by rw [hr];exact hd.over _,by rw [hw13];exact zd8 q4 (by omega),by rw [hw13];exact qy q6,hyB',?_,by rw [hw13];exact hxW.set_own (.inl (by omega))⟩
     exact hY'.ext (M:=[B]) (by rw [hw13];exact Ext.set _ (by simp)) (fun b hb hbm=>by simp at hbm;subst hbm;exact hyB' hb)
   refine⟨?_,?_⟩
   ·refine zh (z4x rfl (hU.ext hx5) hY.cells hyl hd.lt (by have:=hd.few;omega) hLc (by rw [List.length_take,Nat.min_eq_left (by omega)]) (show i+1<=nc by omega) (hq.take _)) ?_
    rintro e w7 ⟨y',rfl,hY',hx7⟩
    rw [<-hr] at hY' |-
    refine⟨(_,_),rfl,?_⟩
    refine ji rfl fun w8 hw8=>?_
    have hx8:Ext [] w7.heap w8.heap:=by rw [hw8];exact .push _
    have hx68:=hx7.trans hx8
    have q8:w8.heap[w7.heap.size]?=some (.cells (snC sn0 (none,0,0)).toArray zi (0,0)):=by rw [hw8,qe9];exact zk
    have hlt7:=hx7.1
    refine⟨qc (s:=.slc) (a',i+1,nc) (hcut _) rfl,xw rfl (hx68.get g6 (by simp)) rfl rfl,?_⟩
    refine qfl (s:=r.1) (x:=y') rfl q8 rfl fun w9 hw9=>?_
    have hx89:Ext [w7.heap.size] w8.heap w9.heap:=by rw [hw9];exact Ext.set _ (by simp)
    have hin:=zki hY'
    refine tail (hx89.get (hx68.get g4 (by simp)) (by simp;omega)) (hx89.get (hx68.get g6 (by simp)) (by simp;omega)) (by rw [hw9];exact qy q8) (fun hb=>by have:=jo hY' _ hb;omega)
     (((hY'.ext hx8 (by simp)).ext hx89 (fun b hb hbm=>by have:=(hin b hb).1;simp at hbm;omega)).mono (by omega)) ?_
    rw [hw9];exact (hx5.trans hx68).set_own (.inl (by omega))
   ·refine ji rfl fun w8 hw8=>?_
    have hx8:Ext [] w6.heap w8.heap:=by rw [hw8];exact .push _
    have q8:w8.heap[w6.heap.size]?=some (.cells (snC sn0 (none,0,0)).toArray zi (0,0)):=by rw [hw8,qe9];exact zk
    refine⟨qc (s:=.slc) (a',i+1,nc) (hcut _) rfl,xw rfl (hx8.get g6 (by simp)) rfl rfl,?_⟩
    refine zh (z4x rfl (hU.ext (hx5.trans hx8)) (hY.ext hx8 (by simp)).cells hyl hd.lt (by have:=hd.few;omega) (hLc.ext hx8 (by simp)) (by rw [List.length_take,Nat.min_eq_left (by omega)]) (show i+1<=nc by omega) (hq.take _)) ?_
    rintro e w7 ⟨y',rfl,hY',hx7⟩
    rw [<-hr] at hY' |-
    refine⟨(_,_),rfl,?_⟩
    have hx67:=hx8.trans hx7
    have q87:=hx7.get q8 (by simp)
    refine qfl (s:=r.1) (x:=y') rfl q87 rfl fun w9 hw9=>?_
    have hx79:Ext [w6.heap.size] w7.heap w9.heap:=by rw [hw9];exact Ext.set _ (by simp)
    have hge:=jo hY'
    have hs8:w8.heap.size=w6.heap.size+1:=by rw [hw8];simp
    refine tail (hx79.get (hx67.get g4 (by simp)) (by simp;omega)) (hx79.get (hx67.get g6 (by simp)) (by simp;omega)) (by rw [hw9];exact qy q87) (fun hb=>by have:=hge _ hb;omega)
     ((hY'.ext hx79 (fun b hb hbm=>by have:=hge b hb;simp at hbm;omega)).mono (by omega)) ?_
    rw [hw9];exact (hx5.trans hx67).set_own (.inl (by omega))
  ·rintro _ w6 ⟨st',y',h1,h2⟩
   refine jr ((i+1:Nat):Int) (by omega) (by omega) (by omega) ?_
   exact hK k _ _ (by omega) ⟨i+1,st',y',rfl,by omega,h1,h2⟩
 ·have hk0:k=0:=by omega
  subst hk0
  unfold zpx at he
  refine xw rfl g6 rfl ?_
  refine qfl rfl g4 rfl fun w8 hw8=>?_
  refine xw rfl (by rw [hw8];exact qy g4) rfl ?_
  rw [<-he]
  exact⟨y,rfl,(hY.ext (M:=[H.size]) (by rw [hw8];exact Ext.set _ (by simp)) (fun b hb hbm=>by have:=jo hY b hb;simp at hbm;omega)).mono (by omega),by rw [hw8];exact hx5.set_own (.inl (by omega))⟩
end Go.Proofs.YthaaekcaaecdeaaGreatDoor
namespace Go.Proofs
open Go.Shelf
def Tryz.sortS_ren:Go.Shelf.Ren:=⟨fun | 190=>162 | 125=>127 | 258=>213 | 128=>179 | 129=>180 | 302=>235 | 303=>236 | 304=>237 | 305=>238 | 306=>239 | 307=>240 | 308=>241 | 309=>242 | 310=>243 | 333=>249 | 329=>218 | 330=>219 | 334=>250 | 335=>251 | 336=>181 | 344=>256 | n=>n,fun | 31=>39 | 9=>9 | 3=>3 | 46=>155 | 0=>0 | 51=>298 | 53=>147 | 4=>4 | 183=>306 | 182=>305 | 131=>310 | 5=>5 | 218=>339 | 222=>342 | 228=>359 | 229=>360 | n=>n,fun | n=>n⟩
theorem Tryz.sortS:Go.Proofs.Lays.n190 Tryz.prog Tryz.sortS_ren:={
 mixed:=by kernel_rfl
 f125:=Tryz.func127.trans (congrArg some (by kernel_rfl))
 f128:=Tryz.func179.trans (congrArg some (by kernel_rfl))
 f129:=Tryz.func180.trans (congrArg some (by kernel_rfl))
 f190:=Tryz.func162.trans (congrArg some (by kernel_rfl))
 f258:=Tryz.func213.trans (congrArg some (by kernel_rfl))
 f302:=Tryz.func235.trans (congrArg some (by kernel_rfl))
 f303:=Tryz.func236.trans (congrArg some (by kernel_rfl))
 f304:=Tryz.func237.trans (congrArg some (by kernel_rfl))
 f305:=Tryz.func238.trans (congrArg some (by kernel_rfl))
 f306:=Tryz.func239.trans (congrArg some (by kernel_rfl))
 f307:=Tryz.func240.trans (congrArg some (by kernel_rfl))
 f308:=Tryz.func241.trans (congrArg some (by kernel_rfl))
 f309:=Tryz.func242.trans (congrArg some (by kernel_rfl))
 f310:=Tryz.func243.trans (congrArg some (by kernel_rfl))
 f329:=Tryz.func218.trans (congrArg some (by kernel_rfl))
 f330:=Tryz.func219.trans (congrArg some (by kernel_rfl))
 f333:=Tryz.func249.trans (congrArg some (by kernel_rfl))
 f334:=Tryz.func250.trans (congrArg some (by kernel_rfl))
 f335:=Tryz.func251.trans (congrArg some (by kernel_rfl))
 f336:=Tryz.func181.trans (congrArg some (by kernel_rfl))
 f344:=Tryz.func256.trans (congrArg some (by kernel_rfl))
 t0:=Tryz.underlying0
 a0:=Tryz.isAgg0
 z0:=Tryz.sizeOf0
 v0:=Tryz.zeroValue0
 t3:=Tryz.underlying3
 a3:=Tryz.isAgg3
 z3:=Tryz.sizeOf3
 v3:=Tryz.zeroValue3
 t4:=Tryz.underlying4
 a4:=Tryz.isAgg4
 z4:=Tryz.sizeOf4
 v4:=Tryz.zeroValue4
 t5:=Tryz.underlying5
 a5:=Tryz.isAgg5
 z5:=Tryz.sizeOf5
 v5:=Tryz.zeroValue5
 t9:=Tryz.underlying9
 a9:=Tryz.isAgg9
 z9:=Tryz.sizeOf9
 v9:=Tryz.zeroValue9
 t31:=Tryz.underlying39
 a31:=Tryz.isAgg39
 z31:=Tryz.sizeOf39
 v31:=Tryz.zeroValue39
 t46:=Tryz.underlying155
 a46:=Tryz.isAgg155
 z46:=Tryz.sizeOf155
 v46:=Tryz.zeroValue155
 t51:=Tryz.underlying298
 a51:=Tryz.isAgg298
 z51:=Tryz.sizeOf298
 v51:=Tryz.zeroValue298
 t53:=Tryz.underlying147
 a53:=Tryz.isAgg147
 z53:=Tryz.sizeOf147
 v53:=Tryz.zeroValue147
 t131:=Tryz.underlying310
 a131:=Tryz.isAgg310
 z131:=Tryz.sizeOf310
 v131:=Tryz.zeroValue310
 t182:=Tryz.underlying305
 a182:=Tryz.isAgg305
 z182:=Tryz.sizeOf305
 v182:=Tryz.zeroValue305
 t183:=Tryz.underlying306
 a183:=Tryz.isAgg306
 z183:=Tryz.sizeOf306
 v183:=Tryz.zeroValue306
 t218:=Tryz.underlying339
 a218:=Tryz.isAgg339
 z218:=Tryz.sizeOf339
 v218:=Tryz.zeroValue339
 t222:=Tryz.underlying342
 a222:=Tryz.isAgg342
 z222:=Tryz.sizeOf342
 v222:=Tryz.zeroValue342
 t228:=Tryz.underlying359
 a228:=Tryz.isAgg359
 z228:=Tryz.sizeOf359
 v228:=Tryz.zeroValue359
 t229:=Tryz.underlying360
 a229:=Tryz.isAgg360
 z229:=Tryz.sizeOf360
 v229:=Tryz.zeroValue360 }
end Go.Proofs
namespace Go.Proofs.YthaaekcaaecdeaaGreatDoor
open Go Go.Fw Go.Proofs Go.Sort
theorem z1j (L:List UInt8):encStr L=.string (strOf L):=rfl
def sortS (xs:List (List UInt8)):List (List UInt8):=xs.mergeSort fun a b=>decide (a<=b)
theorem qfx {w:World}{H:Heap}{B:Nat}{x:Option Addr×Nat×Nat}{xs:List (List UInt8)}(hw:w.heap=H) (hM:Mine H B qx 1 x (strRow xs)) (hlen:xs.length<=1099511627776) :
  qj P ze5 #[.slice x.1 x.2.1 x.2.2] w fun e w'=>e=.returned (.tuple #[])/\Mine w'.heap B qx 1 x (strRow (sortS xs))/\Ext (jw x) H w'.heap:=by
 subst hw
 have hl:=hM.len
 rw [zaj] at hl
 refine⟨by kernel_rfl,?_⟩
 rcases hM with⟨rfl,hnil⟩ | ⟨b,c,hx1,hB,hb,hc,hl2,hle,he⟩
 ·have hx0:xs=[]:=by
   have:=congrArg List.length hnil
   rw [zaj] at this
   exact List.eq_nil_of_length_eq_zero this
  subst hx0
  refine (Any.slices_Sort_string_none Tryz.sortS none 0 w).mono ?_
  rintro e w' ⟨he,hw'⟩
  subst hw'
  exact⟨⟨he,.inl ⟨rfl,by simp [sortS,strRow]⟩,.refl _ _⟩,.refl _⟩
 ·obtain⟨xa,xl,xc⟩:=x
  simp only [Nat.mul_one] at hx1 hl hc hl2 hle
  subst hx1
  rw [<-hl] at hle |-
  have hlt:b < w.heap.size:=lt_of_get hb
  have hget:∀ t,t < xs.length->c[t]?=(strRow xs)[t]?:=by
   intro t ht
   rw [<-he,Array.getElem?_toList,Array.getElem?_extract]
   rw [if_pos (by rw [zaj];omega)]
   simp
  have hH:Holds encStr w b 0 xs.toArray:=by
   intro j hj
   simp only [List.size_toArray] at hj
   refine⟨?_,zq6 rfl hb⟩
   rw [Nat.zero_add,zrf rfl hb,hget j hj,z1j]
   simp [strRow,hj]
  refine (Any.slices_Sort_string Tryz.sortS b 0 xc xs w hH hlt (by omega)).mono ?_
  rintro e w' ⟨rfl,n,os,rfl⟩
  have hps:(sortS xs).length=xs.length:=by simp [sortS]
  have hheap:(grow (putRow encStr (Sort.ahead w n) b 0 (xs.mergeSort fun x y=>decide (x<=y)).toArray) os).heap=(w.heap.setIfInBounds b (.cells (putCells encStr 0 (sortS xs).toArray c) qx (0,0)))++os:=by
   unfold grow putRow mapBlock
   simp only [Sort.ahead]
   congr 1
   apply Array.ext_getElem?
   intro i
   rw [Array.getElem?_modify]
   by_cases hib:b=i
   ·subst hib
    simp only [if_pos,Array.getElem?_setIfInBounds_self_of_lt hlt,hb,Option.map_some]
    rfl
   ·rw [if_neg hib,Array.getElem?_setIfInBounds_ne hib]
  have hsz:(putCells encStr 0 (sortS xs).toArray c).size=c.size:=by simp [putCells]
  refine⟨⟨rfl,.inr ⟨b,_,rfl,hB,?_,hsz.trans (by simpa using hc),by simp [zaj,hps],hle,?_⟩,?_⟩,?_⟩
  ·rw [hheap,Array.getElem?_append_left (by simpa using hlt),Array.getElem?_setIfInBounds_self_of_lt hlt]
  ·apply List.ext_getElem?
   intro t
   rw [Array.getElem?_toList,Array.getElem?_extract,zaj,hps]
   by_cases ht:t < xs.length
   ·rw [if_pos (by omega)]
    have h6:t < c.size:=by omega
    simp only [putCells,Nat.zero_add,Array.getElem?_mapIdx,Array.getElem?_eq_getElem h6,Option.map_some]
    rw [if_pos ⟨Nat.zero_le _,by simp [hps,ht]⟩]
    have h7:t < (sortS xs).length:=by omega
    simp [strRow,h7,z1j]
   ·rw [if_neg (by omega),List.getElem?_eq_none (by rw [zaj];omega)]
  ·rw [hheap]
   refine⟨by simp,fun i hi hn=>?_⟩
   rw [Array.getElem?_append_left (by simpa using hi)]
   exact Array.getElem?_setIfInBounds_ne (by rintro rfl;exact hn (by simp [jw]))
  ·unfold grow putRow mapBlock
   exact⟨rfl,rfl,rfl,by simp [Sort.ahead]⟩
end Go.Proofs.YthaaekcaaecdeaaGreatDoor
namespace Go.Proofs
open Go.Shelf
def Tryz.sortD_ren:Go.Shelf.Ren:=⟨fun | 6=>67 | 15=>127 | 14=>126 | 28=>179 | 29=>180 | 20=>171 | 21=>172 | 22=>173 | 23=>174 | 24=>175 | 25=>176 | 26=>177 | 27=>178 | 46=>217 | 47=>218 | 48=>219 | 49=>220 | 50=>221 | 57=>244 | n=>n,fun | 22=>79 | 24=>84 | 25=>163 | 3=>3 | 39=>155 | 0=>0 | 53=>298 | 55=>147 | 4=>4 | 46=>306 | 45=>305 | 50=>310 | 5=>5 | 9=>9 | 66=>339 | 70=>342 | 76=>359 | 77=>360 | n=>n,fun | n=>n⟩
theorem Tryz.sortD:Go.Proofs.SlLaysF0.n6 Tryz.prog Tryz.sortD_ren:={
 mixed:=by kernel_rfl
 f6:=⟨Tryz.f67.name,by decide,Tryz.func67.trans (congrArg some (by kernel_rfl))⟩
 f14:=⟨Tryz.f126.name,by decide,Tryz.func126.trans (congrArg some (by kernel_rfl))⟩
 f15:=Tryz.func127.trans (congrArg some (by kernel_rfl))
 f20:=⟨Tryz.f171.name,by decide,Tryz.func171.trans (congrArg some (by kernel_rfl))⟩
 f21:=⟨Tryz.f172.name,by decide,Tryz.func172.trans (congrArg some (by kernel_rfl))⟩
 f22:=⟨Tryz.f173.name,by decide,Tryz.func173.trans (congrArg some (by kernel_rfl))⟩
 f23:=⟨Tryz.f174.name,by decide,Tryz.func174.trans (congrArg some (by kernel_rfl))⟩
 f24:=⟨Tryz.f175.name,by decide,Tryz.func175.trans (congrArg some (by kernel_rfl))⟩
 f25:=⟨Tryz.f176.name,by decide,Tryz.func176.trans (congrArg some (by kernel_rfl))⟩
 f26:=⟨Tryz.f177.name,by decide,Tryz.func177.trans (congrArg some (by kernel_rfl))⟩
 f27:=⟨Tryz.f178.name,by decide,Tryz.func178.trans (congrArg some (by kernel_rfl))⟩
 f28:=Tryz.func179.trans (congrArg some (by kernel_rfl))
 f29:=Tryz.func180.trans (congrArg some (by kernel_rfl))
 f46:=⟨Tryz.f217.name,by decide,Tryz.func217.trans (congrArg some (by kernel_rfl))⟩
 f47:=Tryz.func218.trans (congrArg some (by kernel_rfl))
 f48:=Tryz.func219.trans (congrArg some (by kernel_rfl))
 f49:=⟨Tryz.f220.name,by decide,Tryz.func220.trans (congrArg some (by kernel_rfl))⟩
 f50:=⟨Tryz.f221.name,by decide,Tryz.func221.trans (congrArg some (by kernel_rfl))⟩
 f57:=⟨Tryz.f244.name,by decide,Tryz.func244.trans (congrArg some (by kernel_rfl))⟩
 t0:=Tryz.underlying0
 a0:=Tryz.isAgg0
 z0:=Tryz.sizeOf0
 v0:=Tryz.zeroValue0
 t3:=Tryz.underlying3
 a3:=Tryz.isAgg3
 z3:=Tryz.sizeOf3
 v3:=Tryz.zeroValue3
 t4:=Tryz.underlying4
 a4:=Tryz.isAgg4
 z4:=Tryz.sizeOf4
 v4:=Tryz.zeroValue4
 t5:=Tryz.underlying5
 a5:=Tryz.isAgg5
 z5:=Tryz.sizeOf5
 v5:=Tryz.zeroValue5
 t9:=Tryz.underlying9
 a9:=Tryz.isAgg9
 z9:=Tryz.sizeOf9
 v9:=Tryz.zeroValue9
 t22:=Tryz.underlying79
 a22:=Tryz.isAgg79
 z22:=Tryz.sizeOf79
 v22:=Tryz.zeroValue79
 t25:=Tryz.underlying163
 a25:=Tryz.isAgg163
 z25:=Tryz.sizeOf163
 v25:=Tryz.zeroValue163
 t39:=Tryz.underlying155
 a39:=Tryz.isAgg155
 z39:=Tryz.sizeOf155
 v39:=Tryz.zeroValue155
 t45:=Tryz.underlying305
 a45:=Tryz.isAgg305
 z45:=Tryz.sizeOf305
 v45:=Tryz.zeroValue305
 t46:=Tryz.underlying306
 a46:=Tryz.isAgg306
 z46:=Tryz.sizeOf306
 v46:=Tryz.zeroValue306
 t50:=Tryz.underlying310
 a50:=Tryz.isAgg310
 z50:=Tryz.sizeOf310
 v50:=Tryz.zeroValue310
 t53:=Tryz.underlying298
 a53:=Tryz.isAgg298
 z53:=Tryz.sizeOf298
 v53:=Tryz.zeroValue298
 t55:=Tryz.underlying147
 a55:=Tryz.isAgg147
 z55:=Tryz.sizeOf147
 v55:=Tryz.zeroValue147
 t66:=Tryz.underlying339
 a66:=Tryz.isAgg339
 z66:=Tryz.sizeOf339
 v66:=Tryz.zeroValue339
 t70:=Tryz.underlying342
 a70:=Tryz.isAgg342
 z70:=Tryz.sizeOf342
 v70:=Tryz.zeroValue342
 t76:=Tryz.underlying359
 a76:=Tryz.isAgg359
 z76:=Tryz.sizeOf359
 v76:=Tryz.zeroValue359
 t77:=Tryz.underlying360
 a77:=Tryz.isAgg360
 z77:=Tryz.sizeOf360
 v77:=Tryz.zeroValue360 }
end Go.Proofs
