/- Part 4 of the texts below the card, joined. -/
import Derived.Test.YtbmegmbnlajbbaaGreatDoorTRpc
import Derived.DeepKeys3
import Derived.Maps.RangeRun
import Derived.Laws.BytesString
import Derived.Lib.BytesEntry
import Derived.Lib.Bytealg
import Derived.Laws.Externs
import Derived.Test.YtbmegmbnlajbbaaGreatDoorTRpa
import Derived.Shelf.SlSortCmp.WholeK
import Derived.Shelf.SlSortCmp.NoneTotal
import Derived.Great.BuildSlice
import Derived.Sort.LotA
import Derived.Shelf.SlSortCmp.Insertion
import Derived.Laws.Strings
import Derived.Lib.Builder
import Derived.Lib.MakeNoZero
import Derived.Lib.UnsafeStr
namespace Go.Fw
open Go
def IxO (v:Option Value) (d n:Nat):Prop:=(v=none/\n=d)\/∃ k,v=some (.int k (n:Int))
theorem IxO.no {d:Nat}:IxO none d d:=.inl ⟨rfl,rfl⟩
theorem IxO.yes {d n:Nat}{k:IntKind}{i:Int}(h:i=(n:Int)):IxO (some (.int k i)) d n:=.inr ⟨k,by rw [h]⟩
section
variable {P:Program}{w:World}
theorem zqx {isS:Bool}{len cap l h:Nat}{lo hi:Option Value}(hlo:IxO lo 0 l) (hhi:IxO hi len h) (h1:l<=h) (h2:h<=cap) :
  (Instr.sliceBounds isS len cap lo hi none).run P w=.ok (l,h,cap) w:=by
 have eh:∀ k code,(Instr.sliceBound (.int k (h:Int)) cap code).run P w=.ok h w:=by
  intro k code
  simp [Instr.sliceBound,asIntOf,h2]
 have el:∀ k code,(Instr.sliceBound (.int k (l:Int)) h code).run P w=.ok l w:=by
  intro k code
  simp [Instr.sliceBound,asIntOf,h1]
 rcases hlo with⟨rfl,rfl⟩ | ⟨k,rfl⟩ <;> rcases hhi with⟨rfl,rfl⟩ | ⟨k',rfl⟩ <;> simp [Instr.sliceBounds,eh,el]
theorem za9 {t e:TypeId}{sz:Nat}{a:Option Addr}{len cap l h:Nat}{lo hi:Option Value}(hu:P.underlying t=some (.slice e)) (hs:(P.info? e).map (·.size)=some sz) (hlo:IxO lo 0 l) (hhi:IxO hi len h) (h1:l<=h) (h2:h<=cap) :
  (Instr.sliceAt t (.slice a len cap) lo hi none).run P w=.ok (.slice (if cap=l then a else a.map (·.add (l * sz))) (h-l) (cap-l)) w:=by
 simp [Instr.sliceAt,Instr.slice,ql hu,zqx hlo hhi h1 h2,zb1 hs]
theorem zdp {t e:TypeId}{sz n:Nat}{a:Addr}{l h:Nat}{lo hi:Option Value}(hu:P.underlying t=some (.array n e)) (hs:(P.info? e).map (·.size)=some sz) (hlo:IxO lo 0 l) (hhi:IxO hi n h) (h1:l<=h) (h2:h<=n) :
  (Instr.sliceAt t (.pointer (some a)) lo hi none).run P w=.ok (.slice (some (if n=l then a else a.add (l * sz))) (h-l) (n-l)) w:=by
 simp [Instr.sliceAt,ql hu,Instr.sureAddr,zqx hlo hhi h1 h2,zb1 hs]
theorem zyf {t:TypeId}{s:ByteArray}{l h:Nat}{lo hi:Option Value}(hu:P.underlying t=some .string) (hlo:IxO lo 0 l) (hhi:IxO hi s.size h) (h1:l<=h) (h2:h<=s.size) :
  (Instr.sliceAt t (.string s) lo hi none).run P w=.ok (.string (s.extract l h)) w:=by
 simp [Instr.sliceAt,Instr.slice,ql hu,zqx hlo hhi h1 h2]
def Cells (H:Heap) (a:Option Addr) (vs:List Value):Prop:=
 vs=[]\/∃ b o c T fr,a=some ⟨b,o,none⟩/\H[b]?=some (.cells c T fr)/\o+vs.length<=c.size/\(c.extract o (o+vs.length)).toList=vs
theorem Cells.ext {M:List Nat}{H H':Heap}{a:Option Addr}{vs:List Value}(h:Cells H a vs) (hx:Ext M H H') (hM:∀ x,a=some x->vs≠[]->x.block∉M):Cells H' a vs:=by
 by_cases hv:vs=[]
 ·exact .inl hv
 rcases h with h | ⟨b,o,c,T,fr,rfl,hb,hn,he⟩
 ·exact .inl h
 ·exact .inr ⟨b,o,c,T,fr,rfl,hx.get hb (hM _ rfl hv),hn,he⟩
theorem Cells.lt {H:Heap}{a:Option Addr}{vs:List Value}(h:Cells H a vs) (hne:vs≠[]):∃ x,a=some x/\x.block < H.size:=by
 rcases h with h | ⟨b,o,c,T,fr,rfl,hb,hn,he⟩
 ·exact absurd h hne
 ·exact⟨_,rfl,lt_of_get hb⟩
theorem zwf {a:Addr}:(loadCells a 0).run P w=.ok #[] w:=rfl
theorem zvk {H:Heap}{a:Option Addr}{l c sz n:Nat}{vs:List Value}(hw:w.heap=H) (h:Cells H a vs) (hn:n * sz=vs.length):(Builtin.firstCells sz n (.slice a l c)).run P w=.ok vs.toArray w:=by
 rcases h with rfl | ⟨b,o,c',T,fr,rfl,hb,hle,he⟩
 ·simp only [List.length_nil] at hn
  cases a with
  | none=>rfl
  | some a=>simp only [Builtin.firstCells,hn,zwf]
 ·simp only [Builtin.firstCells,hn]
  rw [zon hw hb hle]
  congr 1
  apply Array.ext'
  simpa using he
theorem Cells.part {H:Heap}{a:Option Addr}{vs:List Value}(h:Cells H a vs) (k m:Nat) (hk:k+m<=vs.length):Cells H (a.map (·.add k)) ((vs.drop k).take m):=by
 rcases h with rfl | ⟨b,o,c,T,fr,rfl,hb,hle,he⟩
 ·left;simp
 ·right
  refine⟨b,o+k,c,T,fr,by simp [vg],hb,by simp;omega,?_⟩
  have hl:((vs.drop k).take m).length=m:=by simp;omega
  rw [hl]
  conv=>rhs;rw [<-he]
  simp only [Array.toList_extract,List.extract_eq_take_drop,List.drop_take,List.take_take,List.drop_drop]
  congr 1
  omega
theorem Cells.take {H:Heap}{a:Option Addr}{vs:List Value}(h:Cells H a vs) (m:Nat):Cells H a (vs.take m):=by
 by_cases hm:m<=vs.length
 ·have:=h.part 0 m (by omega)
  cases a with
  | none=>
   rcases h with rfl | ⟨b,o,c,T,fr,h,_⟩
   ·left;simp
   ·cases h
  | some a=>simpa [Addr.add] using this
 ·rw [List.take_of_length_le (by omega)];exact h
theorem Cells.drop {H:Heap}{a:Option Addr}{vs:List Value}(h:Cells H a vs) (k cap:Nat) (hcap:vs.length<=cap):Cells H (if cap=k then a else a.map (·.add k)) (vs.drop k):=by
 by_cases hk:k < vs.length
 ·rw [if_neg (by omega)]
  have:=h.part k (vs.length-k) (by omega)
  rwa [List.take_of_length_le (by simp)] at this
 ·left;exact List.drop_eq_nil_of_le (by omega)
def byteCells (L:List UInt8):List Value:=L.map fun b=>.int .u8 (b.toNat:Int)
@[simp] theorem jl {L:List UInt8}:(byteCells L).length=L.length:=by simp [byteCells]
theorem jo {L:List UInt8}:zcl (byteCells L):=by
 intro v hv
 simp only [byteCells,List.mem_map] at hv
 obtain⟨b,_,rfl⟩:=hv
 rfl
theorem zfv {L:List UInt8}{n:Nat}:(byteCells L).take n=byteCells (L.take n):=by simp [byteCells]
theorem zju {L:List UInt8}{n:Nat}:(byteCells L).drop n=byteCells (L.drop n):=by simp [byteCells]
theorem byteCells_append {L M:List UInt8}:byteCells L++byteCells M=byteCells (L++M):=by simp [byteCells]
theorem zc9 {L:List UInt8}{i:Nat}(h:i < L.length):(byteCells L)[i]?=some (.int .u8 ((L.getD i 0).toNat:Int)):=by
 simp [byteCells,List.getD_eq_getElem?_getD,List.getElem?_eq_getElem h]
theorem Cells.bytes {H:Heap}{a:Option Addr}{L:List UInt8}(h:Cells H a (byteCells L)) (hne:L≠[]):∃ b o c T fr,a=some ⟨b,o,none⟩/\H[b]?=some (.cells c T fr)/\o+L.length<=c.size/\Bytes c o (fun i=>L.getD i 0) L.length:=by
 rcases h with h | ⟨b,o,c,T,fr,rfl,hb,hn,he⟩
 ·exact absurd (by simpa [byteCells] using h) hne
 ·refine⟨b,o,c,T,fr,rfl,hb,by simpa using hn,fun i hi=>?_⟩
  have h1:=zc9 hi
  rw [<-he,Array.getElem?_toList,Array.getElem?_extract] at h1
  simp only [jl] at h1 hn
  rw [if_pos (by omega)] at h1
  exact h1
theorem zln {H:Heap}{b o:Nat}{c:Array Value}{T:TypeId}{fr:Nat×Nat}{L:List UInt8}(hb:H[b]?=some (.cells c T fr)) (hn:o+L.length<=c.size) (h:Bytes c o (fun i=>L.getD i 0) L.length):Cells H (some ⟨b,o,none⟩) (byteCells L):=by
 refine .inr ⟨b,o,c,T,fr,rfl,hb,by simpa using hn,?_⟩
 apply List.ext_getElem?
 intro i
 simp only [jl]
 by_cases hi:i < L.length
 ·rw [zc9 hi,Array.getElem?_toList,Array.getElem?_extract,if_pos (by omega),h i hi]
 ·rw [List.getElem?_eq_none (by simp;omega),List.getElem?_eq_none (by simp;omega)]
def zmj (c:Array Value):Prop:=∀ (i:Nat) (v:Value),c[i]?=some v->v.oneCell'=true
theorem zmj.set {c:Array Value}(h:zmj c){k:Nat}{x:Value}(hx:x.oneCell'=true):zmj (c.setIfInBounds k x):=by
 intro i v hv
 by_cases e:k=i
 ·subst e
  by_cases hk:k < c.size
  ·simp [hk] at hv;subst hv;exact hx
  ·rw [Array.getElem?_eq_none (by simp;omega)] at hv;cases hv
 ·rw [Array.getElem?_setIfInBounds_ne e] at hv
  exact h i v hv
theorem zmj.setCells {vs:List Value}:∀ {c:Array Value}{o:Nat},zmj c->zcl vs->zmj (setCells c o vs):=by
 induction vs with
 | nil=>intro c o h _;exact h
 | cons v r ih=>intro c o h h1;exact ih (h.set (h1 v (by simp))) fun x hx=>h1 x (by simp [hx])
theorem zmj.one {c:Array Value}(h:zmj c):zcl c.toList:=by
 intro v hv
 obtain⟨i,hi⟩:=List.getElem?_of_mem hv
 exact h i v (by simpa using hi)
theorem z8y {H:Heap}{st xt e ty:TypeId}{sz bd od dl dc sl sc:Nat}{sa:Option Addr}{cd:Array Value}{Td:TypeId}{vs:List Value}(hu:P.underlying st=some (.slice e)) (hs:(P.info? e).map (·.size)=some sz)
  (hw:w.heap=H) (hsrc:Cells H sa vs) (hn:min sl dl * sz=vs.length) (h1:zcl vs) (hd:H[bd]?=some (.cells cd Td (0,0))) (hdn:od+vs.length<=cd.size) :
  ∃ w',(Builtin.copy_ #[st,xt] ty #[.slice (some ⟨bd,od,none⟩) dl dc,.slice sa sl sc]).run P w=.ok (.int .i64 ((min sl dl:Nat):Int)) w'/\Calm w w'/\w'.heap=H.setIfInBounds bd (.cells (setCells cd od vs) Td (0,0)):=by
 obtain⟨w',h2,h4,h3⟩:=zmk (P:=P) vs w H cd od 0 h1 hw hd (by simpa using hdn)
 refine⟨w',?_,h4,by simpa using h3⟩
 have hf:=zvk (P:=P) (l:=sl) (c:=sc) (sz:=sz) (n:=min sl dl) hw hsrc hn
 have hmin:Nat.min sl dl=min sl dl:=rfl
 simp only [Builtin.copy_,List.getElem?_toArray,List.getElem?_cons_zero,List.getElem?_cons_succ,Sem.run_bind,ql hu,Result.andThen_ok,Builtin.lenOf,Sem.run_pure,zb1 hs,hmin,hf,h2,goInt]
def Mine (H:Heap) (B:Nat) (T:TypeId) (sz:Nat) (x:Option Addr×Nat×Nat) (vs:List Value):Prop:=
 (x=(none,0,0)/\vs=[])\/∃ b c,x.1=some ⟨b,0,none⟩/\B<=b/\H[b]?=some (.cells c T (0,0))/\c.size=x.2.2 * sz/\vs.length=x.2.1 * sz/\x.2.1<=x.2.2/\(c.extract 0 vs.length).toList=vs
theorem Mine.cells {H:Heap}{B:Nat}{T:TypeId}{sz:Nat}{x:Option Addr×Nat×Nat}{vs:List Value}(h:Mine H B T sz x vs):Cells H x.1 vs:=by
 rcases h with⟨_,rfl⟩ | ⟨b,c,hx,_,hb,hc,hl,hle,he⟩
 ·exact .inl rfl
 ·refine .inr ⟨b,0,c,T,(0,0),hx,hb,?_,by simpa using he⟩
  rw [hl,hc];simpa using Nat.mul_le_mul_right sz hle
theorem Mine.len {H:Heap}{B:Nat}{T:TypeId}{sz:Nat}{x:Option Addr×Nat×Nat}{vs:List Value}(h:Mine H B T sz x vs):vs.length=x.2.1 * sz:=by
 rcases h with⟨rfl,rfl⟩ | ⟨b,c,hx,_,hb,hc,hl,hle,he⟩
 ·simp
 ·exact hl
def jk (x:Option Addr×Nat×Nat):List Nat:=match x.1 with | some a=>[a.block] | none=>[]
theorem Mine.ext {M:List Nat}{H H':Heap}{B:Nat}{T:TypeId}{sz:Nat}{x:Option Addr×Nat×Nat}{vs:List Value}(h:Mine H B T sz x vs) (hx:Ext M H H') (hM:∀ b,b∈jk x->b∉M):Mine H' B T sz x vs:=by
 rcases h with h | ⟨b,c,hx1,hB,hb,hc,hl,hle,he⟩
 ·exact .inl h
 ·exact .inr ⟨b,c,hx1,hB,hx.get hb (hM b (by simp [jk,hx1])),hc,hl,hle,he⟩
theorem Mine.mono {H:Heap}{B B':Nat}{T:TypeId}{sz:Nat}{x:Option Addr×Nat×Nat}{vs:List Value}(h:Mine H B T sz x vs) (hB:B'<=B):Mine H B' T sz x vs:=by
 rcases h with h | ⟨b,c,hx1,hB1,hb⟩
 ·exact .inl h
 ·exact .inr ⟨b,c,hx1,Nat.le_trans hB hB1,hb⟩
theorem qx {H:Heap}{B:Nat}{T:TypeId}{sz:Nat}{x:Option Addr×Nat×Nat}{vs:List Value}(h:Mine H B T sz x vs):∀ b,b∈jk x->B<=b:=by
 rcases h with⟨rfl,_⟩ | ⟨b,c,hx1,hB,_⟩
 ·simp [jk]
 ·simp [jk,hx1,hB]
theorem qao (newLen:Nat):∀ (r c:Nat),c<=2 * newLen->Builtin.growBy newLen r c<=2 * newLen+192:=by
 intro r
 induction r with
 | zero=>intro c h;simp only [Builtin.growBy];omega
 | succ r ih=>
  intro c h
  simp only [Builtin.growBy]
  split
  ·omega
  ·rename_i hlt
   by_cases hb:c+(c+768) / 4<=2 * newLen
   ·exact ih _ hb
   ·cases r with
    | zero=>simp only [Builtin.growBy];omega
    | succ r=>
     simp only [Builtin.growBy]
     rw [if_pos (by omega)]
     omega
theorem z7l {newLen oldCap:Nat}(h:oldCap < newLen):Builtin.nextslicecap newLen oldCap<=2 * newLen+192:=by
 unfold Builtin.nextslicecap
 split
 ·omega
 ·split
  ·omega
  ·exact qao _ _ _ (by omega)
def Src (P:Program) (w:World) (v:Value) (sz n:Nat) (vs:List Value):Prop:=(Builtin.lenOf v).run P w=.ok n w/\vs.length=n * sz/\∀ w',w'.heap=w.heap->(Builtin.firstCells sz n v).run P w'=.ok vs.toArray w'
theorem Src.slc {H:Heap}{a:Option Addr}{l c sz:Nat}{vs:List Value}(hw:w.heap=H) (h:Cells H a vs) (hl:vs.length=l * sz):Src P w (.slice a l c) sz l vs:=
 ⟨rfl,hl,fun w' hw'=>zvk (hw'.trans hw) h hl.symm⟩
def strCells (s:ByteArray):List Value:=s.data.toList.map fun b=>.int .u8 b.toNat
theorem Src.str {s:ByteArray}:Src P w (.string s) 1 s.size (strCells s):=by
 refine⟨rfl,by simp [strCells],fun _ _=>?_⟩
 have:s.extract 0 s.size=s:=by
  ext1
  simp
 simp only [Builtin.firstCells,this,strCells,Sem.run_pure]
 congr 1
 apply Array.ext'
 simp
theorem z5g {H:Heap}{st xt e ty:TypeId}{info:TypeInfo}{z:Value}{sz B:Nat}{x:Option Addr×Nat×Nat}{y:Value}{n:Nat}{vs us:List Value}(hu:P.underlying st=some (.slice e)) (hx:∃ d,P.underlying xt=some d/\∀ k,d≠.int k)
  (hi:P.info? e=some info) (hsz:info.size=sz) (hz:info.zero=some z) (hzs:z.cells.size=sz) (hb0:info.bytes≠0) (hw:w.heap=H) (hown:Mine H B e sz x vs) (hB:B<=H.size) (hsrc:Src P w y sz n us) (h1:zcl us)
  (hroom:(2 * (x.2.1+n)+192) * info.bytes<=281474976710656) :
  ∃ x' w',(Builtin.append_ #[st,xt] ty #[.slice x.1 x.2.1 x.2.2,y]).run P w=.ok (.slice x'.1 x'.2.1 x'.2.2) w'/\Calm w w'/\Mine w'.heap B e sz x' (vs++us)/\x'.2.1=x.2.1+n/\Ext (jk x) H w'.heap/\(∀ b,b∈jk x'->b∈jk x\/H.size<=b):=by
 obtain⟨hlen,hul,hfirst⟩:=hsrc
 obtain⟨d,hxd,hxk⟩:=hx
 have hnoint:(d matches .int _)=false:=by
  cases d <;> first | rfl | (exact absurd rfl (hxk _))
 have hse:(P.info? e).map (·.size)=some sz:=by rw [hi];simp [hsz]
 have hti:(typeInfo e).run P w=.ok info w:=by simp [typeInfo,hi]
 by_cases hfit:x.2.1+n<=x.2.2
 ·-- there is room
  rcases hown with⟨rfl,rfl⟩ | ⟨b,c,hx1,hBb,hb,hc,hl,hle,he⟩
  ·simp only [Nat.zero_add,Nat.le_zero] at hfit
   subst hfit
   simp only [Nat.zero_mul] at hul
   obtain rfl:us=[]:=List.length_eq_zero_iff.1 hul
   refine⟨(none,0,0),w,?_,.refl w,.inl ⟨rfl,rfl⟩,rfl,by rw [hw];exact .refl _ _,fun b hb=>.inl hb⟩
   simp only [Builtin.append_,List.getElem?_toArray,List.getElem?_cons_zero,List.getElem?_cons_succ,Sem.run_bind,ql hu,ql hxd,Result.andThen_ok,Sem.run_pure,hnoint,Bool.false_eq_true,if_false,zb1 hse,hlen,
    Nat.add_zero,Nat.le_refl,if_true,Bool.not_false,hfirst w rfl]
  ·have hcs:vs.length+us.length<=c.size:=by
    rw [hl,hul,hc,<-Nat.add_mul]
    exact Nat.mul_le_mul_right sz hfit
   obtain⟨w',h2,h4,h3⟩:=zmk (P:=P) us w H c (x.2.1 * sz) 0 h1 hw hb (by rw [<-hl];simpa using hcs)
   refine⟨(x.1,x.2.1+n,x.2.2),w',?_,h4,?_,rfl,?_,fun b hb=>.inl hb⟩
   ·rw [hx1]
    simp only [Builtin.append_,List.getElem?_toArray,List.getElem?_cons_zero,List.getElem?_cons_succ,Sem.run_bind,ql hu,ql hxd,Result.andThen_ok,Sem.run_pure,hnoint,Bool.false_eq_true,if_false,zb1 hse,hlen,
     if_pos hfit,Bool.not_false,if_true,hfirst w rfl,vg,Nat.zero_add,h2]
   ·rw [h3]
    refine .inr ⟨b,_,hx1,hBb,qc hb,by simp [hc],?_,hfit,?_⟩
    ·rw [List.length_append,hl,hul,<-Nat.add_mul]
    ·apply List.ext_getElem?
     intro i
     rw [Array.toList_extract,List.extract_eq_take_drop]
     simp only [List.drop_zero,Nat.sub_zero]
     rw [List.getElem?_take]
     by_cases hilt:i < (vs++us).length
     ·rw [if_pos hilt]
      rw [Array.getElem?_toList,zdc (by rw [Nat.add_zero,<-hl];exact hcs)]
      simp only [Nat.add_zero]
      by_cases hiv:i < vs.length
      ·rw [if_neg (by omega),List.getElem?_append_left hiv]
       have:((c.extract 0 vs.length).toList)[i]?=vs[i]?:=by rw [he]
       rw [Array.getElem?_toList,Array.getElem?_extract,if_pos (by omega)] at this
       simpa using this
      ·rw [List.length_append] at hilt
       rw [if_pos (by omega),List.getElem?_append_right (by omega),hl]
     ·rw [if_neg hilt,List.getElem?_eq_none (by omega)]
   ·rw [h3]
    exact Ext.set _ (by simp [jk,hx1])
 ·-- it grows
  subst hw
  have hcl:=hown.cells
  have hll:=hown.len
  have hgrow:Builtin.nextslicecap (x.2.1+n) x.2.2 * info.bytes<=281474976710656:=
   Nat.le_trans (Nat.mul_le_mul_right _ (z7l (by omega))) hroom
  have hcap:x.2.1+n<=281474976710656:=by
   have:(x.2.1+n) * 1<=(2 * (x.2.1+n)+192) * info.bytes:=Nat.mul_le_mul (by omega) (by omega)
   omega
  have hold:∀ w',w'.heap=w.heap->(Builtin.firstCells sz x.2.1 (.slice x.1 x.2.1 x.2.2)).run P w'=.ok vs.toArray w':=fun w' hw'=>zvk hw' hcl hll.symm
  have hch:∀ w:World,(choose (.appendCap (x.2.1+n) x.2.2 e)).run P w=.ok (x.2.1+n+w.tape w.drawn (.appendCap (x.2.1+n) x.2.2 e) % (2 ^ 63-(x.2.1+n))) { w with drawn:=w.drawn+1 }:=
   fun w=>by simp [Question.forced,Question.cut]
  generalize hq:x.2.1+n+w.tape w.drawn (.appendCap (x.2.1+n) x.2.2 e) % (2 ^ 63-(x.2.1+n))=q at *
  have hqn:x.2.1+n<=q:=by omega
  have hzv:∀ w',(zeroValue e).run P w'=.ok z w':=fun w'=>by simp [zeroValue,typeInfo,hi,hz]
  refine⟨(some ⟨w.heap.size,0,none⟩,x.2.1+n,q),{ w with drawn:=w.drawn+1,heap:=w.heap.push (.cells (vs.toArray++us.toArray++Builtin.zeroCells z.cells (q-(x.2.1+n))) e) },?_,⟨rfl,rfl,rfl,Nat.le_succ _⟩,?_,rfl,?_,?_⟩
  ·have hn1:¬((x.2.1+n:Nat):Int) > IntKind.i64.max:=by
    have:IntKind.i64.max=9223372036854775807:=by decide
    rw [this];omega
   have hn2:¬Builtin.nextslicecap (x.2.1+n) x.2.2 * info.bytes > 2 ^ 48:=by
    have:(2:Nat) ^ 48=281474976710656:=by decide
    rw [this];omega
   have hti':∀ w',(typeInfo e).run P w'=.ok info w':=fun w'=>by simp [typeInfo,hi]
   simp only [Builtin.append_,List.getElem?_toArray,List.getElem?_cons_zero,List.getElem?_cons_succ,Sem.run_bind,ql hu,ql hxd,Result.andThen_ok,Sem.run_pure,hnoint,Bool.false_eq_true,if_false,zb1 hse,hlen,
    if_neg hfit,Bool.not_false,if_true,hti',hn1,false_and,hn2,hch,hq,run_askRoom,hold { w with drawn:=w.drawn+1 } rfl,hfirst { w with drawn:=w.drawn+1 } rfl,hzv,newRow,run_newObj]
  ·refine .inr ⟨w.heap.size,vs.toArray++us.toArray++Builtin.zeroCells z.cells (q-(x.2.1+n)),rfl,hB,?_,?_,?_,hqn,?_⟩
   ·simp
   ·simp only [Array.size_append,List.size_toArray,Builtin.zeroCells,Array.size_map,Array.size_range,hll,hul,hzs]
    rw [<-Nat.add_mul,<-Nat.add_mul]
    congr 1
    omega
   ·rw [List.length_append,hll,hul,<-Nat.add_mul]
   ·rw [Array.toList_extract,List.extract_eq_take_drop]
    simp only [List.drop_zero,Nat.sub_zero,Array.toList_append,List.length_append]
    rw [<-List.length_append,List.take_left]
  ·exact .push _
  ·intro b hb
   simp only [jk,List.mem_singleton] at hb
   exact .inr (by omega)
end
theorem Mine.put {H:Heap}{B:Nat}{T:TypeId}{x:Option Addr×Nat×Nat}{vs:List Value}(h:Mine H B T 1 x vs){i:Nat}(hi:i < vs.length) (v:Value) :
  ∃ b c,x.1=some ⟨b,0,none⟩/\H[b]?=some (.cells c T (0,0))/\i < c.size/\c[i]?=vs[i]?/\Mine (H.setIfInBounds b (.cells (c.setIfInBounds i v) T (0,0))) B T 1 x (vs.set i v):=by
 rcases h with⟨_,rfl⟩ | ⟨b,c,hx,hB,hb,hc,hl,hle,he⟩
 ·cases hi
 ·have hvc:vs.length<=c.size:=by omega
  have hget:∀ j,j < vs.length->c[j]?=vs[j]?:=by
   intro j hj
   have:((c.extract 0 vs.length).toList)[j]?=vs[j]?:=by rw [he]
   rw [Array.getElem?_toList,Array.getElem?_extract,if_pos (by omega)] at this
   simpa using this
  refine⟨b,c,hx,hb,by omega,hget i hi,.inr ⟨b,_,hx,hB,qc hb,by simpa using hc,by simpa using hl,hle,?_⟩⟩
  apply List.ext_getElem?
  intro j
  rw [Array.getElem?_toList,Array.getElem?_extract]
  simp only [List.length_set,Nat.sub_zero,Nat.zero_add,Array.size_setIfInBounds]
  by_cases hj:j < vs.length
  ·rw [if_pos (by omega),Array.getElem?_setIfInBounds,List.getElem?_set]
   by_cases e:i=j
   ·subst e;simp [hi,show i < c.size by omega]
   ·simp only [e,if_false];exact hget j hj
  ·rw [if_neg (by omega),List.getElem?_eq_none (by simp;omega)]
def arr (L:List UInt8):Value:=.agg (byteCells L).toArray
section
variable {P:Program}
theorem byte_at (L:List UInt8) (i:Nat):(byteCells L).toArray[i]?=(L[i]?).map fun b=>Value.int .u8 (b.toNat:Int):=by
 simp [byteCells]
theorem zqp {e:TypeId}{info:TypeInfo}{w:World}(he:P.underlying e=some (.int .u8)) (L:List UInt8){i:Nat}(hi:i < L.length):(part e (byteCells L).toArray i).run P w=.ok (.int .u8 ((L[i]).toNat:Int)) w:=
 run_part_plain w (by simp [Program.plainKey,he]) (by rw [byte_at];simp [hi])
theorem zk8 {e:TypeId}{d:Nat}{w:World}(he:P.underlying e=some (.int .u8)) (hc:P.cellsOf e=1) (A B:List UInt8):∀ is:List Nat,(∀ i∈is,i < A.length/\i < B.length) ->
  (Op.eqItems (d+1) e (P.cellsOf e) (byteCells A).toArray (byteCells B).toArray is).run P w=.ok (decide (∀ i∈is,A[i]?=B[i]?)) w
 | [],_=>by simp [Op.eqItems]
 | i :: is,h=>by
  have h1:=h i (by simp)
  have ih:=zk8 (d:=d) (w:=w) he hc A B is fun j hj=>h j (by simp [hj])
  simp only [Op.eqItems,Sem.run_bind,hc,Nat.mul_one]
  rw [zqp (info:=default) he A h1.1]
  simp only [Result.andThen_ok]
  rw [zqp (info:=default) he B h1.2]
  simp only [Result.andThen_ok]
  rw [run_equalIn_int w d e .u8 .u8 _ _ he]
  simp only [Result.andThen_ok]
  rw [hc] at ih
  by_cases hb:A[i]=B[i]
  ·have:(((A[i]).toNat:Int)==((B[i]).toNat:Int))=true:=by rw [hb];simp
   simp only [this,Bool.not_true,Bool.false_eq_true,if_false,ih]
   congr 1
   simp [List.getElem?_eq_getElem h1.1,List.getElem?_eq_getElem h1.2,hb]
  ·have:(((A[i]).toNat:Int)==((B[i]).toNat:Int))=false:=by
    simp only [beq_eq_false_iff_ne,ne_eq]
    intro hh
    apply hb
    apply UInt8.toNat_inj.1
    omega
   simp only [this,Bool.not_false,if_true,Sem.run_pure]
   congr 1
   simp [List.getElem?_eq_getElem h1.1,List.getElem?_eq_getElem h1.2,hb]
theorem zus {t e:TypeId}{n:Nat}{w:World}(hu:P.underlying t=some (.array n e)) (he:P.underlying e=some (.int .u8)) (hc:P.cellsOf e=1){A B:List UInt8}(hA:A.length=n) (hB:B.length=n) :
  (Op.equal t (arr A) (arr B)).run P w=.ok (decide (A=B)) w:=by
 have hi:∃ i,P.info? e=some i:=info_of_underlying he
 obtain⟨i,hi⟩:=hi
 unfold Op.equal Op.maxDepth arr
 rw [run_equalIn_array w 9999 _ _ hu hi,zk8 (d:=9998) he hc A B (List.range n) (by intro j hj;simp at hj;omega)]
 congr 1
 simp only [List.mem_range,decide_eq_decide]
 constructor
 ·intro h
  apply List.ext_getElem?
  intro j
  by_cases hj:j < n
  ·exact h j hj
  ·rw [List.getElem?_eq_none (by omega),List.getElem?_eq_none (by omega)]
 ·rintro rfl _ _;rfl
theorem qac {t e:TypeId}{n:Nat}{w:World}(hu:P.underlying t=some (.array n e)) (he:P.underlying e=some (.int .u8)) (hc:P.cellsOf e=1){A:List UInt8}(hA:A.length=n) (em:Bool) :
  (Instr.checkKey em 10000 t (arr A)).run P w=.ok () w:=by
 have hi:∃ i,P.info? e=some i:=info_of_underlying he
 obtain⟨i,hi⟩:=hi
 unfold arr
 rw [show (10000:Nat)=9998+1+1 from rfl,Instr.checkKey]
 simp only [Sem.run_bind,ql hu,Result.andThen_ok]
 simp only [Std.Legacy.Range.forIn_eq_forIn_range',Std.Legacy.Range.size,Nat.sub_zero,Nat.add_one_sub_one,Nat.div_one]
 have each:∀ j∈List.range' 0 n,j < A.length:=by intro j hj;simp [List.mem_range'] at hj;omega
 generalize List.range' 0 n=is at each
 induction is with
 | nil=>simp
 | cons j is ih=>
  have p1:(part e (byteCells A).toArray j).run P w=_:=zqp (info:=default) he A (each j (by simp))
  have p2:(Instr.checkKey em (9998+1) e (.int .u8 ((A[j]'(each j (by simp))).toNat:Int))).run P w=.ok () w:=by
   rw [Instr.checkKey]
   simp only [Sem.run_bind,ql he,Result.andThen_ok,Sem.run_pure]
  simp only [List.forIn_cons,Sem.run_bind,run_sizeOf w hi,Result.andThen_ok,hc,Nat.mul_one,p1,p2,Sem.run_pure]
  exact ih fun y hy=>each y (by simp [hy])
end
structure KeyOk (P:Program) (kt:TypeId) (κ:Type) [DecidableEq κ] (ok:κ->Prop) (enc:κ->Value):Prop where
 find:∀ (w:World) (k:κ) (es:List MapEntry) (l:List (κ×Value×Nat)),ok k->(∀ x∈l,ok x.1)->es=l.map (fun x=>⟨enc x.1,x.2.1,x.2.2⟩) ->
  (Instr.findKey kt (enc k) es).run P w=.ok ((l.findIdx? (fun x=>x.1==k)).bind fun i=>(l[i]?).map fun x=>(i,x.2.1)) w
 chk:∀ (w:World) (k:κ) (e:Bool),ok k->(Instr.checkKey e 10000 kt (enc k)).run P w=.ok () w
 same:∀ k:κ,ok k->Instr.sameBits 10000 (enc k) (enc k)=true
section
variable {P:Program}{κ:Type} [DecidableEq κ] {ok:κ->Prop}{enc:κ->Value}
theorem zny {kt:TypeId}{w:World}(heq:∀ (w:World) (a b:κ),ok a->ok b->(Op.equal kt (enc a) (enc b)).run P w=.ok (decide (a=b)) w){k:κ}(hk:ok k):∀ (l:List (κ×Value×Nat)) (i:Nat),(∀ x∈l,ok x.1) ->
  (Instr.findAsking kt (enc k) (l.map fun x=>⟨enc x.1,x.2.1,x.2.2⟩) i).run P w=.ok ((l.findIdx? (fun x=>x.1==k)).bind fun j=>(l[j]?).map fun x=>(i+j,x.2.1)) w
 | [],i,_=>by simp [Instr.findAsking]
 | x :: l,i,h=>by
  have ih:=zny (w:=w) heq hk l (i+1) fun y hy=>h y (by simp [hy])
  simp only [List.map_cons,Instr.findAsking,Sem.run_bind,heq w k x.1 hk (h x (by simp)),Result.andThen_ok]
  by_cases e:x.1=k
  ·subst e
   simp [List.findIdx?_cons]
  ·have e':¬k=x.1:=fun h=>e h.symm
   simp only [e',decide_false,Bool.false_eq_true,if_false,ih]
   congr 1
   rw [List.findIdx?_cons]
   simp only [beq_eq_false_iff_ne.2 e]
   cases hf:List.findIdx? (fun x=>x.1==k) l with
   | none=>simp
   | some j=>simp [Nat.add_assoc,Nat.add_comm 1 j]
theorem KeyOk.wide {kt:TypeId}(heq:∀ (w:World) (a b:κ),ok a->ok b->(Op.equal kt (enc a) (enc b)).run P w=.ok (decide (a=b)) w)
  (hw:(match P.underlying kt with | some (.array _ _) | some (.struct _)=>true | _=>false)=true) (hc:∀ (w:World) (k:κ) (e:Bool),ok k->(Instr.checkKey e 10000 kt (enc k)).run P w=.ok () w)
  (hs:∀ k:κ,ok k->Instr.sameBits 10000 (enc k) (enc k)=true):KeyOk P kt κ ok enc where
 find w k es l hk hl he:=by
  subst he
  rw [run_findKey_eq w hw,zny heq hk l 0 hl]
  simp
 chk:=hc
 same:=hs
end
theorem z05 (L:List UInt8):Instr.sameBits 10000 (arr L) (arr L)=true:=by
 unfold arr
 rw [show (10000:Nat)=9999+1 from rfl,Instr.sameBits]
 simp only [beq_self_eq_true,Bool.true_and,List.all_eq_true]
 intro x hx
 simp only [byteCells] at hx
 have:∀ (l:List UInt8),x∈(l.map fun b=>Value.int .u8 (b.toNat:Int)).zip (l.map fun b=>Value.int .u8 (b.toNat:Int))->∃ b:UInt8,x=(Value.int .u8 (b.toNat:Int),Value.int .u8 (b.toNat:Int)):=by
  intro l
  induction l with
  | nil=>intro h;cases h
  | cons b l ih=>
   intro h
   simp only [List.map_cons,List.zip_cons_cons,List.mem_cons] at h
   rcases h with rfl | h
   ·exact⟨b,rfl⟩
   ·exact ih h
 obtain⟨b,rfl⟩:=this L hx
 simp [Instr.sameBits]
theorem KeyOk.arr {P:Program}{t e:TypeId}{n:Nat}(hu:P.underlying t=some (.array n e)) (he:P.underlying e=some (.int .u8)) (hc:P.cellsOf e=1):KeyOk P t (List UInt8) (fun L=>L.length=n) arr:=
 .wide (fun w a b ha hb=>zus hu he hc ha hb) (by rw [hu]) (fun w k e hk=>qac hu he hc hk e) fun k _=>z05 k
def ents {κ:Type}(enc:κ->Value) (l:List (κ×Value×Nat)):Array MapEntry:=(l.map fun x=>⟨enc x.1,x.2.1,x.2.2⟩).toArray
set_option linter.unusedSectionVars false
section
variable {κ ν:Type} [DecidableEq κ]
abbrev ML (κ ν:Type):=List (κ×ν×Nat)
def zbk (l:ML κ ν) (k:κ):Option ν:=(l.find? fun x=>x.1==k).map (·.2.1)
def zhm (l:ML κ ν) (k:κ) (v:ν) (c:Nat):ML κ ν:=if (zbk l k).isSome then l.map (fun x=>if x.1=k then (x.1,v,x.2.2) else x) else l++[(k,v,c)]
def zk7 (l:ML κ ν) (k:κ) (c:Nat):Nat:=if (zbk l k).isSome then c else c+1
def zi9 (l:ML κ ν) (k:κ):ML κ ν:=l.filter fun x=>x.1 != k
structure MOk (ok:κ->Prop) (l:ML κ ν) (c:Nat):Prop where
 keys:(l.map (·.1)).Nodup
 born:(l.map (·.2.2)).Nodup
 old:∀ x∈l,x.2.2 < c
 fine:∀ x∈l,ok x.1
theorem zcc {l:ML κ ν}{k:κ}{v:ν}(h:zbk l k=some v):∃ c,(k,v,c)∈l:=by
 simp only [zbk,Option.map_eq_some_iff] at h
 obtain⟨x,hx,rfl⟩:=h
 have h1:=List.find?_some hx
 have h2:=List.mem_of_find?_eq_some hx
 simp at h1
 subst h1
 exact⟨x.2.2,h2⟩
theorem zdu {l:ML κ ν}(hn:(l.map (·.1)).Nodup){k:κ}{v:ν}{c:Nat}(h:(k,v,c)∈l):zbk l k=some v:=by
 induction l with
 | nil=>cases h
 | cons x l ih=>
  simp only [List.map_cons,List.nodup_cons] at hn
  simp only [zbk,List.find?_cons]
  rcases List.mem_cons.1 h with h | h
  ·subst h;simp
  ·have hne:x.1≠k:=fun e=>hn.1 (by rw [e];exact List.mem_map.2 ⟨_,h,rfl⟩)
   simp only [beq_eq_false_iff_ne.2 hne]
   exact ih hn.2 h
theorem zb7 {l:ML κ ν}{k:κ}{x:κ×ν×Nat}(e:x.1=k):zbk (x :: l) k=some x.2.1:=by simp [zbk,e]
theorem zb4 {l:ML κ ν}{k:κ}{x:κ×ν×Nat}(e:x.1≠k):zbk (x :: l) k=zbk l k:=by simp only [zbk,List.find?_cons,beq_eq_false_iff_ne.2 e]
theorem zm2 {l:ML κ ν}{k:κ}{x:κ×ν×Nat}(e:x.1=k):zi9 (x :: l) k=zi9 l k:=by simp [zi9,e]
theorem zml {l:ML κ ν}{k:κ}{x:κ×ν×Nat}(e:x.1≠k):zi9 (x :: l) k=x :: zi9 l k:=by simp [zi9,e]
theorem zpu {l:ML κ ν}{k:κ}(h:∀ x∈l,x.1≠k):zi9 l k=l:=by
 rw [zi9,List.filter_eq_self]
 intro x hx
 simp [h x hx]
theorem zmw {l:ML κ ν}{k:κ}(h:zbk l k=none):∀ x∈l,x.1≠k:=by
 simp only [zbk,Option.map_eq_none_iff,List.find?_eq_none] at h
 intro x hx e
 exact absurd (h x hx) (by simp [e])
theorem zhn {l:ML κ ν}{k:κ}(h:∀ x∈l,x.1≠k):zbk l k=none:=by
 simp only [zbk,Option.map_eq_none_iff,List.find?_eq_none]
 intro x hx
 simp [h x hx]
theorem zfr {l:ML κ ν}{k:κ}{v:ν}{c:Nat}(h:(zbk l k).isSome=true):zhm l k v c=l.map (fun x=>if x.1=k then (x.1,v,x.2.2) else x):=by simp [zhm,h]
theorem zkj {l:ML κ ν}{k:κ}{v:ν}{c:Nat}(h:zbk l k=none):zhm l k v c=l++[(k,v,c)]:=by simp [zhm,h]
theorem zmf {l:ML κ ν}{k:κ}{v:ν}{c:Nat}{x:κ×ν×Nat}(h:x∈zhm l k v c):(x.1=k/\x.2.1=v)\/(x.1≠k/\x∈l):=by
 cases hg:zbk l k with
 | none=>
  rw [zkj hg] at h
  rcases List.mem_append.1 h with h | h
  ·exact .inr ⟨zmw hg x h,h⟩
  ·simp at h;subst h;exact .inl ⟨rfl,rfl⟩
 | some v'=>
  rw [zfr (by rw [hg];rfl)] at h
  obtain⟨y,hy,rfl⟩:=List.mem_map.1 h
  by_cases e:y.1=k
  ·rw [if_pos e];exact .inl ⟨e,rfl⟩
  ·rw [if_neg e];exact .inr ⟨e,hy⟩
theorem key_inj {ok:κ->Prop}{l:ML κ ν}{c:Nat}(h:MOk ok l c){x y:κ×ν×Nat}(hx:x∈l) (hy:y∈l) (e:x.1=y.1):x=y:=by
 have h1:=h.keys
 clear h
 induction l with
 | nil=>cases hx
 | cons z l ih=>
  simp only [List.map_cons,List.nodup_cons] at h1
  rcases List.mem_cons.1 hx with e1 | hx1 <;> rcases List.mem_cons.1 hy with e2 | hy1
  ·rw [e1,e2]
  ·exact absurd (List.mem_map.2 ⟨y,hy1,by rw [<-e,e1]⟩) h1.1
  ·exact absurd (List.mem_map.2 ⟨x,hx1,by rw [e,e2]⟩) h1.1
  ·exact ih hx1 hy1 h1.2
theorem born_inj {ok:κ->Prop}{l:ML κ ν}{c:Nat}(h:MOk ok l c){x y:κ×ν×Nat}(hx:x∈l) (hy:y∈l) (e:x.2.2=y.2.2):x=y:=by
 have h1:=h.born
 clear h
 induction l with
 | nil=>cases hx
 | cons z l ih=>
  simp only [List.map_cons,List.nodup_cons] at h1
  rcases List.mem_cons.1 hx with e1 | hx1 <;> rcases List.mem_cons.1 hy with e2 | hy1
  ·rw [e1,e2]
  ·exact absurd (List.mem_map.2 ⟨y,hy1,by rw [<-e,e1]⟩) h1.1
  ·exact absurd (List.mem_map.2 ⟨x,hx1,by rw [e,e2]⟩) h1.1
  ·exact ih hx1 hy1 h1.2
theorem z0a {l:ML κ ν}{k:κ}{v:ν}:(l.map (fun x=>if x.1=k then (x.1,v,x.2.2) else x)).map (·.1)=l.map (·.1):=by
 rw [List.map_map];congr 1;funext x;simp only [Function.comp];split <;> rfl
theorem z0v {l:ML κ ν}{k:κ}{v:ν}:(l.map (fun x=>if x.1=k then (x.1,v,x.2.2) else x)).map (·.2.2)=l.map (·.2.2):=by
 rw [List.map_map];congr 1;funext x;simp only [Function.comp];split <;> rfl
theorem MOk.upd {ok:κ->Prop}{l:ML κ ν}{c:Nat}(h:MOk ok l c){k:κ}(hk:ok k) (v:ν):MOk ok (zhm l k v c) (zk7 l k c):=by
 cases hg:zbk l k with
 | some v'=>
  rw [zfr (by rw [hg];rfl),show zk7 l k c=c from by simp [zk7,hg]]
  refine⟨by rw [z0a];exact h.keys,by rw [z0v];exact h.born,?_,?_⟩
  ·intro x hx
   obtain⟨y,hy,rfl⟩:=List.mem_map.1 hx
   split <;> exact h.old y hy
  ·intro x hx
   obtain⟨y,hy,rfl⟩:=List.mem_map.1 hx
   split <;> exact h.fine y hy
 | none=>
  rw [zkj hg,show zk7 l k c=c+1 from by simp [zk7,hg]]
  have hn:=zmw hg
  refine⟨?_,?_,?_,?_⟩
  ·rw [List.map_append,List.nodup_append]
   refine⟨h.keys,by simp,?_⟩
   intro a ha b hb
   simp at hb;subst hb
   obtain⟨y,hy,rfl⟩:=List.mem_map.1 ha
   exact hn y hy
  ·rw [List.map_append,List.nodup_append]
   refine⟨h.born,by simp,?_⟩
   intro a ha b hb
   simp at hb;subst hb
   obtain⟨y,hy,rfl⟩:=List.mem_map.1 ha
   have:=h.old y hy;omega
  ·intro x hx
   rcases List.mem_append.1 hx with hx | hx
   ·have:=h.old x hx;omega
   ·simp at hx;subst hx;simp
  ·intro x hx
   rcases List.mem_append.1 hx with hx | hx
   ·exact h.fine x hx
   ·simp at hx;subst hx;exact hk
theorem MOk.del {ok:κ->Prop}{l:ML κ ν}{c:Nat}(h:MOk ok l c) (k:κ):MOk ok (zi9 l k) c:=
 ⟨h.keys.sublist (List.Sublist.map _ List.filter_sublist),h.born.sublist (List.Sublist.map _ List.filter_sublist),fun x hx=>h.old x (List.mem_filter.1 hx).1,fun x hx=>h.fine x (List.mem_filter.1 hx).1⟩
theorem MOk.nil {ok:κ->Prop}:MOk (κ:=κ) (ν:=ν) ok [] 0:=⟨by simp,by simp,by simp,by simp⟩
theorem zjq {l:ML κ ν}{k k':κ}{v:ν}{c:Nat}:zbk (zhm l k v c) k'=if k'=k then some v else zbk l k':=by
 cases hg:zbk l k with
 | none=>
  rw [zkj hg]
  simp only [zbk,List.find?_append]
  by_cases e:k'=k
  ·subst e
   have:l.find? (fun x=>x.1==k')=none:=by simpa [zbk] using hg
   simp [this]
  ·have e':¬k=k':=fun h=>e h.symm
   simp [e,e']
 | some v'=>
  rw [zfr (by rw [hg];rfl)]
  obtain⟨c',hm⟩:=zcc hg
  clear hg
  induction l with
  | nil=>cases hm
  | cons x l ih=>
   simp only [zbk,List.map_cons,List.find?_cons]
   by_cases ex:x.1=k
   ·by_cases e:k'=k
    ·subst e;simp [ex]
    ·have e':¬x.1=k':=fun h=>e (by rw [<-h,ex])
     simp only [ex,if_true,beq_eq_false_iff_ne.2 (ex▸e'),e,if_false]
     by_cases hml:(k,v',c')∈l
     ·have:=ih hml
      simp only [zbk,e,if_false] at this
      exact this
     ·have hnk:∀ y∈l,y.1=k'->(if y.1=k then (y.1,v,y.2.2) else y)=y:=by
       intro y _ hy;rw [if_neg (by rw [hy];exact e)]
      clear ih hm hml
      induction l with
      | nil=>rfl
      | cons y l ih2=>
       simp only [List.map_cons,List.find?_cons]
       by_cases ey:y.1=k
       ·simp only [ey,if_true,beq_eq_false_iff_ne.2 (ex▸e')]
        exact ih2 fun z hz=>hnk z (by simp [hz])
       ·simp only [ey,if_false]
        by_cases ey':y.1=k'
        ·simp [ey']
        ·simp only [beq_eq_false_iff_ne.2 ey']
         exact ih2 fun z hz=>hnk z (by simp [hz])
   ·have hml:(k,v',c')∈l:=by
     rcases List.mem_cons.1 hm with h | h
     ·exact absurd (by rw [<-h]) ex
     ·exact h
    simp only [ex,if_false]
    by_cases ex':x.1=k'
    ·subst ex';simp [ex]
    ·simp only [beq_eq_false_iff_ne.2 ex']
     exact ih hml
theorem qbj {l:ML κ ν}{k k':κ}:zbk (zi9 l k) k'=if k'=k then none else zbk l k':=by
 induction l with
 | nil=>simp [zi9,zbk]
 | cons x l ih=>
  simp only [zi9,zbk,List.filter_cons] at ih |-
  by_cases ex:x.1=k
  ·simp only [ex,bne_self_eq_false,Bool.false_eq_true,if_false]
   rw [ih]
   by_cases e:k'=k
   ·simp [e]
   ·have e':¬k=k':=fun h=>e h.symm
    simp only [e,if_false,List.find?_cons,ex,beq_eq_false_iff_ne.2 e']
  ·simp only [bne_iff_ne.2 ex,if_true,List.find?_cons]
   by_cases ex':x.1=k'
   ·subst ex';simp [ex]
   ·simp only [beq_eq_false_iff_ne.2 ex']
    exact ih
end
section heap
variable {P:Program}{w:World}{H:Heap}{κ:Type} [DecidableEq κ] {ok:κ->Prop}{enc:κ->Value}{mt kt et:TypeId}{m:Nat}{l:ML κ Value}{c:Nat}
theorem z7o {o:Obj}{r:Nat}(hw:w.heap=H) (h:H[r]?=some o) (hno:∀ c e f,o≠.cells c e f):(getObj r).run P w=.ok o w:=by
 subst hw
 cases o <;> first | (exact absurd rfl (hno _ _ _)) | simp [getObj,Sem.run,h]
theorem zti {o o':Obj}{r:Nat}(hw:w.heap=H) (h:H[r]?=some o) (hno:∀ c e f,o≠.cells c e f):(setObj r o').run P w=.ok () { w with heap:=H.setIfInBounds r o' }:=by
 subst hw
 cases o <;> first | (exact absurd rfl (hno _ _ _)) | simp [setObj,Sem.run,h]
theorem zvn {l:ML κ Value}{k:κ}:((l.findIdx? (fun x=>x.1==k)).bind fun i=>(l[i]?).map fun x=>(i,x.2.1)).map (·.2)=zbk l k:=by
 induction l with
 | nil=>rfl
 | cons x l ih=>
  simp only [List.findIdx?_cons,zbk,List.find?_cons]
  by_cases e:x.1=k
  ·simp [e]
  ·simp only [beq_eq_false_iff_ne.2 e]
   refine Eq.trans ?_ ih
   cases List.findIdx? (fun x=>x.1==k) l with
   | none=>simp
   | some i=>
    simp only [Bool.false_eq_true,if_false,Option.map_some,Option.bind_some,List.getElem?_cons_succ]
    cases l[i]? <;> rfl
theorem qcg (K:KeyOk P kt κ ok enc) (hu:P.underlying mt=some (.map kt et)){z:Value}(hz:∀ w,(zeroValue et).run P w=.ok z w) (hw:w.heap=H) (hm:H[m]?=some (.map (ents enc l) c)) (hl:MOk ok l c){k:κ}(hk:ok k) :
  (Instr.lookup mt (.map (some m)) (enc k) true).run P w=.ok (.tuple #[(zbk l k).getD z,.bool (zbk l k).isSome]) w:=by
 have hf:=K.find w k (ents enc l).toList l hk hl.fine (by simp [ents])
 have hg:=zvn (l:=l) (k:=k)
 generalize ((l.findIdx? (fun x=>x.1==k)).bind fun i=>(l[i]?).map fun x=>(i,x.2.1))=r at hf hg
 simp only [Instr.lookup,Sem.run_bind,ql hu,Result.andThen_ok,z7o hw hm (by intros;simp),Sem.run_pure,K.chk w k _ hk,hf]
 rw [<-hg]
 cases r with
 | none=>simp [hz]
 | some x=>simp
theorem z7d (hn:(l.map (·.1)).Nodup){k:κ}{v:Value}{i:Nat}{x:κ×Value×Nat}(hi:l.findIdx? (fun x=>x.1==k)=some i) (hx:l[i]?=some x) :
  (ents enc l).modify i (fun e=>{ e with key:=enc k,val:=v })=ents enc (l.map (fun x=>if x.1=k then (x.1,v,x.2.2) else x)):=by
 rw [List.findIdx?_eq_some_iff_getElem] at hi
 obtain⟨hlt,hk,_⟩:=hi
 simp only [beq_iff_eq] at hk
 apply Array.ext_getElem?
 intro j
 rw [Array.getElem?_modify]
 simp only [ents,List.getElem?_toArray,List.getElem?_map,List.map_map]
 by_cases hj:i=j
 ·subst hj
  simp only [if_true]
  rw [List.getElem?_eq_getElem hlt]
  simp [hk]
 ·simp only [hj,if_false]
  by_cases hjl:j < l.length
  ·rw [List.getElem?_eq_getElem hjl]
   simp only [Option.map_some,Function.comp]
   have hne:l[j].1≠k:=by
    intro e
    have:=List.pairwise_iff_getElem.1 hn
    rcases Nat.lt_or_gt_of_ne hj with h | h
    ·exact this i j (by simpa using hlt) (by simpa using hjl) h (by simp [hk,e])
    ·exact this j i (by simpa using hjl) (by simpa using hlt) h (by simp [hk,e])
   simp [hne]
  ·rw [List.getElem?_eq_none (by omega)];rfl
theorem zsc {k:κ}(h:zbk l k=none):l.findIdx? (fun x=>x.1==k)=none:=by
 rw [List.findIdx?_eq_none_iff]
 intro x hx
 simp [zmw h x hx]
theorem zsl {k:κ}{v:Value}(h:zbk l k=some v):∃ i x,l.findIdx? (fun x=>x.1==k)=some i/\l[i]?=some x/\x.1=k:=by
 cases hf:l.findIdx? (fun x=>x.1==k) with
 | none=>
  rw [List.findIdx?_eq_none_iff] at hf
  obtain⟨c,hm⟩:=zcc h
  have:=hf _ hm
  simp at this
 | some i=>
  have h2:=List.findIdx?_eq_some_iff_getElem.1 hf
  obtain⟨hlt,hk,_⟩:=h2
  simp only [beq_iff_eq] at hk
  exact⟨i,l[i],rfl,List.getElem?_eq_getElem hlt,hk⟩
theorem qde (K:KeyOk P kt κ ok enc) (hu:P.underlying mt=some (.map kt et)) (hw:w.heap=H) (hm:H[m]?=some (.map (ents enc l) c)) (hl:MOk ok l c){k:κ}(hk:ok k) (v:Value) :
  (Instr.mapUpdate mt (.map (some m)) (enc k) v).run P w=.ok () { w with heap:=H.setIfInBounds m (.map (ents enc (zhm l k v c)) (zk7 l k c)) }:=by
 have hf:=K.find w k (ents enc l).toList l hk hl.fine (by simp [ents])
 simp only [Instr.mapUpdate,Sem.run_bind,ql hu,Result.andThen_ok,z7o hw hm (by intros;simp),K.chk w k _ hk,hf]
 cases hg:zbk l k with
 | none=>
  simp only [zsc hg,Option.bind_none]
  rw [zti hw hm (by intros;simp)]
  congr 4
  rw [zkj hg]
  ·simp [ents]
  ·simp [zk7,hg]
 | some v'=>
  obtain⟨i,x,hi,hx,hxk⟩:=zsl hg
  simp only [hi,Option.bind_some,hx,Option.map_some]
  have hkey:((ents enc l)[i]?.map (·.key)).getD (enc k)=enc k:=by
   simp [ents,hx,hxk]
  simp only [Sem.run_bind,hkey,Instr.keyThatStays,K.same k hk,if_true,Sem.run_pure,Result.andThen_ok]
  rw [zti hw hm (by intros;simp)]
  congr 4
  ·rw [z7d hl.keys hi hx,zfr (by rw [hg];rfl)]
  ·simp [zk7,hg]
theorem z01 {α β:Type}(f:α->β):∀ (l:List α) (i:Nat),(l.eraseIdx i).map f=(l.map f).eraseIdx i
 | [],_=>rfl
 | _ :: _,0=>rfl
 | x :: l,i+1=>by simp only [List.eraseIdx_cons_succ,List.map_cons,z01 f l i]
theorem erase_filter:∀ {l:ML κ Value}(hn:(l.map (·.1)).Nodup){k:κ}{i:Nat}(hi:l.findIdx? (fun x=>x.1==k)=some i),l.eraseIdx i=l.filter fun x=>x.1 != k
 | [],_,_,_,hi=>by simp at hi
 | x :: l,hn,k,i,hi=>by
  simp only [List.map_cons,List.nodup_cons] at hn
  rw [List.findIdx?_cons] at hi
  by_cases e:x.1=k
  ·simp only [e,beq_self_eq_true,if_true,Option.some.injEq] at hi
   subst hi
   simp only [List.eraseIdx_cons_zero,List.filter_cons,e,bne_self_eq_false,Bool.false_eq_true,if_false]
   symm
   rw [List.filter_eq_self]
   intro y hy
   simp only [bne_iff_ne,ne_eq]
   intro h
   exact hn.1 (by rw [e,<-h];exact List.mem_map.2 ⟨y,hy,rfl⟩)
  ·simp only [beq_eq_false_iff_ne.2 e,Bool.false_eq_true,if_false,Option.map_eq_some_iff] at hi
   obtain⟨j,hj,rfl⟩:=hi
   simp only [List.eraseIdx_cons_succ,List.filter_cons,bne_iff_ne.2 e,if_true]
   rw [erase_filter hn.2 hj]
theorem qbe (K:KeyOk P kt κ ok enc) (hu:P.underlying mt=some (.map kt et)){ks ty:TypeId}(hw:w.heap=H) (hm:H[m]?=some (.map (ents enc l) c)) (hl:MOk ok l c){k:κ}(hk:ok k) :
  (Builtin.delete_ #[mt,ks] ty #[.map (some m),enc k]).run P w=.ok (.tuple #[]) { w with heap:=H.setIfInBounds m (.map (ents enc (zi9 l k)) c) }:=by
 have hf:=K.find w k (ents enc l).toList l hk hl.fine (by simp [ents])
 simp only [Builtin.delete_,List.getElem?_toArray,List.getElem?_cons_zero,List.getElem?_cons_succ,Sem.run_bind,ql hu,Result.andThen_ok,z7o hw hm (by intros;simp),K.chk w k _ hk,hf]
 cases hg:zbk l k with
 | none=>
  simp only [zsc hg,Option.bind_none,Sem.run_bind]
  rw [zti hw hm (by intros;simp)]
  simp only [Result.andThen_ok,Sem.run_pure]
  have:zi9 l k=l:=by
   rw [zi9,List.filter_eq_self]
   intro x hx
   simp [zmw hg x hx]
  rw [this]
 | some v'=>
  obtain⟨i,x,hi,hx,hxk⟩:=zsl hg
  simp only [hi,Option.bind_some,hx,Option.map_some,Sem.run_bind]
  rw [zti hw hm (by intros;simp)]
  simp only [Result.andThen_ok,Sem.run_pure]
  have:(ents enc l).eraseIdxIfInBounds i=ents enc (zi9 l k):=by
   rw [zi9,<-erase_filter hl.keys hi]
   apply Array.ext'
   simp only [ents,Array.toList_eraseIdxIfInBounds,z01]
  rw [this]
theorem zii (hw:w.heap=H):(Instr.makeMap mt none).run P w=.ok (.map (some H.size)) { w with heap:=H.push (.map #[] 0) }:=by
 subst hw;simp [Instr.makeMap]
theorem qai {ty:TypeId}(hu:P.underlying mt=some (.map kt et)) (hw:w.heap=H) (hm:H[m]?=some (.map (ents enc l) c)):(Builtin.len_ #[mt] ty #[.map (some m)]).run P w=.ok (.int .i64 (l.length:Int)) w:=by
 simp only [Builtin.len_,List.getElem?_toArray,List.getElem?_cons_zero,Sem.run_bind,ql hu,z7o hw hm (by intros;simp),Result.andThen_ok,Sem.run_pure]
 simp [ents]
 rfl
theorem zy7 (hu:P.underlying mt=some (.map kt et)) (hw:w.heap=H) (hm:H[m]?=some (.map (ents enc l) c)) :
  (Instr.range mt (.map (some m))).run P w=.ok (.pointer (some ⟨H.size,0,none⟩)) { w with heap:=H.push (.mapIter (some m) c #[] c) }:=by
 subst hw
 simp only [Instr.range,Sem.run_bind,ql hu,z7o rfl hm (by intros;simp),Result.andThen_ok,Sem.run_pure,run_newObj]
theorem qhv {ty:TypeId}{r since last:Nat}{seen:Array Nat}(hw:w.heap=H) (hm:H[m]?=some (.map (ents enc l) c)) (hr:H[r]?=some (.mapIter (some m) since seen last)) (hold:∀ x∈l,x.2.2 < since) (hsl:since<=last) :
  ((∀ x∈l,x.2.2∈seen)/\∃ w',(Instr.next (.pointer (some ⟨r,0,none⟩)) false ty).run P w=.ok (.tuple #[.bool false]) w'/\Calm w w'/\w'.heap=H) \/
  ∃ x∈l,x.2.2∉seen/\∃ w',(Instr.next (.pointer (some ⟨r,0,none⟩)) false ty).run P w=.ok (.tuple #[.bool true,enc x.1,x.2.1]) w'/\Calm w w'/\w'.heap=H.setIfInBounds r (.mapIter (some m) since (seen.push x.2.2) c):=by
 subst hw
 rcases run_next_at (P:=P) w ty r m since last seen (ents enc l) c hr hm (by intro x hx;simp only [ents] at hx;obtain⟨y,hy,rfl⟩:=List.mem_map.1 hx;exact hold y hy) hsl with⟨h0,h1⟩ | ⟨e,he,w1,hw1,h1⟩
 ·left
  refine⟨fun x hx=>?_,w,h1,.refl w,rfl⟩
  have h2:leftOf (ents enc l) seen=#[]:=Array.eq_empty_of_size_eq_zero h0
  unfold leftOf at h2
  rw [Array.filter_eq_empty_iff] at h2
  have:=h2 ⟨enc x.1,x.2.1,x.2.2⟩ (by simp [ents];exact⟨_,_,_,hx,rfl,rfl,rfl⟩)
  simpa using this
 ·right
  simp only [leftOf,ents,Array.toList_filter,List.mem_filter] at he
  obtain⟨h2,h3⟩:=he
  obtain⟨x,hx,rfl⟩:=List.mem_map.1 h2
  refine⟨x,hx,by simpa using h3,_,h1,?_,?_⟩
  ·rcases hw1 with rfl | rfl <;> first | exact⟨rfl,rfl,rfl,Nat.le_refl _⟩ | exact⟨rfl,rfl,rfl,Nat.le_succ _⟩
  ·rcases hw1 with rfl | rfl <;> rfl
theorem qfr {r since last:Nat}{seen:Array Nat}(hw:w.heap=H) (hm:H[m]?=some (.map (ents enc l) c)){x:κ×Value×Nat}(hr:H[r]?=some (.mapIter (some m) since (seen.push x.2.2) c)) (hx:x∈l) (hl:MOk ok l c) :
  (Instr.entry (.pointer (some ⟨r,0,none⟩))).run P w=.ok (.tuple #[enc x.1,x.2.1]) w:=by
 subst hw
 refine run_entry_at w r m since seen (ents enc l) c ⟨enc x.1,x.2.1,x.2.2⟩ hr hm (by simp only [ents];exact List.mem_map.2 ⟨x,hx,rfl⟩) ?_
 have:=hl.born
 simp only [ents,List.map_map]
 exact this
end heap
def vl {κ ν:Type}(ev:ν->Value) (l:ML κ ν):ML κ Value:=l.map fun x=>(x.1,ev x.2.1,x.2.2)
section views
variable {P:Program}{w:World}{H:Heap}{κ ν:Type} [DecidableEq κ] {ok:κ->Prop}{enc:κ->Value}{ev:ν->Value}{mt kt et:TypeId}{m:Nat}{l:ML κ ν}{c:Nat}
theorem zrk {k:κ}:zbk (vl ev l) k=(zbk l k).map ev:=by
 induction l with
 | nil=>rfl
 | cons x l ih=>
  simp only [vl,zbk,List.map_cons,List.find?_cons] at ih |-
  by_cases e:x.1=k
  ·simp [e]
  ·simp only [beq_eq_false_iff_ne.2 e];exact ih
theorem qea {k:κ}{v:ν}:zhm (vl ev l) k (ev v) c=vl ev (zhm l k v c):=by
 unfold zhm
 rw [zrk]
 cases zbk l k with
 | none=>simp [vl]
 | some v'=>
  simp only [Option.map_some,Option.isSome_some,if_true]
  simp only [vl,List.map_map]
  congr 1
  funext x
  simp only [Function.comp]
  split <;> rfl
theorem qfw {k:κ}:zk7 (vl ev l) k c=zk7 l k c:=by
 unfold zk7;rw [zrk];cases zbk l k <;> rfl
theorem qez {k:κ}:zi9 (vl ev l) k=vl ev (zi9 l k):=by
 simp only [zi9,vl,List.filter_map]
 rfl
theorem MOk.vl (h:MOk ok l c):MOk ok (vl ev l) c:=by
 refine⟨?_,?_,?_,?_⟩
 ·have:=h.keys;simp only [Fw.vl,List.map_map];exact this
 ·have:=h.born;simp only [Fw.vl,List.map_map];exact this
 ·intro x hx;obtain⟨y,hy,rfl⟩:=List.mem_map.1 hx;exact h.old y hy
 ·intro x hx;obtain⟨y,hy,rfl⟩:=List.mem_map.1 hx;exact h.fine y hy
theorem ze1 (K:KeyOk P kt κ ok enc) (hu:P.underlying mt=some (.map kt et)){z:Value}(hz:∀ w,(zeroValue et).run P w=.ok z w) (hw:w.heap=H) (hm:H[m]?=some (.map (ents enc (vl ev l)) c)) (hl:MOk ok l c){k:κ}(hk:ok k) :
  (Instr.lookup mt (.map (some m)) (enc k) true).run P w=.ok (.tuple #[((zbk l k).map ev).getD z,.bool (zbk l k).isSome]) w:=by
 rw [qcg K hu hz hw hm hl.vl hk,zrk]
 cases zbk l k <;> rfl
theorem zjm (K:KeyOk P kt κ ok enc) (hu:P.underlying mt=some (.map kt et)) (hw:w.heap=H) (hm:H[m]?=some (.map (ents enc (vl ev l)) c)) (hl:MOk ok l c){k:κ}(hk:ok k) (v:ν){y:Value}(hy:y=ev v) :
  (Instr.mapUpdate mt (.map (some m)) (enc k) y).run P w=.ok () { w with heap:=H.setIfInBounds m (.map (ents enc (vl ev (zhm l k v c))) (zk7 l k c)) }:=by
 subst hy
 rw [qde K hu hw hm hl.vl hk,qea,qfw]
theorem qb4 (K:KeyOk P kt κ ok enc) (hu:P.underlying mt=some (.map kt et)){ks ty:TypeId}(hw:w.heap=H) (hm:H[m]?=some (.map (ents enc (vl ev l)) c)) (hl:MOk ok l c){k:κ}(hk:ok k) :
  (Builtin.delete_ #[mt,ks] ty #[.map (some m),enc k]).run P w=.ok (.tuple #[]) { w with heap:=H.setIfInBounds m (.map (ents enc (vl ev (zi9 l k))) c) }:=by
 rw [qbe K hu hw hm hl.vl hk,qez]
theorem z8p {ty:TypeId}(hu:P.underlying mt=some (.map kt et)) (hw:w.heap=H) (hm:H[m]?=some (.map (ents enc (vl ev l)) c)):(Builtin.len_ #[mt] ty #[.map (some m)]).run P w=.ok (.int .i64 (l.length:Int)) w:=by
 rw [qai hu hw hm];simp [vl]
theorem z3u {ty:TypeId}{r since last:Nat}{seen:Array Nat}(hw:w.heap=H) (hm:H[m]?=some (.map (ents enc (vl ev l)) c)) (hr:H[r]?=some (.mapIter (some m) since seen last)) (hold:∀ x∈l,x.2.2 < since) (hsl:since<=last) :
  ((∀ x∈l,x.2.2∈seen)/\∃ w',(Instr.next (.pointer (some ⟨r,0,none⟩)) false ty).run P w=.ok (.tuple #[.bool false]) w'/\Calm w w'/\w'.heap=H) \/
  ∃ x∈l,x.2.2∉seen/\∃ w',(Instr.next (.pointer (some ⟨r,0,none⟩)) false ty).run P w=.ok (.tuple #[.bool true,enc x.1,ev x.2.1]) w'/\Calm w w'/\w'.heap=H.setIfInBounds r (.mapIter (some m) since (seen.push x.2.2) c):=by
 rcases qhv (P:=P) (ty:=ty) hw hm hr (by intro x hx;obtain⟨y,hy,rfl⟩:=List.mem_map.1 hx;exact hold y hy) hsl with⟨h1,h2⟩ | ⟨x,hx,h1,h2⟩
 ·exact .inl ⟨fun x hx=>h1 (x.1,ev x.2.1,x.2.2) (List.mem_map.2 ⟨x,hx,rfl⟩),h2⟩
 ·obtain⟨y,hy,rfl⟩:=List.mem_map.1 hx
  exact .inr ⟨y,hy,h1,h2⟩
theorem zyx {r since last:Nat}{seen:Array Nat}(hw:w.heap=H) (hm:H[m]?=some (.map (ents enc (vl ev l)) c)){x:κ×ν×Nat}(hr:H[r]?=some (.mapIter (some m) since (seen.push x.2.2) c)) (hx:x∈l) (hl:MOk ok l c) :
  (Instr.entry (.pointer (some ⟨r,0,none⟩))).run P w=.ok (.tuple #[enc x.1,ev x.2.1]) w:=
 qfr (x:=(x.1,ev x.2.1,x.2.2)) (last:=last) hw hm hr (List.mem_map.2 ⟨x,hx,rfl⟩) hl.vl
theorem zrh {seen:Array Nat}{x:κ×ν×Nat}(hx:x∈l) (hn:x.2.2∉seen) :
  (l.filter fun y=>!(seen.push x.2.2).contains y.2.2).length < (l.filter fun y=>!seen.contains y.2.2).length:=by
 have hsub:∀ y:κ×ν×Nat,(!(seen.push x.2.2).contains y.2.2)=true->(!seen.contains y.2.2)=true:=by
  intro y hy
  simp only [Bool.not_eq_true',Array.contains_eq_mem,Array.mem_push,decide_eq_false_iff_not,not_or] at hy |-
  exact hy.1
 induction l with
 | nil=>cases hx
 | cons y l ih=>
  have hle:∀ l:ML κ ν,(l.filter fun y=>!(seen.push x.2.2).contains y.2.2).length<=(l.filter fun y=>!seen.contains y.2.2).length:=by
   intro l
   rw [<-List.countP_eq_length_filter,<-List.countP_eq_length_filter]
   exact List.countP_mono_left fun z _=>hsub z
  rcases List.mem_cons.1 hx with rfl | hx
  ·have h1:(!(seen.push x.2.2).contains x.2.2)=false:=by simp
   have h2:(!seen.contains x.2.2)=true:=by simp [hn]
   simp only [List.filter_cons,h1,h2,Bool.false_eq_true,if_false,if_true,List.length_cons]
   have:=hle l;omega
  ·have:=ih hx
   simp only [List.filter_cons]
   by_cases h:(!(seen.push x.2.2).contains y.2.2)=true
   ·simp only [h,hsub y h,if_true,List.length_cons];omega
   ·rw [if_neg h]
    by_cases h2:(!seen.contains y.2.2)=true
    ·rw [if_pos h2,List.length_cons];omega
    ·rw [if_neg h2];exact this
theorem zlr {seen:Array Nat}{a b:Nat}(h:b≠a):(seen.push a).contains b=seen.contains b:=by
 simp only [Array.contains_eq_mem,Array.mem_push,h,or_false]
theorem z0b {seen:Array Nat}{x:κ×ν×Nat}(hb:(l.map (·.2.2)).Nodup) (hx:x∈l) (hn:x.2.2∉seen) :
  (l.filter fun y=>(seen.push x.2.2).contains y.2.2).Perm ((l.filter fun y=>seen.contains y.2.2)++[x]):=by
 induction l with
 | nil=>cases hx
 | cons y l ih=>
  simp only [List.map_cons,List.nodup_cons] at hb
  by_cases hxy:x=y
  ·subst hxy
   have h1:(l.filter fun y=>(seen.push x.2.2).contains y.2.2)=l.filter fun y=>seen.contains y.2.2:=by
    apply List.filter_congr
    intro z hz
    exact zlr fun h=>hb.1 (h▸List.mem_map_of_mem hz)
   have h2:(seen.push x.2.2).contains x.2.2=true:=by simp
   have h3:seen.contains x.2.2=false:=by simpa using hn
   simp only [List.filter_cons,h2,h3,if_true,h1,Bool.false_eq_true,if_false]
   exact (List.perm_append_singleton _ _).symm
  ·have hxl:x∈l:=by
    rcases List.mem_cons.1 hx with h | h
    ·exact absurd h hxy
    ·exact h
   have hne:y.2.2≠x.2.2:=fun h=>hb.1 (h▸List.mem_map_of_mem hxl)
   simp only [List.filter_cons,zlr hne]
   split
   ·exact (ih hb.2 hxl).cons _
   ·exact ih hb.2 hxl
end views
def zb2 (x:Option Addr×Nat×Nat):Value:=.slice x.1 x.2.1 x.2.2
theorem zgg {P:Program}{m:Sem Value}{l:List Sh}{w:World}{K:Tup l->Prop}(t:Tup l) (h:m.run P w=.ok (.tuple (Tup.vals l t).toArray) w) (hK:K t):z6v P m l w K:=⟨t,h,hK⟩
theorem zkc {v:Value}{i:Nat}{s:Sh}{K:s.T->Prop}{vs:Array Value}(t:s.T) (hv:v=.tuple vs) (h:vs[i]?=some (s.val t)) (hK:K t):exV v i s K:=⟨vs,t,hv,h,hK⟩
theorem zmh {P:Program}{m:Sem Unit}{w:World}{K:World->Prop}(w':World) (h:m.run P w=.ok () w') (hK:K w') (hc:Calm w w':=by first | exact⟨rfl,rfl,rfl,Nat.le_refl _⟩ | exact⟨rfl,rfl,rfl,Nat.le_succ _⟩):zb8 P m w K:=⟨w',h,hc,hK⟩
section
variable {P:Program}{w:World}
theorem zym {t e:TypeId}{n:Nat}{x y:Operand}(hu:P.underlying t=some (.array n e)) (he:P.underlying e=some (.int .u8)) (hc:P.cellsOf e=1) (hg:P.eqGuardType P.depth t=false){A B:List UInt8}(hA:A.length=n) (hB:B.length=n) :
  (eqM .eql t x y (arr A) (arr B)).run P w=.ok (.bool (decide (A=B))) w:=by
 have h:=zus (w:=w) hu he hc hA hB
 unfold arr at h |-
 simp [eqM,eqGuard,binOp,hg,h]
theorem ztb {t e:TypeId}{n:Nat}{x y:Operand}(hu:P.underlying t=some (.array n e)) (he:P.underlying e=some (.int .u8)) (hc:P.cellsOf e=1) (hg:P.eqGuardType P.depth t=false){A B:List UInt8}(hA:A.length=n) (hB:B.length=n) :
  (eqM .neq t x y (arr A) (arr B)).run P w=.ok (.bool (!decide (A=B))) w:=by
 have h:=zus (w:=w) hu he hc hA hB
 unfold arr at h |-
 simp [eqM,eqGuard,binOp,hg,h]
end
def strOf (L:List UInt8):ByteArray:=⟨L.toArray⟩
theorem fold_push (L:List UInt8):∀ (s:ByteArray),(L.map fun b=>(b.toNat:Int)).foldl (fun r n=>r.push (UInt8.ofNat n.toNat)) s=⟨s.data++L.toArray⟩:=by
 induction L with
 | nil=>intro s;cases s;simp
 | cons b l ih=>
  intro s
  simp only [List.map_cons,List.foldl_cons]
  rw [ih]
  cases s
  simp [ByteArray.push]
section
variable {P:Program}{w:World}{H:Heap}
theorem zyc {st sd e:TypeId}{a:Option Addr}{l c:Nat}{L:List UInt8}(hs:P.underlying st=some (.slice e)) (he:P.underlying e=some (.int .u8)) (hd:P.underlying sd=some .string) (hw:w.heap=H) (hL:Cells H a (byteCells L)) (hl:l=L.length) :
  (convert st sd (.slice a l c)).run P w=.ok (.string (strOf L)) w:=by
 subst hl
 rw [run_convert_bytes_string w st sd e a _ c hs he hd]
 cases a with
 | none=>
  have:L=[]:=by
   rcases hL with h | ⟨b,o,c,T,fr,h,_⟩
   ·simpa [byteCells] using h
   ·cases h
  subst this
  rfl
 | some a=>
  have hcs:(loadCells a L.length).run P w=.ok ((L.map fun b=>(b.toNat:Int)).map (Value.int .u8)).toArray w:=by
   rw [List.map_map]
   rcases hL with h | ⟨b,o,c,T,fr,h,hb,hn,hc⟩
   ·have:L=[]:=by simpa [byteCells] using h
    subst this
    rfl
   ·cases h
    rw [jl] at hn
    rw [zon hw hb hn]
    congr 1
    rw [jl] at hc
    apply Array.ext'
    rw [hc]
    rfl
  rw [run_bytesToString w a L.length c _ hcs,fold_push]
  simp [strOf]
theorem zw6 {a:Addr}{vs:List Value}(hw:w.heap=H) (h:Cells H (some a) vs){i:Nat}{v:Value}(hi:vs[i]?=some v):w.cell? (a.add i)=some v:=by
 have hlt:=(List.getElem?_eq_some_iff.1 hi).1
 rcases h with h | ⟨b,o,c,T,fr,h,hb,hn,hc⟩
 ·subst h;simp at hlt
 ·cases h
  rw [vg,zu8 hw hb]
  rw [<-hc,Array.getElem?_toList,Array.getElem?_extract] at hi
  split at hi
  ·exact hi
  ·cases hi
theorem zu6 {a:Option Addr}{l c:Nat}{L:List UInt8}(hw:w.heap=H) (hL:Cells H a (byteCells L)) (hl:l=L.length):(Extern.Bytes.bytesOf (.slice a l c)).run P w=.ok (strOf L) w:=by
 subst hl
 cases a with
 | none=>
  have:L=[]:=by
   rcases hL with h | ⟨b,o,c,T,fr,h,_⟩
   ·simpa [byteCells] using h
   ·cases h
  subst this
  rfl
 | some a=>
  simp only [Extern.Bytes.bytesOf]
  have h:=Lib.run_loadBytesX (P:=P) w (L.map fun b=>(b.toNat:Int)) a .empty fun j x hj=>zw6 hw hL (by
   rw [List.getElem?_map] at hj
   obtain⟨b,hb,rfl⟩:=Option.map_eq_some_iff.1 hj
   simp [byteCells,hb])
  rw [List.length_map] at h
  rw [h]
  simp [strOf,Lib.bytesOf,Function.comp_def]
theorem zv7 {a a':Option Addr}{l c l' c':Nat}{L L':List UInt8}(hw:w.heap=H) (hL:Cells H a (byteCells L)) (hl:l=L.length) (hL':Cells H a' (byteCells L')) (hl':l'=L'.length) :
  (Extern.BytealgCompare.compare #[.slice a l c,.slice a' l' c']).run P w=.ok (.int .i64 (Lib.compareBytes L L')) w:=by
 change Sem.run P (do pure (goInt (Extern.BytealgCompare.cmp (<-Extern.Bytes.bytesOf (.slice a l c)) (<-Extern.Bytes.bytesOf (.slice a' l' c'))))) w=_
 simp only [Sem.run_bind,zu6 hw hL hl,zu6 hw hL' hl',Sem.run_pure,Result.andThen_ok]
 rw [Lib.cmp_eq]
 rfl
end
open Go.Proofs Go.Shelf Go.RowKit Go.Lib Go.Sort
theorem getElem_flatMap {α:Type}{k:Nat}(enc:α->List Value) (hk:∀ x,(enc x).length=k) (h0:0 < k):∀ (xs:List α) (t:Nat),(xs.flatMap enc)[t]?=(xs[t / k]?).bind fun x=>(enc x)[t % k]?
 | [],t=>by simp
 | x :: xs,t=>by
  rw [List.flatMap_cons]
  by_cases ht:t < k
  ·rw [List.getElem?_append_left (by rw [hk];exact ht),Nat.div_eq_of_lt ht,Nat.mod_eq_of_lt ht]
   simp
  ·rw [List.getElem?_append_right (by rw [hk];omega),hk,getElem_flatMap enc hk h0 xs (t-k)]
   have h1:t / k=(t-k) / k+1:=by
    rw [Nat.div_eq_sub_div h0 (by omega)]
   have h2:t % k=(t-k) % k:=by rw [Nat.mod_eq_sub_mod (by omega)]
   rw [h1,h2]
   simp
theorem zq {α:Type}{k:Nat}(enc:α->List Value) (hk:∀ x,(enc x).length=k) (xs:List α):(xs.flatMap enc).length=xs.length * k:=by
 induction xs with
 | nil=>simp
 | cons x r ih=>rw [List.flatMap_cons,List.length_append,hk,ih,List.length_cons,Nat.add_mul];omega
theorem zqh {α:Type} [Inhabited α] {k:Nat}(enc:α->List Value) (hk:∀ x,(enc x).length=k) (h0:0 < k) (d:Array α) (t:Nat) (h:t < d.size * k):(d.toList.flatMap enc)[t]?=some (flatK enc k d)[t]!:=by
 rw [getElem_flatMap enc hk h0,get_flatK enc k d t h]
 have h1:t / k < d.size:=(Nat.div_lt_iff_lt_mul h0).2 h
 have h2:t % k < k:=Nat.mod_lt _ h0
 simp only [Array.getElem?_toList]
 rw [Array.getElem?_eq_getElem h1,Option.bind_some,List.getElem?_eq_getElem (by rw [hk];exact h2),getElem!_pos d _ h1,getElem!_pos _ _ (by rw [hk];exact h2)]
theorem grown_of {W W':World}(hx:Ext [] W.heap W'.heap) (hc:Calm W W'):∃ q os',W'=grow (W.drewN q) os':=by
 refine⟨W'.drawn-W.drawn,W'.heap.extract W.heap.size W'.heap.size,?_⟩
 obtain⟨h1,h2⟩:=hx
 have hh:W'.heap=W.heap++W'.heap.extract W.heap.size W'.heap.size:=by
  apply Array.ext_getElem?
  intro i
  by_cases hi:i < W.heap.size
  ·rw [Array.getElem?_append_left hi];exact h2 i hi (by simp)
  ·rw [Array.getElem?_append_right (by omega),Array.getElem?_extract]
   by_cases hi':i < W'.heap.size
   ·rw [if_pos (by omega)];congr 1;omega
   ·rw [if_neg (by omega),Array.getElem?_eq_none (by omega)]
 obtain⟨c1,c2,c3,c4⟩:=hc
 cases W' with
 | mk h t d o u=>
  simp only at hh c1 c2 c3 c4
  subst c1 c2 c3
  unfold grow World.drewN
  simp only [World.mk.injEq,and_self,and_true]
  exact⟨hh,trivial,(Nat.add_sub_cancel' c4).symm⟩
variable {P:Program}{ρ:Ren}{α:Type} [Inhabited α]
theorem qgi (L:SlLaysF0.n6 P ρ){k:Nat}(aE:∀ w,(isAgg (ρ.t 24)).run P w=.ok true w) (zE:∀ w,(Go.sizeOf (ρ.t 24)).run P w=.ok k w) (enc:α->List Value) (hk:∀ x,(enc x).length=k) (h0:0 < k)
  (h1:∀ x,∀ v∈enc x,v.oneCell'=true) (cf:α->α->Int) (hO:SWO (ltOf cf)){g:Nat}(eg:∀ args w,(callFunc g args).run P w=.ok (.enter g args) w) (e6:∀ args w,(callFunc (ρ.f 6) args).run P w=.ok (.enter (ρ.f 6) args) w)
  (hcmp:∀ W x y,zy P g #[.agg (enc x).toArray,.agg (enc y).toArray] W fun e W'=>e=.returned (.int .i64 (cf x y))/\Ext [] W.heap W'.heap)
  {w:World}{H:Heap}(hw:w.heap=H){B:Nat}{T:TypeId}{x:Option Addr×Nat×Nat}{xs:List α}(hM:Mine H B T k x (xs.flatMap enc)) (hlen:xs.length < 4611686018427387904) :
  zy P (ρ.f 6) #[.slice x.1 x.2.1 x.2.2,.func (.func g) #[] #[]] w fun e w'=>e=.returned (.tuple #[])/\∃ ys:List α,ys.Perm xs/\ys.Pairwise (fun a b=>¬cf b a < 0)/\Mine w'.heap B T k x (ys.flatMap enc)/\Ext (jk x) H w'.heap:=by
 subst hw
 have hl:=hM.len
 rw [zq enc hk] at hl
 have hxl:x.2.1=xs.length:=(Nat.eq_of_mul_eq_mul_right h0 hl).symm
 refine⟨e6 _ _,?_⟩
 rcases hM with⟨rfl,hnil⟩ | ⟨b,c,hx1,hB,hb,hc,hl2,hle,he⟩
 ·clear hxl hl
  have hx0:xs=[]:=by
   have:=congrArg List.length hnil
   rw [zq enc hk,List.length_nil] at this
   rcases Nat.mul_eq_zero.1 this with h | h
   ·exact List.eq_nil_of_length_eq_zero h
   ·omega
  refine (AnyF.slices_SortFunc_none L none 0 _ w).mono ?_
  rintro e w' ⟨he,hw'⟩
  subst hw'
  exact⟨⟨he,[],by rw [hx0],.nil,.inl ⟨rfl,rfl⟩,.refl _ _⟩,.refl _⟩
 ·obtain⟨xa,xl,xc⟩:=x
  simp only at hx1 hxl hc hl2 hle
  subst hx1 hxl
  have hlt:b < w.heap.size:=lt_of_get hb
  have hcl:xs.length * k<=c.size:=by rw [hc];exact Nat.mul_le_mul_right k hle
  have hget:∀ t,t < xs.length * k->c[t]?=(xs.flatMap enc)[t]?:=by
   intro t ht
   rw [<-he,Array.getElem?_toList,Array.getElem?_extract]
   rw [if_pos (by rw [zq enc hk];omega)]
   simp
  have hH:HoldsK enc k w b 0 xs.toArray:=by
   intro j hj
   simp only [size_flatK,List.size_toArray] at hj
   have h2:=zqh enc hk h0 xs.toArray j (by simpa using hj)
   refine⟨?_,?_⟩
   ·rw [Nat.zero_add,zu8 rfl hb,hget j hj]
    simpa using h2
   ·exact zta rfl hb
  have hcon:=AnyQ.slices_SortFunc L k aE zE enc hk h1 cf hO g #[] b 0 xc xs.toArray w eg (fun m os dk _ x y=>?_) hH hlt (by simpa using hlen)
  ·simp only [List.size_toArray] at hcon
   refine hcon.mono ?_
   rintro e w' ⟨rfl,d',n,os,hp,hs,rfl⟩
   obtain⟨hps,_,hpp⟩:=hp
   have hps':d'.size=xs.length:=by simpa using hps
   have hperm:d'.toList.Perm xs:=by
    have h3:(d'.extract 0 xs.length).toList=d'.toList:=by
     simp only [Array.toList_extract,List.extract_eq_take_drop,List.drop_zero,Nat.sub_zero]
     exact List.take_of_length_le (by simp [hps'])
    have h4:((xs.toArray).extract 0 xs.length).toList=xs:=by simp
    rw [h3,h4] at hpp
    exact hpp
   have hsort:d'.toList.Pairwise (fun a b=>¬cf b a < 0):=by
    rw [List.pairwise_iff_getElem]
    intro i j hi hj hij
    have:=hs i j (Nat.zero_le _) hij (by simpa [hps'] using hj)
    simp only [ltOf,decide_eq_false_iff_not] at this
    rw [getElem!_pos d' j (by simpa using hj),getElem!_pos d' i (by simpa using hi)] at this
    simpa using this
   have hheap:(sortWorldK enc k w b 0 n d' os).heap=(w.heap.setIfInBounds b (.cells (putCells id 0 (flatK enc k d') c) T (0,0)))++os:=by
    unfold sortWorldK grow putRowK putRow mapBlock
    simp only [Sort.ahead]
    congr 1
    apply Array.ext_getElem?
    intro i
    rw [Array.getElem?_modify]
    by_cases hib:b=i
    ·subst hib
     simp only [if_pos,Array.getElem?_setIfInBounds_self_of_lt hlt,hb,Option.map_some]
     rfl
    ·rw [if_neg hib,Array.getElem?_setIfInBounds_ne hib]
   have hsz:(putCells id 0 (flatK enc k d') c).size=c.size:=by simp [putCells]
   have hext:Ext (jk (some ⟨b,0,none⟩,xs.length,xc)) w.heap (sortWorldK enc k w b 0 n d' os).heap:=by
    rw [hheap]
    refine⟨by simp,fun i hi hn=>?_⟩
    rw [Array.getElem?_append_left (by simpa using hi)]
    exact Array.getElem?_setIfInBounds_ne (by rintro rfl;exact hn (by simp [jk]))
   refine⟨⟨rfl,d'.toList,hperm,hsort,.inr ⟨b,_,rfl,hB,?_,hsz.trans hc,?_,hle,?_⟩,hext⟩,?_⟩
   ·rw [hheap,Array.getElem?_append_left (by simpa using hlt),Array.getElem?_setIfInBounds_self_of_lt hlt]
   ·rw [zq enc hk];simp [hps']
   ·apply List.ext_getElem?
    intro t
    rw [Array.getElem?_toList,Array.getElem?_extract,zq enc hk]
    simp only [Array.length_toList,hps']
    by_cases ht:t < xs.length * k
    ·rw [if_pos (by omega)]
     have h5:=zqh enc hk h0 d' t (by rw [hps'];exact ht)
     rw [h5]
     have h6:t < c.size:=by omega
     simp only [putCells,Nat.zero_add,Array.getElem?_mapIdx,Array.getElem?_eq_getElem h6,Option.map_some]
     rw [if_pos ⟨Nat.zero_le _,by simp [hps',ht]⟩]
     rfl
    ·rw [if_neg (by omega),List.getElem?_eq_none (by rw [zq enc hk];simp [hps'];omega)]
   ·unfold sortWorldK grow putRowK putRow mapBlock
    exact⟨rfl,rfl,rfl,by simp [Sort.ahead]⟩
  ·have h:=(hcmp (sortWorldK enc k w b 0 m dk os) x y).2
   exact h.mono fun e W' ⟨⟨he,hx⟩,hc⟩=>⟨he,grown_of hx hc⟩
def Beside (B:Nat) (W W':World):Prop:=∃ r,B<=r/\(∀ o,W.heap[r]?=some o->ziw o)/\Ext [r] W.heap W'.heap
theorem Beside.new {B:Nat}{W W':World}(hB:B<=W.heap.size) (hx:Ext [] W.heap W'.heap):Beside B W W':=
 ⟨W.heap.size,hB,fun o h=>by have:=(Array.getElem?_eq_some_iff.1 h).1;omega,hx.mono (by simp)⟩
theorem Beside.size {B:Nat}{W W':World}(h:Beside B W W'):W.heap.size<=W'.heap.size:=by
 obtain⟨r,_,_,h⟩:=h;exact h.1
theorem Beside.cells {B:Nat}{W W':World}(h:Beside B W W'){b:Nat}{c:Array Value}{T:TypeId}{fr:Nat×Nat}(hb:W.heap[b]?=some (.cells c T fr)):W'.heap[b]?=some (.cells c T fr):=by
 obtain⟨r,_,hn,hx⟩:=h
 refine hx.get hb fun hm=>?_
 simp only [List.mem_singleton] at hm
 subst hm
 exact hn _ hb c T fr rfl
theorem Beside.old {B:Nat}{W W':World}(h:Beside B W W'){b:Nat}(hb:b < B) (hlt:b < W.heap.size):W'.heap[b]?=W.heap[b]?:=by
 obtain⟨r,hB,_,hx⟩:=h
 exact hx.2 b hlt (by simp;omega)
theorem Beside.ext {B:Nat}{W W':World}(h:Beside B W W'){M:List Nat}{H:Heap}(hH:H.size<=B) (hx:Ext M H W.heap):Ext M H W'.heap:=
 ⟨Nat.le_trans hx.1 h.size,fun b hb hn=>(h.old (Nat.lt_of_lt_of_le hb hH) (Nat.lt_of_lt_of_le hb hx.1)).trans (hx.2 b hb hn)⟩
theorem Beside.mine {B B':Nat}{W W':World}(h:Beside B' W W'){T:TypeId}{sz:Nat}{x:Option Addr×Nat×Nat}{vs:List Value}(hM:Mine W.heap B T sz x vs):Mine W'.heap B T sz x vs:=by
 rcases hM with h0 | ⟨b,c,h1,h2,h3,h4⟩
 ·exact .inl h0
 ·exact .inr ⟨b,c,h1,h2,h.cells h3,h4⟩
theorem Beside.own {B:Nat}{W W':World}(h:Beside B W W'){a:Option Addr}{vs:List Value}(hM:Cells W.heap a vs):Cells W'.heap a vs:=by
 rcases hM with h0 | ⟨b,o,c,T,fr,h1,h2,h3⟩
 ·exact .inl h0
 ·exact .inr ⟨b,o,c,T,fr,h1,h.cells h2,h3⟩
theorem Beside.mono {B B':Nat}{W W':World}(h:Beside B W W') (hB:B'<=B):Beside B' W W':=by
 obtain⟨r,h2,h3⟩:=h;exact⟨r,Nat.le_trans hB h2,h3⟩
theorem zca {W:World}{l:Nat}{o:Obj}:(W.putObj l o).heap=W.heap.setIfInBounds l o:=by
 apply Array.ext_getElem?
 intro i
 by_cases h:l=i
 ·subst h
  by_cases hl:l < W.heap.size
  ·rw [World.putObj_heap_same hl,Array.getElem?_setIfInBounds_self_of_lt hl]
  ·rw [Array.getElem?_eq_none (by simp;omega),Array.getElem?_eq_none (by simpa [World.putObj] using hl)]
 ·rw [World.putObj_heap_other (by omega),Array.getElem?_setIfInBounds_ne h]
theorem Beside.put {B:Nat}{W:World}{l:Nat}{o o':Obj}(hB:B<=l) (hl:W.heap[l]?=some o) (ho:ziw o):Beside B W (W.putObj l o'):=by
 refine⟨l,hB,fun x hx=>?_,?_⟩
 ·rw [hl] at hx;cases hx;exact ho
 ·rw [zca]
  exact⟨by simp,fun b _ hn=>Array.getElem?_setIfInBounds_ne (by rintro rfl;exact hn (by simp))⟩
def Keep (M:List Nat) (B:Nat) (H H':Heap):Prop:=H.size<=H'.size/\(∀ b,b < B->b < H.size->b∉M->H'[b]?=H[b]?)/\∀ b o,B<=b->H[b]?=some o->ziw o->H'[b]?=some o
theorem Keep.refl (M:List Nat) (B:Nat) (H:Heap):Keep M B H H:=⟨Nat.le_refl _,fun _ _ _ _=>rfl,fun _ _ _ h _=>h⟩
theorem Keep.trans {M:List Nat}{B:Nat}{H H' H'':Heap}(h:Keep M B H H') (h':Keep M B H' H''):Keep M B H H'':=
 ⟨Nat.le_trans h.1 h'.1,fun b hb hl hn=>(h'.2.1 b hb (Nat.lt_of_lt_of_le hl h.1) hn).trans (h.2.1 b hb hl hn),fun b o hb ho hn=>h'.2.2 b o hb (h.2.2 b o hb ho hn) hn⟩
theorem Keep.of {M M':List Nat}{B:Nat}{H H':Heap}(h:Ext M' H H') (hM:∀ b∈M',b∈M\/(B<=b/\∃ c T fr,H[b]?=some (.cells c T fr))) (hlt:∀ b∈M,b < B):Keep M B H H':=by
 refine⟨h.1,fun b hb hl hn=>h.2 b hl fun hm=>?_,fun b o hb ho hn=>?_⟩
 ·rcases hM b hm with h1 | ⟨h1,_⟩
  ·exact hn h1
  ·omega
 ·refine h.get ho fun hm=>?_
  rcases hM b hm with h1 | ⟨_,c,T,fr,h1⟩
  ·have:=hlt b h1;omega
  ·rw [ho] at h1;cases h1;exact hn c T fr rfl
theorem Keep.new {M:List Nat}{B:Nat}{H H':Heap}(h:Ext [] H H'):Keep M B H H':=⟨h.1,fun b _ hl _=>h.2 b hl (by simp),fun b o _ ho _=>h.get ho (by simp)⟩
theorem Keep.get {M:List Nat}{B:Nat}{H H':Heap}(h:Keep M B H H'){b:Nat}{o:Obj}(hb:H[b]?=some o) (hB:b < B) (hM:b∉M):H'[b]?=some o:=(h.2.1 b hB (lt_of_get hb) hM).trans hb
theorem Keep.ext {M M0:List Nat}{B:Nat}{H0 H H':Heap}(h:Keep M B H H') (h0:Ext M0 H0 H) (hB:H0.size<=B) (hM:∀ b,b < H0.size->b∈M->b∈M0):Ext M0 H0 H':=
 ⟨Nat.le_trans h0.1 h.1,fun b hb hn=>(h.2.1 b (Nat.lt_of_lt_of_le hb hB) (Nat.lt_of_lt_of_le hb h0.1) fun hm=>hn (hM b hb hm)).trans (h0.2 b hb hn)⟩
def z7s (P:Program){α:Type}(gv:Value) (S:List α->Prop) (nx:List α->α->Prop) (enc:α->Array Value) (fp:List Nat) (w:World):Prop:=
 ∃ gf lb,gv=.func (.func gf) #[] lb/\∀ (l:Nat) (I:List α->World->Prop) (J:World->Prop) (w1:World) (M:List Nat),
  Ext [] w.heap w1.heap->(∀ b∈M,b < w1.heap.size/\b∉fp)->(∀ pre W W',I pre W->Beside w1.heap.size W W'->I pre W')->I [] w1 ->
  (∀ pre x W,nx pre x->I pre W->zsg P l (enc x) W fun e W'=>Keep M w1.heap.size W.heap W'.heap/\((e=.returned (.bool true)/\I (pre++[x]) W')\/(e=.returned (.bool false)/\J W'))) ->
  zy P gf (#[.func (.yield l) #[] #[]]++lb) w1 fun e W=>(∃ v,e=.returned v)/\((∃ xs,S xs/\I xs W)\/J W)
theorem z7s.later {P:Program}{α:Type}{gv:Value}{S:List α->Prop}{nx:List α->α->Prop}{enc:α->Array Value}{fp:List Nat}{w w':World}(h:z7s P gv S nx enc fp w) (hx:Ext [] w.heap w'.heap):z7s P gv S nx enc fp w':=by
 obtain⟨gf,lb,hg,h⟩:=h
 exact⟨gf,lb,hg,fun l I J w1 M h1=>h l I J w1 M (hx.trans h1)⟩
theorem zsg.mono {P:Program}{l:Nat}{args:Array Value}{w:World}{R R':Ending->World->Prop}(h:zsg P l args w R) (hr:∀ e w',R e w'->R' e w'):zsg P l args w R':=by
 obtain⟨fn,tm,as1,bd,h1,h2⟩:=h
 exact⟨fn,tm,as1,bd,h1,h2.mono fun e w' ⟨h,hc⟩=>⟨hr e w' h,hc⟩⟩
theorem ziv {P:Program}{l:Nat}{args:Array Value}{shs:List Sh}{tup:Bool}{w:World}{K:Tup shs->World->Prop}(h:zsg P l args w fun e w'=>∃ t,e=.returned (zl8 shs tup t).2/\K t w') :
  zok P (.func (.yield l) #[] #[]) args shs tup w K:=.yield l rfl h
theorem zie {P:Program}{f:Nat}{args cap:Array Value}{shs:List Sh}{tup:Bool}{w:World}{K:Tup shs->World->Prop}(h:zy P f (args++cap) w fun e w'=>∃ t,e=.returned (zl8 shs tup t).2/\K t w') :
  zok P (.func (.func f) #[] cap) args shs tup w K:=.func f #[] cap rfl (by simpa using h)
theorem zy1 {P:Program}{α:Type}{gv:Value}{S:List α->Prop}{nx:List α->α->Prop}{shs:List Sh}{tv:α->Tup shs}{fp:List Nat}{w:World}
  {body:Tup shs->World->(World->(World->Prop)->Prop)->(World->Prop)->(World->Prop)->(Nat->World->Prop)->Prop}{done ret:Nat->World->Prop}{ext:Nat->Nat->World->Prop}
  (hseq:z7s P gv S nx (fun x=>(Tup.vals shs (tv x)).toArray) fp w) (M:List Nat) (hM:∀ b∈M,b < w.heap.size/\b∉fp) (hfp:∀ b∈fp,b < w.heap.size)
  (I:List α->World->Prop) (Jr:World->Prop) (Jx:Nat->World->Prop)
  (hI:∀ pre W W',I pre W->Beside w.heap.size W W'->I pre W') (hJr:∀ W W',Jr W->Beside w.heap.size W W'->Jr W') (hJx:∀ i W W',Jx i W->Beside w.heap.size W W'->Jx i W')
  (h0:I [] w)
  (hbody:∀ pre x W,nx pre x->I pre W->w.heap.size+2<=W.heap.size->∀ (beg:World->(World->Prop)->Prop) (kc kr:World->Prop) (kx:Nat->World->Prop),
   (∀ W1 (K:World->Prop),Ext [] W.heap W1.heap->(∀ W2,Beside w.heap.size W1 W2->W2.heap.size=W1.heap.size ->
    (∀ W3,Keep M w.heap.size W2.heap W3.heap->I (pre++[x]) W3->kc W3)->(∀ W3,Keep M w.heap.size W2.heap W3.heap->Jr W3->kr W3)->(∀ i W3,Keep M w.heap.size W2.heap W3.heap->Jx i W3->kx i W3)->K W2)->beg W1 K) ->
   body (tv x) W beg kc kr kx)
  (hdone:∀ xs W,S xs->I xs W->W.heap[w.heap.size]?=some (.deferred (some []))->done w.heap.size W)
  (hret:∀ W,Jr W->W.heap[w.heap.size]?=some (.deferred (some []))->ret w.heap.size W)
  (hext:∀ i W,Jx i W->W.heap[w.heap.size]?=some (.deferred (some []))->ext i w.heap.size W) :
  zul P shs gv w body done ret ext:=by
 obtain⟨gf,lb,hg,hseq⟩:=hseq
 refine⟨gf,lb,hg,fun oD oL oB oX oE hD hno w1 hw1 hY=>?_⟩
 obtain⟨hnL,hnB,hnX,hnE⟩:=hno
 have hx1:Ext [] w.heap w1.heap:=by rw [hw1];exact (Ext.push _).trans (Ext.push _)
 have hs1:w1.heap.size=w.heap.size+2:=by rw [hw1];simp
 have hD1:w1.heap[w.heap.size]?=some oD:=by rw [hw1];exact zc6 zk
 have hL1:w1.heap[w.heap.size+1]?=some oL:=by
  rw [hw1]
  have:=zk (H:=w.heap.push oD) (o:=oL)
  simpa using this
 have hDc:ziw oD:=by rw [hD];intro c T fr h;cases h
 have key:∀ {W W':World}{r:Nat}{o:Obj},(∀ o,W.heap[r]?=some o->ziw o)->w1.heap.size<=r->Ext [r] W.heap W'.heap->∀ b,b < w.heap.size+2->W.heap[b]?=some o->W'.heap[b]?=some o:=
  fun _ hr hx b hb hbo=>hx.get hbo (by simp;omega)
 refine (hseq (w.heap.size+1)
  (fun pre W=>I pre W/\W.heap[w.heap.size]?=some oD/\W.heap[w.heap.size+1]?=some oL)
  (fun W=>W.heap[w.heap.size]?=some oD/\((Jr W/\W.heap[w.heap.size+1]?=some (oX .ret))\/∃ i,Jx i W/\W.heap[w.heap.size+1]?=some (oX (.exit i))))
  w1 ((w.heap.size+1) :: M) hx1 ?_ ?_ ⟨hI _ _ _ h0 (.new (Nat.le_refl _) hx1),hD1,hL1⟩ ?_).mono ?_
 ·intro b hb
  rcases List.mem_cons.1 hb with rfl | hb
  ·exact⟨by omega,fun h=>by have:=hfp _ h;omega⟩
  ·exact⟨by have:=(hM b hb).1;omega,(hM b hb).2⟩
 ·rintro pre W W' ⟨h1,h2,h3⟩ hA
  have hA':=hA
  obtain⟨r,hr,hn,hx⟩:=hA'
  exact⟨hI _ _ _ h1 (hA.mono (by omega)),key hn hr hx _ (by omega) h2,key hn hr hx _ (by omega) h3⟩
 ·rintro pre x W hnx ⟨h1,h2,h3⟩
  have hlt:w.heap.size+1 < W.heap.size:=(Array.getElem?_eq_some_iff.1 h3).1
  refine hY (tv x) W _ h3 (hbody pre x W hnx h1 (by omega) _ _ _ _ ?_)
  intro W1 K hxW1 hK
  have h31:W1.heap[w.heap.size+1]?=some oL:=hxW1.get h3 (by simp)
  have h21:W1.heap[w.heap.size]?=some oD:=hxW1.get h2 (by simp)
  refine⟨h31,fun W2 hW2=>?_⟩
  have hlt1:w.heap.size+1 < W1.heap.size:=(Array.getElem?_eq_some_iff.1 h31).1
  have hh2:W2.heap=W1.heap.setIfInBounds (w.heap.size+1) oB:=by rw [hW2,zca]
  have h32:W2.heap[w.heap.size+1]?=some oB:=by rw [hh2];exact Array.getElem?_setIfInBounds_self_of_lt hlt1
  have h22:W2.heap[w.heap.size]?=some oD:=by rw [hh2,Array.getElem?_setIfInBounds_ne (by omega)];exact h21
  have fin:∀ (o':Obj) (W3:World),Keep M w.heap.size W2.heap W3.heap->W3.heap[w.heap.size+1]?=some oB/\Keep ((w.heap.size+1) :: M) w1.heap.size W.heap (W3.putObj (w.heap.size+1) o').heap/\(W3.putObj (w.heap.size+1) o').heap[w.heap.size]?=some oD /\
    (W3.putObj (w.heap.size+1) o').heap[w.heap.size+1]?=some o'/\Beside w.heap.size W3 (W3.putObj (w.heap.size+1) o'):=by
   intro o' W3 hx3
   have h33:W3.heap[w.heap.size+1]?=some oB:=hx3.2.2 _ _ (by omega) h32 hnB
   have h23:W3.heap[w.heap.size]?=some oD:=hx3.2.2 _ _ (Nat.le_refl _) h22 hDc
   have hlt3:w.heap.size+1 < W3.heap.size:=(Array.getElem?_eq_some_iff.1 h33).1
   have hn2:∀ b,b≠w.heap.size+1->W2.heap[b]?=W1.heap[b]?:=fun b hb=>by rw [hh2];exact Array.getElem?_setIfInBounds_ne (Ne.symm hb)
   have hn4:∀ b,b≠w.heap.size+1->(W3.putObj (w.heap.size+1) o').heap[b]?=W3.heap[b]?:=fun b hb=>by rw [zca];exact Array.getElem?_setIfInBounds_ne (Ne.symm hb)
   have hs2:W2.heap.size=W1.heap.size:=by rw [hh2];simp
   refine⟨h33,⟨?_,?_,?_⟩,?_,?_,.put (by omega) h33 hnB⟩
   ·rw [zca]
    have:=hxW1.1;have:=hx3.1
    simp;omega
   ·intro b hb hl hn
    simp only [List.mem_cons,not_or] at hn
    rw [hn4 b hn.1]
    by_cases hbD:b=w.heap.size
    ·rw [hbD,h23,h2]
    ·rw [hx3.2.1 b (by omega) (by have:=hxW1.1;omega) hn.2,hn2 b hn.1]
     exact hxW1.2 b hl (by simp)
   ·intro b o hb ho hno
    rw [hn4 b (by omega)]
    exact hx3.2.2 b o (by omega) (by rw [hn2 b (by omega)];exact hxW1.get ho (by simp)) hno
   ·rw [hn4 _ (by omega)];exact h23
   ·rw [zca];exact Array.getElem?_setIfInBounds_self_of_lt hlt3
  refine hK W2 (by rw [hW2];exact .put (by omega) h31 hnL) (by rw [hh2];simp) (fun W3 hx3 h=>?_) (fun W3 hx3 h=>?_) (fun i W3 hx3 h=>?_)
  ·obtain⟨a,b,c,d,e⟩:=fin oL W3 hx3
   exact⟨a,b,.inl ⟨rfl,hI _ _ _ h e,c,d⟩⟩
  ·obtain⟨a,b,c,d,e⟩:=fin (oX .ret) W3 hx3
   exact⟨a,b,.inr ⟨rfl,c,.inl ⟨hJr _ _ h e,d⟩⟩⟩
  ·obtain⟨a,b,c,d,e⟩:=fin (oX (.exit i)) W3 hx3
   exact⟨a,b,.inr ⟨rfl,c,.inr ⟨i,hJx _ _ _ h e,d⟩⟩⟩
 ·have put:∀ {W:World}{o o':Obj},W.heap[w.heap.size]?=some oD->(W.putObj (w.heap.size+1) o').heap[w.heap.size]?=some (.deferred (some [])):=by
   intro W o o' h
   rw [zca,Array.getElem?_setIfInBounds_ne (by omega),h,hD]
  rintro e W ⟨hv,⟨xs,hS,h1,h2,h3⟩ | ⟨h2,⟨h1,h3⟩ | ⟨i,h1,h3⟩⟩⟩
  ·exact⟨hv,.inl ⟨h3,hdone xs _ hS (hI _ _ _ h1 (.put (by omega) h3 hnL)) (put (o:=oD) h2)⟩⟩
  ·exact⟨hv,.inr (.inl ⟨h3,hret _ (hJr _ _ h1 (.put (by omega) h3 (hnX _))) (put (o:=oD) h2)⟩)⟩
  ·exact⟨hv,.inr (.inr ⟨i,h3,hext i _ (hJx _ _ _ h1 (.put (by omega) h3 (hnX _))) (put (o:=oD) h2)⟩)⟩
theorem zv6 {P:Program}{w:World}{H:Heap}{y:TypeId}{v:Value}(hs:P.cellsOf y=v.cells.size) (hz:(zc P y).size=v.cells.size) (h0:v.cells.size≠0) (h1:zcl v.cells.toList) (hw:w.heap=H){K:Nat->World->Prop}
  (hK:∀ w',w'.heap=H.push (.cells v.cells y (0,0))->K H.size w'):zbm (zc P y) y w fun b w1=>zb8 P (storeVar y (⟨b,0,none⟩:Addr) v) w1 fun w2=>K b w2:=by
 refine jm hw fun w1 hw1=>?_
 refine zay hs h0 h1 hw1 zk (by omega) fun w2 hw2=>hK w2 ?_
 rw [hw2,zak (by simpa using hz.symm)]
 apply Array.ext_getElem?
 intro i
 by_cases h:H.size=i
 ·subst h
  simp
 ·rw [Array.getElem?_setIfInBounds_ne h]
  by_cases hi:i < H.size
  ·rw [zc6 (Array.getElem?_eq_getElem hi),zc6 (Array.getElem?_eq_getElem hi)]
  ·rw [Array.getElem?_eq_none (by simp;omega),Array.getElem?_eq_none (by simp;omega)]
def Elem (P:Program) (e:TypeId) (sz bts:Nat):Prop:=∃ info z,P.info? e=some info/\info.size=sz/\info.zero=some z/\z.cells.size=sz/\info.bytes=bts
theorem zmm {P:Program}{e:TypeId}{sz bts:Nat}{z:Value}(h:(P.info? e).map (fun i=>(i.size,i.bytes,i.zero))=some (sz,bts,some z)) (hz:z.cells.size=sz):Elem P e sz bts:=by
 obtain⟨i,hi,h⟩:=Option.map_eq_some_iff.1 h
 simp only [Prod.mk.injEq] at h
 exact⟨i,z,hi,h.1,h.2.2,hz,h.2.1⟩
theorem zcj {P:Program}{w:World}{H:Heap}{st xt e ty:TypeId}{sz bts B:Nat}{x:Option Addr×Nat×Nat}{y:Value}{n:Nat}{vs us:List Value}(E:Elem P e sz bts) (hb:bts≠0) (hu:P.underlying st=some (.slice e)) (hx:∃ d,P.underlying xt=some d/\∀ k,d≠.int k)
  (hw:w.heap=H) (hown:Mine H B e sz x vs) (hB:B<=H.size) (hsrc:Src P w y sz n us) (h1:zcl us) (hroom:(2 * (x.2.1+n)+192) * bts<=281474976710656){K:(Option Addr×Nat×Nat)->World->Prop}
  (hK:∀ x' w',Mine w'.heap B e sz x' (vs++us)->x'.2.1=x.2.1+n->Ext (jk x) H w'.heap->(∀ b,b∈jk x'->b∈jk x\/H.size<=b)->K x' w') :
  zaw P (Builtin.append_ #[st,xt] ty #[.slice x.1 x.2.1 x.2.2,y]) .slc w K:=by
 obtain⟨i,z,hi,hs,hz,hzs,hbb⟩:=E
 obtain⟨x',w',h2,hc,h3,h4,h5,h6⟩:=z5g (ty:=ty) hu hx hi hs hz hzs (by omega) hw hown hB hsrc h1 (by rw [hbb];exact hroom)
 exact zah x' w' h2 (hK x' w' h3 h4 h5 h6) hc
theorem zbg {P:Program}{st e:TypeId}(hu:P.underlying st=some (.slice e)):∃ d,P.underlying st=some d/\∀ k,d≠.int k:=⟨_,hu,by intro k h;cases h⟩
theorem zci {P:Program}{w:World}{H:Heap}{a:Option Addr}{len sz:Nat}{α:Type}{enc:α->List Value}(hk:∀ x,(enc x).length=sz) (h0:0 < sz){xs:List α}{v:α}{i:Nat}{n:Int}(hw:w.heap=H) (hL:Cells H a (xs.flatMap enc))
  (hlen:len=xs.length) (hi:xs[i]?=some v) (hn:n=(i:Int)){K:Array Value->Prop}(hK:K (enc v).toArray):ixS a len sz n fun p=>ldA P sz p w K:=by
 have hlt:=(List.getElem?_eq_some_iff.1 hi).1
 rcases hL with h | ⟨b,o,c,T,fr,rfl,hb,hsz,hc⟩
 ·have:=congrArg List.length h
  rw [zq enc hk] at this
  have:=Nat.mul_pos (show 0 < xs.length by omega) h0
  simp_all
 ·refine z07 i hn (by omega) ?_
  have hm:i * sz+sz<=xs.length * sz:=by
   have:=Nat.mul_le_mul_right sz (show i+1<=xs.length by omega)
   rw [Nat.add_mul] at this;omega
  rw [zq enc hk] at hsz
  refine zhc hw hb (by omega) ?_
  have:c.extract (o+i * sz) (o+i * sz+sz)=(enc v).toArray:=by
   apply Array.ext_getElem?
   intro j
   rw [Array.getElem?_extract]
   by_cases hj:j < sz
   ·rw [if_pos (by omega)]
    have h2:(xs.flatMap enc)[i * sz+j]?=(enc v)[j]?:=by
     rw [getElem_flatMap enc hk h0]
     have h3:(i * sz+j) / sz=i:=by
      rw [Nat.mul_comm,Nat.mul_add_div h0,Nat.div_eq_of_lt hj];rfl
     have h4:(i * sz+j) % sz=j:=by
      rw [Nat.mul_comm,Nat.mul_add_mod,Nat.mod_eq_of_lt hj]
     rw [h3,h4,hi];rfl
    rw [<-hc,Array.getElem?_toList,Array.getElem?_extract,zq enc hk,if_pos (by omega)] at h2
    rw [show o+i * sz+j=o+(i * sz+j) by omega,h2]
    simp
   ·rw [if_neg (by omega)]
    rw [Array.getElem?_eq_none (by simp [hk];omega)]
  rw [this];exact hK
theorem zli (off:Nat):∀ (vs:List Value) (k:Nat) (cs:Array Value),(vs.zipIdx k).foldl (fun cs x=>cs.setIfInBounds (off+x.2) x.1) cs=setCells cs (off+k) vs
 | [],_,_=>rfl
 | v :: r,k,cs=>by
  simp only [List.zipIdx_cons,List.foldl_cons,setCells]
  rw [zli off r (k+1)]
  rfl
theorem qbs {v:Value}{size:Nat}{cs:Array Value}(hs:v.cells.size=size) (hc:cs.size=size):Instr.fill (fun i=>some (i * size,size)) cs [(0,v)]=some v.cells:=by
 simp only [Instr.fill,Nat.zero_mul,Nat.zero_add,hs,hc,ne_eq,not_true_eq_false,decide_false,Bool.false_or,Nat.lt_irrefl,decide_eq_true_eq,if_false,Bool.or_self,Bool.false_eq_true,gt_iff_lt]
 congr 1
 have h:=zli 0 v.cells.toList 0 cs
 simp only [Nat.zero_add] at h
 rw [<-Array.foldl_toList,Array.toList_zipIdx,h,zak (by simpa [hc] using hs)]
theorem zen {P:Program}{w:World}{st e:TypeId}{sz bts:Nat}{v:Value}(E:Elem P e sz bts) (hu:P.underlying st=some (.slice e)) (hv:v.cells.size=sz) (h0:0 < sz) (h1:sz<=16777216) :
  (Instr.buildSlice st 1 #[(0,v)]).run P w=.ok (.slice (some ⟨w.heap.size,0,none⟩) 1 1) { w with heap:=w.heap.push (.cells v.cells e) }:=by
 obtain⟨i,z,hi,hs,hz,hzs,_⟩:=E
 have hn1:¬(1 * i.size > 2 ^ 24):=by
  have:(2:Nat) ^ 24=16777216:=by decide
  rw [this];omega
 have hn2:¬(1 * i.size=0):=by omega
 have hf:Instr.fill (fun k=>some (k * i.size,i.size)) ((Array.range (1 * i.size)).map (z.cells[· % z.cells.size]!)) [(0,v)]=some v.cells:=qbs (by omega) (by simp)
 exact run_buildSlice w st e 1 #[(0,v)] v.cells i z hu hi hz hn1 hn2 hf
theorem zdg:∀ {a b:List UInt8},Lib.compareBytes a b < 0 ↔ a < b
 | [],[]=>by simp [Lib.compareBytes]
 | [],b :: y=>by simp [Lib.compareBytes]
 | a :: x,[]=>by simp [Lib.compareBytes]
 | a :: x,b :: y=>by
  have ih:=zdg (a:=x) (b:=y)
  rw [List.cons_lt_cons_iff]
  simp only [Lib.compareBytes]
  by_cases h1:a < b
  ·simp [h1]
  ·rw [if_neg h1]
   by_cases h2:b < a
   ·rw [if_pos h2]
    have:a≠b:=by rintro rfl;exact h1 h2
    simp [h1,this]
   ·rw [if_neg h2]
    have:a=b:=UInt8.le_antisymm (UInt8.not_lt.1 h2) (UInt8.not_lt.1 h1)
    subst this
    simp [h1,ih]
theorem zez:∀ {a b:List UInt8},Lib.compareBytes a b=0 ↔ a=b
 | [],[]=>by simp [Lib.compareBytes]
 | [],b :: y=>by simp [Lib.compareBytes]
 | a :: x,[]=>by simp [Lib.compareBytes]
 | a :: x,b :: y=>by
  have ih:=zez (a:=x) (b:=y)
  simp only [Lib.compareBytes,List.cons.injEq]
  by_cases h1:a < b
  ·have:a≠b:=by rintro rfl;exact UInt8.lt_irrefl _ h1
   simp [h1,this]
  ·rw [if_neg h1]
   by_cases h2:b < a
   ·have:a≠b:=by rintro rfl;exact h1 h2
    simp [h2,this]
   ·rw [if_neg h2]
    have:a=b:=UInt8.le_antisymm (UInt8.not_lt.1 h2) (UInt8.not_lt.1 h1)
    simp [this,ih]
theorem zji:∀ {a b:List UInt8},Lib.compareBytes a b=- Lib.compareBytes b a
 | [],[]=>by simp [Lib.compareBytes]
 | [],b :: y=>by simp [Lib.compareBytes]
 | a :: x,[]=>by simp [Lib.compareBytes]
 | a :: x,b :: y=>by
  have ih:=zji (a:=x) (b:=y)
  simp only [Lib.compareBytes]
  by_cases h1:a < b
  ·have:¬b < a:=fun h=>UInt8.lt_irrefl _ (UInt8.lt_trans h1 h)
   simp [h1,this]
  ·by_cases h2:b < a
   ·simp [h1,h2]
   ·simp [h1,h2];exact ih
theorem zg7:∀ {a b:List UInt8},Lib.compareBytes a b=-1\/Lib.compareBytes a b=0\/Lib.compareBytes a b=1
 | [],[]=>by simp [Lib.compareBytes]
 | [],b :: y=>by simp [Lib.compareBytes]
 | a :: x,[]=>by simp [Lib.compareBytes]
 | a :: x,b :: y=>by
  simp only [Lib.compareBytes]
  split
  ·simp
  ·split
   ·simp
   ·exact zg7
theorem qcj {α:Type}(f:α->List UInt8):SWO (ltOf fun x y=>Lib.compareBytes (f x) (f y)):=by
 have h:∀ x y,ltOf (fun x y=>Lib.compareBytes (f x) (f y)) x y=ltStr (f x) (f y):=by
  intro x y
  unfold ltOf ltStr
  exact decide_eq_decide.2 zdg
 exact⟨fun x=>by rw [h];exact swo_ltStr.irrefl _,fun x y z=>by rw [h,h,h];exact swo_ltStr.trans _ _ _,fun x y z=>by rw [h,h,h];exact swo_ltStr.ntrans _ _ _⟩
@[simp] theorem zeb {L:List UInt8}:(strOf L).toList=L:=by rw [ByteArray.toList_eq];rfl
@[simp] theorem zbe {L:List UInt8}:(strOf L).size=L.length:=rfl
theorem z5s {s:ByteArray}:strOf s.data.toList=s:=rfl
theorem zxz {L:List UInt8}{l h:Nat}:(strOf L).extract l h=strOf ((L.take h).drop l):=by
 apply ByteArray.ext
 simp only [ByteArray.data_extract,strOf]
 apply Array.ext'
 simp [List.extract_eq_take_drop,List.drop_take]
theorem z1c {A B:List UInt8}:strOf A++strOf B=strOf (A++B):=by
 apply ByteArray.ext
 simp [strOf,ByteArray.data_append]
theorem zuy {L:List UInt8}{i:Int}{K:Int->Prop}(k:Nat) (hi:i=(k:Int)) (hk:k < L.length) (hK:K ((L[k]).toNat:Int)):zuk (strOf L) i K:=by
 subst hi
 refine⟨by omega,L[k],?_,hK⟩
 show (strOf L)[((k:Int)).toNat]?=some L[k]
 rw [Int.toNat_natCast]
 have h:k < (strOf L).size:=hk
 rw [getElem?_pos (strOf L) k h]
 rfl
theorem qhz {A B:List UInt8}{K:ByteArray->Prop}(h:A.length+B.length<=9223372036854775807) (hK:K (strOf (A++B))):qiy (strOf A) (strOf B) K:=⟨by simp only [zbe];exact h,by rw [z1c];exact hK⟩
theorem zzw (A:Array UInt8):(ByteArray.mk A).toList=A.toList:=ByteArray.toList_eq _
theorem zjg {L:List UInt8}{A:Array UInt8}:((strOf L).toList==(ByteArray.mk A).toList)=true ↔ L=A.toList:=by rw [zeb,zzw,beq_iff_eq]
section
variable {P:Program}{w:World}
theorem z14 {t:TypeId}{L:List UInt8}{l h:Nat}{lo hi:Option Value}(hu:P.underlying t=some .string) (hlo:IxO lo 0 l) (hhi:IxO hi L.length h) (h1:l<=h) (h2:h<=L.length) :
  (Instr.sliceAt t (.string (strOf L)) lo hi none).run P w=.ok (.string (strOf ((L.take h).drop l))) w:=by
 rw [zyf (s:=strOf L) hu hlo hhi h1 h2,zxz]
end
theorem zzh {a b:List UInt8}:(strOf a==strOf b)=decide (a=b):=by
 show ((strOf a).data==(strOf b).data)=_
 rw [Bool.eq_iff_iff,beq_iff_eq,decide_eq_true_iff]
 simp [strOf]
theorem z0q {κ:Type} [DecidableEq κ] {enc:κ->ByteArray}(heq:∀ a b,(enc a==enc b)=decide (a=b)){k:κ}:∀ (l:List (κ×Value×Nat)) (i:Nat),
  Instr.findNow .string (.string (enc k)) (l.map fun x=>⟨.string (enc x.1),x.2.1,x.2.2⟩) i=some ((l.findIdx? (fun x=>x.1==k)).bind fun j=>(l[j]?).map fun x=>(i+j,x.2.1))
 | [],i=>by simp [Instr.findNow]
 | x :: l,i=>by
  have ih:=z0q heq (k:=k) l (i+1)
  simp only [List.map_cons,Instr.findNow,Instr.sameNow,heq]
  by_cases e:x.1=k
  ·subst e
   simp [List.findIdx?_cons]
  ·have e2:¬k=x.1:=fun h=>e h.symm
   simp only [e2,decide_false,ih]
   congr 1
   rw [List.findIdx?_cons]
   simp only [beq_eq_false_iff_ne.2 e]
   cases hf:List.findIdx? (fun x=>x.1==k) l with
   | none=>simp
   | some j=>simp [Nat.add_assoc,Nat.add_comm 1 j]
theorem KeyOk.str {P:Program}{t:TypeId}(hu:P.underlying t=some .string):KeyOk P t (List UInt8) (fun _=>True) (fun L=>.string (strOf L)) where
 find w k es l _ _ he:=by
  subst he
  have h:=z0q (enc:=strOf) (fun a b=>zzh) (k:=k) l 0
  simp only [Nat.zero_add] at h
  simp only [Instr.findKey,Sem.run_bind,ql hu,Result.andThen_ok,h,Sem.run_pure]
 chk w k e _:=by
  rw [show (10000:Nat)=9999+1 from rfl,Instr.checkKey]
  simp only [Sem.run_bind,ql hu,Result.andThen_ok,Sem.run_pure]
 same k _:=by simp [Instr.sameBits,zzh]
def strRow (xs:List (List UInt8)):List Value:=xs.map fun L=>.string (strOf L)
@[simp] theorem zo9 {xs:List (List UInt8)}:(strRow xs).length=xs.length:=by simp [strRow]
theorem zvs {xs:List (List UInt8)}{n:Nat}:(strRow xs).take n=strRow (xs.take n):=by simp [strRow]
theorem zvo {xs:List (List UInt8)}{n:Nat}:(strRow xs).drop n=strRow (xs.drop n):=by simp [strRow]
theorem zyp {xs ys:List (List UInt8)}:strRow xs++strRow ys=strRow (xs++ys):=by simp [strRow]
theorem zyu {w:World}{H:Heap}{a:Option Addr}{len i:Nat}{n:Int}{xs:List (List UInt8)}(hw:w.heap=H) (hL:Cells H a (strRow xs)) (hlen:len=xs.length) (hi:i < xs.length) (hn:n=(i:Int)){K:ByteArray->Prop}(hK:K (strOf xs[i])) :
  ixS a len 1 n fun p=>ld .str p w K:=by
 rcases hL with h | ⟨b,o,c,T,fr,rfl,hb,hsz,hc⟩
 ·have:=congrArg List.length h
  rw [zo9] at this;simp at this;subst this;simp at hi
 ·refine zkk i hn (by omega) ?_
  refine je (s:=.str) hw hb ?_ hK
  have h2:(strRow xs)[i]?=some (.string (strOf xs[i])):=by simp [strRow,hi]
  rw [<-hc,Array.getElem?_toList,Array.getElem?_extract,zo9] at h2
  split at h2
  ·exact h2
  ·cases h2
end Go.Fw
namespace Go.Proofs.YtbmegmbnlajbbaaGreatDoor
open Go Go.Fw Go.Proofs
def zn8 (c:Int):Bool:=decide (c=46\/c=95\/c=45\/(48<=c/\c<=57)\/(97<=c/\c<=122)\/(65<=c/\c<=90))
def zfb (b:UInt8):Bool:=zn8 (b.toNat:Int)
def zc0 (L:List UInt8):Bool:=decide (L≠[]/\L.length<=16/\L≠[46]/\L≠[46,46])&&L.all zfb
abbrev Path:=List (List UInt8)
def zsm (p:Path):Int:=if p.all zc0 then (if 8 < p.length then 42 else 0) else 41
def zg9:Path->Path->Int
 | [],[]=>0
 | [],_ :: _=>-1
 | _ :: _,[]=>1
 | x :: a,y :: b=>if Lib.compareBytes x y≠0 then Lib.compareBytes x y else zg9 a b
theorem zxq {c:Int}{w:World}(h:c=46\/c=95\/c=45\/(48<=c/\c<=57)\/(97<=c/\c<=122)\/(65<=c/\c<=90)):(Ending.returned (Value.bool true)=.returned (.bool (zn8 c)))/\w=w:=⟨by simp only [zn8,decide_eq_true h],rfl⟩
theorem z3c {c:Int}{w:World}(h:¬(c=46\/c=95\/c=45\/(48<=c/\c<=57)\/(97<=c/\c<=122)\/(65<=c/\c<=90))):(Ending.returned (Value.bool false)=.returned (.bool (zn8 c)))/\w=w:=⟨by simp only [zn8,decide_eq_false h],rfl⟩
theorem zzn {c:Int}{w:World}{b:Bool}(h:b=zn8 c):(Ending.returned (Value.bool b)=.returned (.bool (zn8 c)))/\w=w:=⟨by rw [h],rfl⟩
theorem z8l {w:World}(c:Int):zy P zib #[.int .u8 c] w fun e w'=>e=.returned (.bool (zn8 c))/\w'=w:=by
 refine zwa ?_
 unfold zp0
 repeat' first
  | refine zar ?_
  | refine zbo (fun h=>?_) (fun h=>?_)
  | refine zx (fun h=>?_) (fun h=>?_)
  | exact zxq (by omega)
  | exact z3c (by omega)
  | exact zzn (decide_eq_decide.2 (by omega))
theorem qby {w:World}(c:Int):zy P zo1 #[.int .u8 c] w fun e w'=>e=.returned (.bool (zn8 c))/\w'=w:=by
 refine zzi ?_
 unfold zv0
 repeat' first
  | refine zar ?_
  | refine zbo (fun h=>?_) (fun h=>?_)
  | refine zx (fun h=>?_) (fun h=>?_)
  | exact zxq (by omega)
  | exact zzn (by rw [zn8,Bool.eq_iff_iff,beq_iff_eq,decide_eq_true_iff];omega)
theorem z3i {L:List UInt8}{i:Nat}(hi:i < L.length) (h:∀ b∈L.take i,zfb b=true) (hb:zfb L[i]=true):∀ b∈L.take (i+1),zfb b=true:=by
 intro b hm
 rw [List.take_add_one,List.getElem?_eq_getElem hi] at hm
 rcases List.mem_append.1 hm with hm | hm
 ·exact h b hm
 ·simp only [Option.toList_some,List.mem_singleton] at hm;subst hm;exact hb
theorem zr0 {L:List UInt8}{i:Nat}(hi:i < L.length) (hb:zfb L[i]=false):L.all zfb=false:=by
 rw [List.all_eq_false]
 exact⟨L[i],List.getElem_mem hi,by simp [hb]⟩
theorem qge {w:World}(L:List UInt8) (hL:L.length<=9223372036854775807):zy P zmv #[.string (strOf L)] w fun e w'=>e=.returned (.bool (zc0 L))/\w'=w:=by
 refine zyi ?_
 unfold zrz
 have no:∀ {w:World},¬(L≠[]/\L.length<=16/\L≠[46]/\L≠[46,46])->(Ending.returned (Value.bool false)=.returned (.bool (zc0 L)))/\w=w:=fun h=>⟨by simp only [zc0,decide_eq_false h,Bool.false_and],rfl⟩
 refine zar ?_
 refine zdv (p:=L=[]) zjg (fun h=>no fun h2=>h2.1 h) (fun h1=>?_)
 refine zx (fun h=>no fun h2=>by have:=h2.2.1;simp only [zbe] at h;omega) (fun h2=>?_)
 refine zdv (p:=L=[46]) zjg (fun h=>no fun h2=>h2.2.2.1 h) (fun h3=>?_)
 refine zdv (p:=L=[46,46]) zjg (fun h=>no fun h2=>h2.2.2.2 h) (fun h4=>?_)
 have hc:(L≠[]/\L.length<=16/\L≠[46]/\L≠[46,46]):=⟨h1,by simp only [zbe] at h2;omega,h3,h4⟩
 have hno:zc0 L=L.all zfb:=by simp only [zc0,decide_eq_true hc,Bool.true_and]
 rw [hno]
 refine jg (fun (s:Int) W=>∃ i:Nat,s=(i:Int)/\i<=L.length/\W=w/\∀ b∈L.take i,zfb b=true) (fun s _=>(L.length-s).toNat) ⟨0,rfl,Nat.zero_le _,rfl,by simp⟩ ?_
 rintro _ w ⟨i,rfl,hi,rfl,hp⟩
 refine zx (fun hlt=>?_) (fun hge=>?_)
 ·have hil:i < L.length:=by simp only [zbe] at hlt;omega
  refine zuy i rfl hil ?_
  refine zbw (zfb L[i]) (z8l _) ?_
  cases hb:zfb L[i] with
  | false=>exact zai rfl ⟨by rw [zr0 hil hb],rfl⟩
  | true=>
   refine jr rfl ?_
   refine jd ((i+1:Nat):Int) (by omega) (by omega) (by omega) ?_
   exact⟨⟨i+1,rfl,by omega,rfl,z3i hil hp hb⟩,by omega⟩
 ·have:i=L.length:=by simp only [zbe] at hge;omega
  subst this
  rw [List.take_length] at hp
  exact⟨by rw [List.all_eq_true.2 hp],rfl⟩
theorem qfs {w:World}(L:List UInt8) (hL:L.length<=9223372036854775807):zy P zrt #[.string (strOf L)] w fun e w'=>e=.returned (.bool (zc0 L))/\w'=w:=by
 refine z1u ?_
 unfold zxi
 have no:∀ {w:World},¬(L≠[]/\L.length<=16/\L≠[46]/\L≠[46,46])->(Ending.returned (Value.bool false)=.returned (.bool (zc0 L)))/\w=w:=fun h=>⟨by simp only [zc0,decide_eq_false h,Bool.false_and],rfl⟩
 refine zar ?_
 refine zx (fun h=>no fun h2=>h2.1 (by simp only [zbe] at h;exact List.eq_nil_of_length_eq_zero (by omega))) (fun h1=>?_)
 refine zx (fun h=>no fun h2=>by have:=h2.2.1;simp only [zbe] at h;omega) (fun h2=>?_)
 refine zdv (p:=L=[46]) zjg (fun h=>no fun h2=>h2.2.2.1 h) (fun h3=>?_)
 refine zdv (p:=L=[46,46]) zjg (fun h=>no fun h2=>h2.2.2.2 h) (fun h4=>?_)
 have hc:(L≠[]/\L.length<=16/\L≠[46]/\L≠[46,46]):=⟨by rintro rfl;simp [zbe] at h1,by simp only [zbe] at h2;omega,h3,h4⟩
 have hno:zc0 L=L.all zfb:=by simp only [zc0,decide_eq_true hc,Bool.true_and]
 rw [hno]
 refine jg (fun (s:Int) W=>∃ i:Nat,s=(i:Int)/\i<=L.length/\W=w/\∀ b∈L.take i,zfb b=true) (fun s _=>(L.length-s).toNat) ⟨0,rfl,Nat.zero_le _,rfl,by simp⟩ ?_
 rintro _ w ⟨i,rfl,hi,rfl,hp⟩
 refine zx (fun hlt=>?_) (fun hge=>?_)
 ·have hil:i < L.length:=by simp only [zbe] at hlt;omega
  refine zuy i rfl hil ?_
  refine zbw (zfb L[i]) (qby _) ?_
  cases hb:zfb L[i] with
  | false=>exact zai rfl ⟨by rw [zr0 hil hb],rfl⟩
  | true=>
   refine jr rfl ?_
   refine jd ((i+1:Nat):Int) (by omega) (by omega) (by omega) ?_
   exact⟨⟨i+1,rfl,by omega,rfl,z3i hil hp hb⟩,by omega⟩
 ·have:i=L.length:=by simp only [zbe] at hge;omega
  subst this
  rw [List.take_length] at hp
  exact⟨by rw [List.all_eq_true.2 hp],rfl⟩
theorem z2x:P.underlying zam=some (.slice jw):=by kernel_rfl
theorem qfg:(P.info? jw).map (·.size)=some 1:=by kernel_rfl
def Fit (p:Path):Prop:=∀ L∈p,L.length<=9223372036854775807
theorem z3d {p:Path}{i:Nat}(hi:i < p.length) (hb:zc0 p[i]=false):p.all zc0=false:=by
 rw [List.all_eq_false]
 exact⟨p[i],List.getElem_mem hi,by simp [hb]⟩
theorem zya {p:Path}{i:Nat}(hi:i < p.length) (h:∀ b∈p.take i,zc0 b=true) (hb:zc0 p[i]=true):∀ b∈p.take (i+1),zc0 b=true:=by
 intro b hm
 rw [List.take_add_one,List.getElem?_eq_getElem hi] at hm
 rcases List.mem_append.1 hm with hm | hm
 ·exact h b hm
 ·simp only [Option.toList_some,List.mem_singleton] at hm;subst hm;exact hb
theorem qes {w:World}{H:Heap}{a:Option Addr}{n nc:Nat}{p:Path}(hw:w.heap=H) (hL:Cells H a (strRow p)) (hn:n=p.length) (hf:Fit p) (hp:p.length<=9223372036854775807):zy P zlg #[.slice a n nc] w fun e w'=>e=.returned (.int .i64 (zsm p))/\w'=w:=by
 subst hn
 refine zwc ?_
 unfold zpf
 refine jg (fun (s:Int) W=>∃ i:Nat,s=(i:Int)/\i<=p.length/\W=w/\∀ b∈p.take i,zc0 b=true) (fun s _=>(p.length-s).toNat) ⟨0,rfl,Nat.zero_le _,rfl,by simp⟩ ?_
 rintro _ w ⟨i,rfl,hi,rfl,hok⟩
 refine zx (fun hlt=>?_) (fun hge=>?_)
 ·have hil:i < p.length:=by omega
  refine zyu hw hL rfl hil rfl ?_
  refine zl (qge _ (hf _ (List.getElem_mem hil))) ?_
  rintro e w' ⟨rfl,rfl⟩
  refine⟨_,rfl,?_⟩
  cases hb:zc0 p[i] with
  | false=>exact zai rfl ⟨by simp [zsm,z3d hil hb],rfl⟩
  | true=>
   refine jr rfl ?_
   refine jd ((i+1:Nat):Int) (by omega) (by omega) (by omega) ?_
   exact⟨⟨i+1,rfl,by omega,rfl,zya hil hok hb⟩,by omega⟩
 ·have:i=p.length:=by omega
  subst this
  rw [List.take_length] at hok
  have hall:p.all zc0=true:=List.all_eq_true.2 hok
  refine zx (fun h=>⟨by simp only [zsm,hall,if_true];rw [if_pos (by omega)],rfl⟩) (fun h=>⟨by simp only [zsm,hall,if_true];rw [if_neg (by omega)],rfl⟩)
def zeh (p q:Path):Bool:=q.isPrefixOf p
theorem within_iff {p q:Path}:zeh p q=true ↔ q.length<=p.length/\p.take q.length=q:=by
 unfold zeh
 rw [List.isPrefixOf_iff_prefix]
 constructor
 ·rintro ⟨t,rfl⟩
  exact⟨by simp,by simp⟩
 ·rintro ⟨h1,h2⟩
  exact⟨p.drop q.length,(congrArg (·++p.drop q.length) h2.symm).trans (List.take_append_drop _ _)⟩
theorem z9h {p q:Path}{i:Nat}(hip:i < p.length) (hiq:i < q.length) (h:p.take i=q.take i) (e:p[i]=q[i]):p.take (i+1)=q.take (i+1):=by
 rw [List.take_add_one,List.take_add_one,List.getElem?_eq_getElem hip,List.getElem?_eq_getElem hiq,h,e]
theorem qbb {w:World}(x y:List UInt8):zy P zd1 #[.string (strOf x),.string (strOf y)] w fun e w'=>e=.returned (.int .i64 (Lib.compareBytes x y))/\w'=w:=by
 have nan:∀ (w:World) (x:List UInt8),zy P ze2 #[.string (strOf x)] w fun e w'=>e=.returned (.bool false)/\w'=w:=by
  intro w x
  refine zoo ?_
  unfold zjo
  exact⟨by simp,rfl⟩
 refine zmi ?_
 unfold zh2
 refine zbw false (nan w x) ?_
 refine zbw false (nan w y) ?_
 refine jr rfl ?_
 refine jr rfl ?_
 rw [bytesLess_eq,zeb,zeb]
 have hr:=zg7 (a:=x) (b:=y)
 refine zx (fun h=>?_) (fun h=>?_)
 ·have:=zdg.2 h
  exact⟨by congr 2;omega,rfl⟩
 ·have h1:¬Lib.compareBytes x y < 0:=fun h2=>h (zdg.1 h2)
  by_cases e:x=y
  ·refine jr (by simp [e]) ?_
   have:=zez.2 e
   exact⟨by rw [this],rfl⟩
  ·refine zai (by simp [e];exact fun h2=>absurd h2 h) ?_
   have h2:Lib.compareBytes x y≠0:=fun h2=>e (zez.1 h2)
   exact⟨by congr 2;omega,rfl⟩
theorem u8:P.underlying qw=some (.int .u8):=by kernel_rfl
theorem uS8:P.underlying zi=some (.slice qw):=by kernel_rfl
theorem sz8:(P.info? qw).map (·.size)=some 1:=by kernel_rfl
theorem z4r:P.underlying jw=some .string:=by kernel_rfl
theorem E8:Elem P qw 1 1:=zmm (z:=.int .u8 0) (by kernel_rfl) rfl
theorem uB:P.underlying zel=some (.pointer zal):=by kernel_rfl
theorem uUP:P.underlying zhw=some .unsafePointer:=by kernel_rfl
theorem iB:(P.info? zal).map (·.size)=some 2:=by kernel_rfl
theorem zcB:zc P zal=#[.pointer none,.slice none 0 0]:=by kernel_rfl
theorem up8:P.underlying zql=some (.pointer qw):=by kernel_rfl
theorem qk9:liesAt P P.depth zal (2 / P.cellsOf zal) 0 zal 1=true:=by kernel_rfl
theorem c8:P.cellsOf qw=1:=by kernel_rfl
theorem qeq {t:TypeId}{n:Nat}(h:(P.info? t).map (·.size)=some n):∃ j,P.info? t=some j/\j.size=n:=by
 obtain⟨j,h1,h2⟩:=Option.map_eq_some_iff.1 h
 exact⟨j,h1,h2⟩
theorem qaq {w:World}{H:Heap}{b:Nat}{c:Array Value}{T:TypeId}{fr:Nat×Nat}(hw:w.heap=H) (hb:H[b]?=some (.cells c T fr)):w.shape? b=some (T,c.size):=by
 subst hw;simp [World.shape?,hb]
def Bd (H:Heap) (lo b:Nat) (L:List UInt8):Prop:=∃ x p,H[b]?=some (.cells #[.pointer p,zb2 x] zal (0,0))/\(p=none\/p=some ⟨b,0,none⟩)/\b < lo/\Mine H lo qw 1 x (byteCells L)
theorem zun {w:World}{H:Heap}{b:Nat}{x:Option Addr×Nat×Nat}{p:Option Addr}(hw:w.heap=H) (hb:H[b]?=some (.cells #[.pointer p,zb2 x] zal (0,0))) (hp:p=none\/p=some ⟨b,0,none⟩) :
  zy P zce #[.pointer (some ⟨b,0,none⟩)] w fun e w'=>e=.returned (.tuple #[])/\w'.heap[b]?=some (.cells #[.pointer (some ⟨b,0,none⟩),zb2 x] zal (0,0))/\Ext [b] H w'.heap:=by
 refine zh6 ?_
 unfold ze9
 obtain⟨j,hj,hjs⟩:=qeq iB
 simp only [qg]
 refine je (s:=.ptr) (t:=p) hw hb rfl ?_
 rcases hp with rfl | rfl
 ·refine zai rfl ?_
  have hsh:=qaq hw hb
  refine zah (s:=.any) _ w (Lib.run_to_unsafe w ⟨b,0,none⟩ uB uUP hj (by omega) hsh (by simp)) ?_
  refine zux (l:=[.any]) (.pointer (some ⟨b,0,none⟩)) (by rw [zks (e:=Extern.AbiNoEscape.same) (by kernel_rfl)];rfl) ?_
  refine zah (s:=.ptr) (some ⟨b,0,none⟩) w (Lib.run_from_unsafe w ⟨b,0,none⟩ uUP uB hj hsh qk9) ?_
  refine zbd hw hb (by simp) fun w1 hw1=>?_
  exact⟨by trivial,by rw [hw1];exact qc hb,by rw [hw1];exact Ext.set _ (by simp)⟩
 ·refine jr rfl ?_
  refine je (s:=.ptr) (t:=some ⟨b,0,none⟩) hw hb rfl ?_
  refine qm (s:=.bool) false ?_ ?_
  ·have h:=Lib.run_neq_ptr_same (P:=P) w ⟨b,0,none⟩ uB hj
   simp [eqM,eqGuard,h]
   rfl
  ·refine jr rfl ?_
   exact⟨by trivial,by rw [hw];exact hb,by rw [hw];exact .refl _ _⟩
theorem qh1 {w:World}{H:Heap}{b:Nat}{n:Nat}(hw:w.heap=H) (hb:H[b]?=some (.cells #[.pointer none,.slice none 0 0] zal (0,0))) (hn0:0 < n) (hn:n<=140737488351232) :
  zy P zey #[.pointer (some ⟨b,0,none⟩),.int .i64 (n:Int)] w fun e w'=>e=.returned (.tuple #[])/\Bd w'.heap H.size b []/\Ext [b] H w'.heap:=by
 refine zlo ?_
 unfold zg0
 refine zl (l:=[]) (zun (x:=(none,0,0)) hw hb (.inl rfl)) ?_
 rintro e w1 ⟨rfl,hb1,hx1⟩
 refine⟨(),rfl,?_⟩
 refine zar ?_
 refine zx (fun h=>absurd h (by omega)) (fun _=>?_)
 refine jv rfl fun w2 hw2=>?_
 have hb2:w2.heap[b]?=some (.cells #[.pointer (some ⟨b,0,none⟩),.slice none 0 0] zal (0,0)):=by rw [hw2];exact hb1
 have hx2:Ext [b] H w2.heap:=by rw [hw2];exact hx1
 simp only [qg,vg,Nat.zero_add]
 refine je (s:=.slc) (t:=(none,0,0)) rfl hb2 rfl ?_
 refine qm (s:=.int .i64) 0 (by kernel_rfl) ?_
 refine je (s:=.slc) (t:=(none,0,0)) rfl hb2 rfl ?_
 refine zb3 0 rfl (by omega) (by omega) ?_
 refine zx (fun _=>?_) (fun h=>absurd h (by omega))
 have hgrow:zy P zex #[.pointer (some ⟨b,0,none⟩),.int .i64 (n:Int)] w2 fun e w'=>e=.returned (.tuple #[])/\Bd w'.heap H.size b []/\Ext [b] H w'.heap:=by
  refine zk1 ?_
  unfold zg1
  refine jv rfl fun w3 hw3=>?_
  have hb3:w3.heap[b]?=some (.cells #[.pointer (some ⟨b,0,none⟩),.slice none 0 0] zal (0,0)):=by rw [hw3];exact hb2
  have hx3:Ext [b] H w3.heap:=by rw [hw3];exact hx2
  simp only [qg,vg,Nat.zero_add]
  refine je (s:=.slc) (t:=(none,0,0)) rfl hb3 rfl ?_
  refine qm (s:=.int .i64) 0 (by kernel_rfl) ?_
  refine zfo 0 rfl (by omega) (by omega) ?_
  refine jd (n:Int) (by omega) (by omega) (by omega) ?_
  refine je (s:=.slc) (t:=(none,0,0)) rfl hb3 rfl ?_
  obtain⟨cs,hrun,hcs,hcs2⟩:=Lib.run_makeNoZero (P:=P) (w:=w3) #[zbl] zi qw uS8 n (by omega)
  refine z7q (l:=[.slc]) (some ⟨w3.heap.size,0,none⟩,n,cs.size) (w3.drew.drew.alloc (.cells cs qw)) (by rw [zhr (e:=Extern.BytealgMakeNoZero.makeNoZero #[zbl] #[zi]) (by kernel_rfl),hrun];rfl) ⟨rfl,rfl,rfl,by show w3.drawn<=w3.drawn+1+1;omega⟩ ?_
  have hh4:(w3.drew.drew.alloc (.cells cs qw)).heap=w3.heap.push (.cells cs qw):=rfl
  generalize w3.drew.drew.alloc (.cells cs qw)=w4 at *
  have hx34:Ext [] w3.heap w4.heap:=by rw [hh4];exact .push _
  have hb4:=hx34.get hb3 (by simp)
  refine⟨je (s:=.slc) (t:=(none,0,0)) rfl hb4 rfl rfl,?_⟩
  have hne:cs.size≠0:=by omega
  refine qm (s:=.slc) (some ⟨w3.heap.size,0,none⟩,0,cs.size) ((za9 (l:=0) (h:=0) uS8 sz8 .no (.yes rfl) (Nat.le_refl _) (Nat.zero_le _)).trans (by rw [if_neg hne];simp [vg,Sh.val])) ?_
  refine je (s:=.slc) (t:=(none,0,0)) rfl hb4 rfl ?_
  have hg4:w4.heap[w3.heap.size]?=some (.cells cs qw (0,0)):=by rw [hh4];exact zk
  obtain⟨w5,h5,hc5,hh5⟩:=z8y (P:=P) (w:=w4) (ty:=zbl) (xt:=zi) (sa:=none) (sl:=0) (sc:=0) (dl:=0) (dc:=cs.size) (od:=0) (vs:=[]) uS8 sz8 rfl (.inl rfl) (by simp) (by intro v hv;cases hv) hg4 (by simp)
  refine zah (s:=.int .i64) ((min 0 0:Nat):Int) w5 h5 ?_ hc5
  have hh5':w5.heap=w4.heap:=by
   rw [hh5]
   apply Array.ext_getElem?
   intro i
   rw [Array.getElem?_setIfInBounds]
   by_cases e:w3.heap.size=i
   ·subst e;rw [if_pos rfl,hg4];simp [lt_of_get hg4,setCells]
   ·rw [if_neg e]
  refine zbd hh5' hb4 (by simp) fun w6 hw6=>?_
  have hx46:Ext [b] w4.heap w6.heap:=by rw [hw6];exact Ext.set _ (by simp)
  have hbl:=lt_of_get hb
  have h3:=hx3.1
  refine⟨by trivial,⟨(some ⟨w3.heap.size,0,none⟩,0,cs.size),some ⟨b,0,none⟩,by rw [hw6];exact qc hb4,.inr rfl,hbl,.inr ⟨w3.heap.size,cs,rfl,by omega,hx46.get hg4 (by simp only [List.mem_singleton];omega),by simp,rfl,Nat.zero_le _,by simp [byteCells]⟩⟩,(hx3.trans (hx34.mono (by simp))).trans hx46⟩
 refine zl (l:=[]) hgrow ?_
 rintro e w7 ⟨rfl,h⟩
 exact⟨(),rfl,by trivial,h⟩
theorem zlk {w:World}{H:Heap}{lo b:Nat}{L M:List UInt8}(hw:w.heap=H) (hB:Bd H lo b L) (hlo:lo<=H.size) (hlen:L.length+M.length<=140737488351232) :
  zy P zbj #[.pointer (some ⟨b,0,none⟩),.string (strOf M)] w fun e w'=>e=.returned (.tuple #[.int .i64 (M.length:Int),.nilIface])/\Bd w'.heap lo b (L++M)/\∃ F,Ext F H w'.heap/\∀ c∈F,c=b\/lo<=c:=by
 obtain⟨x,p,hb,hp,hbl,hm⟩:=hB
 refine zhk ?_
 unfold zer
 refine zl (l:=[]) (zun hw hb hp) ?_
 rintro e w1 ⟨rfl,hb1,hx1⟩
 refine⟨(),rfl,?_⟩
 have hm1:Mine w1.heap lo qw 1 x (byteCells L):=hm.ext hx1 (fun c hc=>by have:=qx hm c hc;simp only [List.mem_singleton];omega)
 have hxl:x.2.1=L.length:=by have:=hm.len;simp at this;omega
 simp only [qg,vg,Nat.zero_add]
 refine je (s:=.slc) (t:=x) rfl hb1 rfl ?_
 refine zcj E8 (by omega) uS8 ⟨_,z4r,by intro k h;cases h⟩ rfl hm1 (by have:=hx1.1;omega) (n:=M.length) (us:=byteCells M) Src.str jo (by omega) ?_
 intro x' w2 hm2 hl2 hx2 hs2
 have hb2:=hx2.get hb1 (fun h=>by have:=qx hm1 _ h;omega)
 refine zbd rfl hb2 (by simp) fun w3 hw3=>?_
 have hx3:Ext [b] w2.heap w3.heap:=by rw [hw3];exact Ext.set _ (by simp)
 refine⟨rfl,⟨x',some ⟨b,0,none⟩,by rw [hw3];exact qc hb2,.inr rfl,hbl,?_⟩,[b]++jk x,((hx1.mono (by simp)).trans (hx2.mono fun c hc=>List.mem_append_right _ hc)).trans (hx3.mono (by simp)),fun c hc=>?_⟩
 ·rw [<-byteCells_append]
  exact hm2.ext hx3 (fun c hc=>by have:=qx hm2 c hc;simp only [List.mem_singleton];omega)
 ·rcases List.mem_append.1 hc with hc | hc
  ·simp only [List.mem_singleton] at hc;exact .inl hc
  ·exact .inr (qx hm1 c hc)
theorem z6w {w:World}{a:Addr}{n:Nat}:Ext [a.block] w.heap (w.freeze a n).heap:=by
 unfold World.freeze
 split
 ·exact .refl _ _
 ·refine⟨by simp,fun b _ hn=>?_⟩
  simp only
  rw [Array.getElem?_modify,if_neg (fun e=>hn (by simp [e]))]
theorem string_c {w:World}{H:Heap}{lo b:Nat}{L:List UInt8}(hw:w.heap=H) (hB:Bd H lo b L) (hL:L≠[]) (hlen:L.length<=140737488351232) :
  zy P zd3 #[.pointer (some ⟨b,0,none⟩)] w fun e w'=>e=.returned (.string (strOf L))/\∃ F,Ext F H w'.heap/\∀ c∈F,lo<=c:=by
 obtain⟨x,p,hb,hp,hbl,hm⟩:=hB
 refine zjx ?_
 unfold zgb
 refine jv hw fun w1 hw1=>?_
 simp only [qg,vg,Nat.zero_add]
 refine je (s:=.slc) (t:=x) hw1 hb rfl ?_
 refine je (s:=.slc) (t:=x) hw1 hb rfl ?_
 have hxl:x.2.1=L.length:=by have:=hm.len;simp at this;omega
 have hpos:0 < L.length:=by cases L with | nil=>exact absurd rfl hL | cons a l=>simp
 have hcs:=hm.cells
 rcases hm with⟨rfl,h⟩ | ⟨g,c,hxa,hge,hg,hcz,hvl,hle,he⟩
 ·simp at hxl;omega
 obtain⟨xa,xl,xc⟩:=x
 simp only at hxl hxa hle hcz
 subst hxa hxl
 have hxc:xc≠0:=by omega
 refine zah (s:=.ptr) (some ⟨g,0,none⟩) w1 (Lib.run_unsafeSliceData_row w1 _ _ _ _ _ hxc) ?_
 refine⟨je (s:=.slc) (t:=(some ⟨g,0,none⟩,L.length,xc)) hw1 hb rfl rfl,?_⟩
 refine zah (s:=.str) (strOf L) (w1.freeze ⟨g,0,none⟩ L.length) (Lib.run_unsafeString_row w1 zql zbl jw qw up8 c8 g c.size (qaq hw1 hg) L hL (by omega) (by omega) fun j y hj=>?_) ?_ ?_
 ·have:=zw6 (a:=⟨g,0,none⟩) hw1 hcs (i:=j) (v:=.int .u8 (y.toNat:Int)) (by simp [byteCells,hj])
  exact this
 ·refine⟨rfl,[g],by rw [<-hw1];exact z6w,fun c hc=>by simp only [List.mem_singleton] at hc;omega⟩
 ·unfold World.freeze;split <;> exact⟨rfl,rfl,rfl,Nat.le_refl _⟩
def ku:Path->List UInt8
 | []=>[]
 | x :: xs=>x++xs.flatMap fun L=>47 :: L
def za3 (p:Path):List UInt8:=47 :: ku p
def tlen (p:Path):Nat:=(p.map (·.length)).sum
theorem z02:∀ {p:Path},(p.flatMap fun L=>(47:UInt8) :: L).length=tlen p+p.length
 | []=>rfl
 | x :: p=>by
  have:=z02 (p:=p)
  simp only [List.flatMap_cons,List.length_append,List.length_cons,tlen,List.map_cons,List.sum_cons] at this |-
  omega
theorem zv1 {x:List UInt8}{p:Path}:(ku (x :: p)).length=tlen (x :: p)+p.length:=by
 simp only [ku,List.length_append,z02,tlen,List.map_cons,List.sum_cons]
 omega
theorem z8x {p:Path}{i:Nat}(h:i < p.length):tlen (p.take (i+1))=tlen (p.take i)+(p[i]).length:=by
 unfold tlen
 rw [List.take_add_one,List.getElem?_eq_getElem h,List.map_append,List.sum_append]
 simp
theorem z0k {p:Path}{i:Nat}:tlen (p.take i)<=tlen p:=by
 conv=>rhs;rw [<-List.take_append_drop i p]
 unfold tlen
 rw [List.map_append,List.sum_append]
 omega
set_option maxHeartbeats 4000000 in
theorem qhr {w:World}{H:Heap}{a:Option Addr}{n nc:Nat}{p:Path}(hw:w.heap=H) (hL:Cells H a (strRow p)) (hn:n=p.length) (hnc:n<=nc) (hlen:tlen p+p.length<=1099511627776) :
  zy P zjy #[.slice a n nc,.string (ByteArray.mk #[47])] w fun e w'=>e=.returned (.string (strOf (ku p)))/\Ext [] H w'.heap:=by
 refine ztv ?_
 unfold zob
 have hsep:(ByteArray.mk #[47]:ByteArray)=strOf [47]:=rfl
 have hsz:((ByteArray.mk #[47]:ByteArray).size:Int)=1:=rfl
 match p,hL,hn,hlen with
 | [],hL,hn,hlen=>
  subst hn
  exact zai rfl ⟨rfl,by rw [hw];exact .refl _ _⟩
 | [x],hL,hn,hlen=>
  subst hn
  refine jr rfl ?_
  refine zai rfl ?_
  refine zyu (i:=0) hw hL rfl (by simp) rfl ?_
  exact⟨by simp [ku],by rw [hw];exact .refl _ _⟩
 | x :: y :: p,hL,hn,hlen=>
  generalize hq:x :: y :: p=q at *
  have hql:q.length=p.length+2:=by rw [<-hq];simp
  have hjl:(ku q).length=tlen q+(q.length-1):=by rw [<-hq,zv1];simp
  refine jr (by simp;omega) ?_
  refine jr (by simp;omega) ?_
  refine joinP_of (fun (s:Int) W=>s=((q.length-1:Nat):Int)/\W=w) ?_ ?_
  ·refine zai rfl ?_
   refine zar ?_
   refine zb3 ((q.length-1:Nat):Int) (by omega) (by omega) (by omega) ?_
   refine z3t 9223372036854775807 (q.length-1) rfl rfl (by omega) (by omega) ?_
   have hdiv:2<=9223372036854775807 / (q.length-1):=by
    rw [Nat.le_div_iff_mul_le (by omega)];omega
   refine zx (fun h=>absurd h (by rw [hsz];omega)) (fun _=>?_)
   refine zb3 ((q.length-1:Nat):Int) (by omega) (by omega) (by omega) ?_
   refine zfo ((q.length-1:Nat):Int) (by rw [hsz];omega) (by omega) (by omega) ?_
   refine jd ((q.length-1:Nat):Int) (by omega) (by omega) (by omega) ?_
   exact⟨rfl,rfl⟩
  rintro _ w ⟨rfl,rfl⟩
  refine jg (fun (s:Int×Int) W=>∃ i:Nat,s=(((q.length-1+tlen (q.take i):Nat):Int),(i:Int))/\i<=q.length/\W=w) (fun s _=>(q.length-s.2).toNat) ⟨0,by simp [tlen],Nat.zero_le _,rfl⟩ ?_
  rintro _ w ⟨i,rfl,hi,rfl⟩
  refine zx (fun hlt=>?_) (fun hge=>?_)
  ·have hil:i < q.length:=by simp only at hlt;omega
   have ht1:=z8x hil
   have ht2:=z0k (p:=q) (i:=i+1)
   refine zar ?_
   refine zyu hw hL hn hil rfl ?_
   refine zar ?_
   refine zb3 (9223372036854775807-((q.length-1+tlen (q.take i):Nat):Int)) rfl (by omega) (by omega) ?_
   refine zx (fun h=>absurd h (by simp only [zbe];omega)) (fun _=>?_)
   refine jd ((q.length-1+tlen (q.take (i+1)):Nat):Int) (by simp only [zbe];omega) (by omega) (by omega) ?_
   refine jd ((i+1:Nat):Int) (by omega) (by omega) (by omega) ?_
   exact⟨⟨i+1,rfl,by omega,rfl⟩,by simp only;omega⟩
  have hie:i=q.length:=by simp only at hge;omega
  subst hie
  rw [List.take_length]
  refine jm hw fun w1 hw1=>?_
  rw [zcB] at hw1
  have hb1:w1.heap[H.size]?=some (.cells #[.pointer none,.slice none 0 0] zal (0,0)):=by rw [hw1];exact zk
  have hx1:Ext [] H w1.heap:=by rw [hw1];exact .push _
  refine zl (l:=[]) (qh1 rfl hb1 (by omega) (by omega)) ?_
  rintro e w2 ⟨rfl,hB2,hx2⟩
  refine⟨(),rfl,?_⟩
  have hlo:H.size < w1.heap.size:=lt_of_get hb1
  have hs2:=hx2.1
  have hx02:Ext [] H w2.heap:=hx1.own hx2 (by intro b hb hlt;simp at hb;omega)
  have h0q:0 < q.length:=by omega
  refine zyu (i:=0) rfl (hL.ext hx02 (by simp)) hn h0q rfl ?_
  have hq0:q[0]=x:=by simp only [<-hq,List.getElem_cons_zero]
  have hqd:q.drop 1=y :: p:=by rw [<-hq];rfl
  have htx:x.length<=tlen q:=by rw [<-hq];simp [tlen]
  rw [hq0]
  refine zl (zlk rfl hB2 hs2 (by simp;omega)) ?_
  rintro e w3 ⟨rfl,hB3,F3,hx3,hF3⟩
  refine⟨((x.length:Int),.nilIface),rfl,?_⟩
  have hx03:Ext [] H w3.heap:=hx02.own hx3 (by intro b hb hlt;rcases hF3 b hb with h | h <;> omega)
  have hs3:=hx3.1
  have hdr:=(hL.ext hx03 (by simp)).drop 1 nc (by simp;omega)
  rw [zvo] at hdr
  refine qm (s:=.slc) (if nc=1 then a else a.map (·.add (1 * 1)),n-1,nc-1) (za9 (l:=1) (h:=n) z2x qfg (.yes rfl) .no (by omega) (by omega)) ?_
  rw [List.nil_append] at hB3
  have hdl:(q.drop 1).length=n-1:=by simp;omega
  refine jg (fun (s:Int) W=>∃ i:Nat,s=(i:Int)/\i<=n-1/\Ext [] H W.heap/\w1.heap.size<=W.heap.size/\Bd W.heap w1.heap.size H.size (x++((q.drop 1).take i).flatMap fun L=>47 :: L)) (fun s _=>((n-1:Nat)-s).toNat) ⟨0,rfl,Nat.zero_le _,hx03,by omega,by simpa using hB3⟩ ?_
  rintro _ W ⟨i,rfl,hi,hxW,hsW,hBW⟩
  have hjl2:(ku q).length=x.length+((q.drop 1).flatMap fun L=>(47:UInt8) :: L).length:=by rw [<-hq];simp [ku]
  refine zx (fun hlt=>?_) (fun hge=>?_)
  ·have hil:i < (q.drop 1).length:=by simp only at hlt;omega
   have htk:((q.drop 1).take (i+1)).flatMap (fun L=>(47:UInt8) :: L)=((q.drop 1).take i).flatMap (fun L=>47 :: L)++(47 :: (q.drop 1)[i]):=by
    rw [List.take_add_one,List.getElem?_eq_getElem hil,List.flatMap_append];simp
   have htl:(((q.drop 1).take (i+1)).flatMap fun L=>(47:UInt8) :: L).length<=((q.drop 1).flatMap fun L=>(47:UInt8) :: L).length:=by
    conv=>rhs;rw [<-List.take_append_drop (i+1) (q.drop 1),List.flatMap_append,List.length_append]
    omega
   rw [htk] at htl
   simp only [List.length_append,List.length_cons] at htl
   have hdrW:Cells W.heap (if nc=1 then a else a.map (·.add (1 * 1))) (strRow (q.drop 1)):=by
    have:=(hL.ext hxW (by simp)).drop 1 nc (by simp;omega)
    rwa [zvo] at this
   refine zyu rfl hdrW hdl.symm hil rfl ?_
   rw [hsep]
   refine zl (zlk rfl hBW hsW (by simp only [List.length_append,List.length_cons,List.length_nil];omega)) ?_
   rintro e w4 ⟨rfl,hB4,F4,hx4,hF4⟩
   refine⟨(1,.nilIface),rfl,?_⟩
   have hx04:Ext [] H w4.heap:=hxW.own hx4 (by intro b hb hlt;rcases hF4 b hb with h | h <;> omega)
   refine zl (zlk rfl hB4 (Nat.le_trans hsW hx4.1) (by simp only [List.length_append,List.length_cons,List.length_nil];omega)) ?_
   rintro e w5 ⟨rfl,hB5,F5,hx5,hF5⟩
   refine⟨(((q.drop 1)[i].length:Int),.nilIface),rfl,?_⟩
   refine jd ((i+1:Nat):Int) (by omega) (by omega) (by omega) ?_
   refine⟨⟨i+1,rfl,by omega,hx04.own hx5 (by intro b hb hlt;rcases hF5 b hb with h | h <;> omega),Nat.le_trans hsW (Nat.le_trans hx4.1 hx5.1),?_⟩,by omega⟩
   rw [htk]
   simpa using hB5
  ·have hie:i=(q.drop 1).length:=by simp only at hge;omega
   subst hie
   rw [List.take_length] at hBW
   have hjj:x++(q.drop 1).flatMap (fun L=>(47:UInt8) :: L)=ku q:=by rw [<-hq];rfl
   rw [hjj] at hBW
   refine zl (string_c rfl hBW (by intro h;rw [h] at hjl;simp at hjl;omega) (by omega)) ?_
   rintro e w6 ⟨rfl,F6,hx6,hF6⟩
   refine⟨strOf (ku q),rfl,?_⟩
   exact⟨rfl,hxW.own hx6 (by intro b hb hlt;have:=hF6 b hb;omega)⟩
theorem z4k {w:World}{H:Heap}{a:Option Addr}{n nc:Nat}{p:Path}(hw:w.heap=H) (hL:Cells H a (strRow p)) (hn:n=p.length) (hnc:n<=nc) (hlen:tlen p+p.length<=1099511627776) :
  zy P zge #[.slice a n nc] w fun e w'=>e=.returned (.string (strOf (za3 p)))/\Ext [] H w'.heap:=by
 refine zyn ?_
 unfold zsk
 refine zl (qhr hw hL hn hnc hlen) ?_
 rintro e w1 ⟨rfl,hx⟩
 refine⟨strOf (ku p),rfl,?_⟩
 have hjl:(ku p).length<=tlen p+p.length:=by
  cases p with
  | nil=>simp [ku]
  | cons x p=>rw [zv1];simp
 exact qhz (A:=[47]) (by simp;omega) ⟨rfl,hx⟩
end Go.Proofs.YtbmegmbnlajbbaaGreatDoor
namespace Go.Fw
open Go
def qgw (P:Program){α:Type}(gv:Value) (S:List α->Prop) (nx:List α->α->Prop) (enc:α->Array Value) (fp A:List Nat) (w:World):Prop:=
 ∃ gf lb,gv=.func (.func gf) #[] lb/\∀ (l:Nat) (I:List α->World->Prop) (J:World->Prop) (w1:World) (M:List Nat),
  Ext [] w.heap w1.heap->(∀ b∈M,b < w1.heap.size/\b∉fp)->(∀ pre W W',I pre W->Beside w1.heap.size W W'->I pre W')->(∀ pre W W',I pre W->Ext A W.heap W'.heap->I pre W')->I [] w1 ->
  (∀ pre x W,nx pre x->I pre W->zsg P l (enc x) W fun e W'=>Keep M w1.heap.size W.heap W'.heap/\((e=.returned (.bool true)/\I (pre++[x]) W')\/(e=.returned (.bool false)/\J W'))) ->
  zy P gf (#[.func (.yield l) #[] #[]]++lb) w1 fun e W=>(∃ v,e=.returned v)/\((∃ xs,S xs/\I xs W)\/J W)
theorem qgw.later {P:Program}{α:Type}{gv:Value}{S:List α->Prop}{nx:List α->α->Prop}{enc:α->Array Value}{fp A:List Nat}{w w':World}(h:qgw P gv S nx enc fp A w) (hx:Ext [] w.heap w'.heap):qgw P gv S nx enc fp A w':=by
 obtain⟨gf,lb,hg,h⟩:=h
 exact⟨gf,lb,hg,fun l I J w1 M h1=>h l I J w1 M (hx.trans h1)⟩
theorem z98 {P:Program}{α:Type}{gv:Value}{S:List α->Prop}{nx:List α->α->Prop}{shs:List Sh}{tv:α->Tup shs}{fp:List Nat}{w:World}
  {body:Tup shs->World->(World->(World->Prop)->Prop)->(World->Prop)->(World->Prop)->(Nat->World->Prop)->Prop}{done ret:Nat->World->Prop}{ext:Nat->Nat->World->Prop}
  {A:List Nat}(hseq:qgw P gv S nx (fun x=>(Tup.vals shs (tv x)).toArray) fp A w) (hA:∀ b∈A,b∈fp) (M:List Nat) (hM:∀ b∈M,b < w.heap.size/\b∉fp) (hfp:∀ b∈fp,b < w.heap.size)
  (I:List α->World->Prop) (Jr:World->Prop) (Jx:Nat->World->Prop)
  (hI:∀ pre W W',I pre W->Beside w.heap.size W W'->I pre W') (hJr:∀ W W',Jr W->Beside w.heap.size W W'->Jr W') (hJx:∀ i W W',Jx i W->Beside w.heap.size W W'->Jx i W')
  (hIA:∀ pre W W',I pre W->Ext A W.heap W'.heap->I pre W') (h0:I [] w)
  (hbody:∀ pre x W,nx pre x->I pre W->w.heap.size+2<=W.heap.size->∀ (beg:World->(World->Prop)->Prop) (kc kr:World->Prop) (kx:Nat->World->Prop),
   (∀ W1 (K:World->Prop),Ext [] W.heap W1.heap->(∀ W2,Beside w.heap.size W1 W2->W2.heap.size=W1.heap.size ->
    (∀ W3,Keep M w.heap.size W2.heap W3.heap->I (pre++[x]) W3->kc W3)->(∀ W3,Keep M w.heap.size W2.heap W3.heap->Jr W3->kr W3)->(∀ i W3,Keep M w.heap.size W2.heap W3.heap->Jx i W3->kx i W3)->K W2)->beg W1 K) ->
   body (tv x) W beg kc kr kx)
  (hdone:∀ xs W,S xs->I xs W->W.heap[w.heap.size]?=some (.deferred (some []))->done w.heap.size W)
  (hret:∀ W,Jr W->W.heap[w.heap.size]?=some (.deferred (some []))->ret w.heap.size W)
  (hext:∀ i W,Jx i W->W.heap[w.heap.size]?=some (.deferred (some []))->ext i w.heap.size W) :
  zul P shs gv w body done ret ext:=by
 obtain⟨gf,lb,hg,hseq⟩:=hseq
 refine⟨gf,lb,hg,fun oD oL oB oX oE hD hno w1 hw1 hY=>?_⟩
 obtain⟨hnL,hnB,hnX,hnE⟩:=hno
 have hx1:Ext [] w.heap w1.heap:=by rw [hw1];exact (Ext.push _).trans (Ext.push _)
 have hs1:w1.heap.size=w.heap.size+2:=by rw [hw1];simp
 have hD1:w1.heap[w.heap.size]?=some oD:=by rw [hw1];exact zc6 zk
 have hL1:w1.heap[w.heap.size+1]?=some oL:=by
  rw [hw1]
  have:=zk (H:=w.heap.push oD) (o:=oL)
  simpa using this
 have hDc:ziw oD:=by rw [hD];intro c T fr h;cases h
 have key:∀ {W W':World}{r:Nat}{o:Obj},(∀ o,W.heap[r]?=some o->ziw o)->w1.heap.size<=r->Ext [r] W.heap W'.heap->∀ b,b < w.heap.size+2->W.heap[b]?=some o->W'.heap[b]?=some o:=
  fun _ hr hx b hb hbo=>hx.get hbo (by simp;omega)
 refine (hseq (w.heap.size+1)
  (fun pre W=>I pre W/\W.heap[w.heap.size]?=some oD/\W.heap[w.heap.size+1]?=some oL)
  (fun W=>W.heap[w.heap.size]?=some oD/\((Jr W/\W.heap[w.heap.size+1]?=some (oX .ret))\/∃ i,Jx i W/\W.heap[w.heap.size+1]?=some (oX (.exit i))))
  w1 ((w.heap.size+1) :: M) hx1 ?_ ?_ ?_ ⟨hI _ _ _ h0 (.new (Nat.le_refl _) hx1),hD1,hL1⟩ ?_).mono ?_
 ·intro b hb
  rcases List.mem_cons.1 hb with rfl | hb
  ·exact⟨by omega,fun h=>by have:=hfp _ h;omega⟩
  ·exact⟨by have:=(hM b hb).1;omega,(hM b hb).2⟩
 ·rintro pre W W' ⟨h1,h2,h3⟩ hA
  have hA':=hA
  obtain⟨r,hr,hn,hx⟩:=hA'
  exact⟨hI _ _ _ h1 (hA.mono (by omega)),key hn hr hx _ (by omega) h2,key hn hr hx _ (by omega) h3⟩
 ·rintro pre W W' ⟨h1,h2,h3⟩ hx
  exact⟨hIA _ _ _ h1 hx,hx.get h2 (fun h=>by have:=hfp _ (hA _ h);omega),hx.get h3 (fun h=>by have:=hfp _ (hA _ h);omega)⟩
 ·rintro pre x W hnx ⟨h1,h2,h3⟩
  have hlt:w.heap.size+1 < W.heap.size:=(Array.getElem?_eq_some_iff.1 h3).1
  refine hY (tv x) W _ h3 (hbody pre x W hnx h1 (by omega) _ _ _ _ ?_)
  intro W1 K hxW1 hK
  have h31:W1.heap[w.heap.size+1]?=some oL:=hxW1.get h3 (by simp)
  have h21:W1.heap[w.heap.size]?=some oD:=hxW1.get h2 (by simp)
  refine⟨h31,fun W2 hW2=>?_⟩
  have hlt1:w.heap.size+1 < W1.heap.size:=(Array.getElem?_eq_some_iff.1 h31).1
  have hh2:W2.heap=W1.heap.setIfInBounds (w.heap.size+1) oB:=by rw [hW2,zca]
  have h32:W2.heap[w.heap.size+1]?=some oB:=by rw [hh2];exact Array.getElem?_setIfInBounds_self_of_lt hlt1
  have h22:W2.heap[w.heap.size]?=some oD:=by rw [hh2,Array.getElem?_setIfInBounds_ne (by omega)];exact h21
  have fin:∀ (o':Obj) (W3:World),Keep M w.heap.size W2.heap W3.heap->W3.heap[w.heap.size+1]?=some oB/\Keep ((w.heap.size+1) :: M) w1.heap.size W.heap (W3.putObj (w.heap.size+1) o').heap/\(W3.putObj (w.heap.size+1) o').heap[w.heap.size]?=some oD /\
    (W3.putObj (w.heap.size+1) o').heap[w.heap.size+1]?=some o'/\Beside w.heap.size W3 (W3.putObj (w.heap.size+1) o'):=by
   intro o' W3 hx3
   have h33:W3.heap[w.heap.size+1]?=some oB:=hx3.2.2 _ _ (by omega) h32 hnB
   have h23:W3.heap[w.heap.size]?=some oD:=hx3.2.2 _ _ (Nat.le_refl _) h22 hDc
   have hlt3:w.heap.size+1 < W3.heap.size:=(Array.getElem?_eq_some_iff.1 h33).1
   have hn2:∀ b,b≠w.heap.size+1->W2.heap[b]?=W1.heap[b]?:=fun b hb=>by rw [hh2];exact Array.getElem?_setIfInBounds_ne (Ne.symm hb)
   have hn4:∀ b,b≠w.heap.size+1->(W3.putObj (w.heap.size+1) o').heap[b]?=W3.heap[b]?:=fun b hb=>by rw [zca];exact Array.getElem?_setIfInBounds_ne (Ne.symm hb)
   have hs2:W2.heap.size=W1.heap.size:=by rw [hh2];simp
   refine⟨h33,⟨?_,?_,?_⟩,?_,?_,.put (by omega) h33 hnB⟩
   ·rw [zca]
    have:=hxW1.1;have:=hx3.1
    simp;omega
   ·intro b hb hl hn
    simp only [List.mem_cons,not_or] at hn
    rw [hn4 b hn.1]
    by_cases hbD:b=w.heap.size
    ·rw [hbD,h23,h2]
    ·rw [hx3.2.1 b (by omega) (by have:=hxW1.1;omega) hn.2,hn2 b hn.1]
     exact hxW1.2 b hl (by simp)
   ·intro b o hb ho hno
    rw [hn4 b (by omega)]
    exact hx3.2.2 b o (by omega) (by rw [hn2 b (by omega)];exact hxW1.get ho (by simp)) hno
   ·rw [hn4 _ (by omega)];exact h23
   ·rw [zca];exact Array.getElem?_setIfInBounds_self_of_lt hlt3
  refine hK W2 (by rw [hW2];exact .put (by omega) h31 hnL) (by rw [hh2];simp) (fun W3 hx3 h=>?_) (fun W3 hx3 h=>?_) (fun i W3 hx3 h=>?_)
  ·obtain⟨a,b,c,d,e⟩:=fin oL W3 hx3
   exact⟨a,b,.inl ⟨rfl,hI _ _ _ h e,c,d⟩⟩
  ·obtain⟨a,b,c,d,e⟩:=fin (oX .ret) W3 hx3
   exact⟨a,b,.inr ⟨rfl,c,.inl ⟨hJr _ _ h e,d⟩⟩⟩
  ·obtain⟨a,b,c,d,e⟩:=fin (oX (.exit i)) W3 hx3
   exact⟨a,b,.inr ⟨rfl,c,.inr ⟨i,hJx _ _ _ h e,d⟩⟩⟩
 ·have put:∀ {W:World}{o o':Obj},W.heap[w.heap.size]?=some oD->(W.putObj (w.heap.size+1) o').heap[w.heap.size]?=some (.deferred (some [])):=by
   intro W o o' h
   rw [zca,Array.getElem?_setIfInBounds_ne (by omega),h,hD]
  rintro e W ⟨hv,⟨xs,hS,h1,h2,h3⟩ | ⟨h2,⟨h1,h3⟩ | ⟨i,h1,h3⟩⟩⟩
  ·exact⟨hv,.inl ⟨h3,hdone xs _ hS (hI _ _ _ h1 (.put (by omega) h3 hnL)) (put (o:=oD) h2)⟩⟩
  ·exact⟨hv,.inr (.inl ⟨h3,hret _ (hJr _ _ h1 (.put (by omega) h3 (hnX _))) (put (o:=oD) h2)⟩)⟩
  ·exact⟨hv,.inr (.inr ⟨i,h3,hext i _ (hJx _ _ _ h1 (.put (by omega) h3 (hnX _))) (put (o:=oD) h2)⟩)⟩
end Go.Fw
namespace Go.Proofs.YtbmegmbnlajbbaaGreatDoor
open Go Go.Fw Go.Proofs
def pieces:List UInt8->List (List UInt8)
 | []=>[]
 | c :: L=>if c=47 then [] :: pieces L else match pieces L with | []=>[[c]] | p :: ps=>if L.head?=some 47 then [c] :: ps else (c :: p) :: ps
theorem zne:∀ {p r:List UInt8},(47:UInt8)∉p->pieces (p++47 :: r)=p :: pieces r
 | [],r,_=>by simp [pieces]
 | c :: p,r,h=>by
  have hc:c≠47:=fun e=>h (by simp [e])
  have ih:=zne (p:=p) (r:=r) (fun hm=>h (by simp [hm]))
  rw [List.cons_append,pieces,if_neg hc,ih]
  cases p with
  | nil=>simp
  | cons d p=>
   have hd:d≠47:=fun e=>h (by simp [e])
   simp [hd]
theorem zoz:∀ {p:List UInt8},(47:UInt8)∉p->p≠[]->pieces p=[p]
 | [],_,h=>absurd rfl h
 | [c],h,_=>by
  have hc:c≠47:=fun e=>h (by simp [e])
  simp [pieces,hc]
 | c :: d :: p,h,_=>by
  have hc:c≠47:=fun e=>h (by simp [e])
  have hd:d≠47:=fun e=>h (by simp [e])
  have ih:=zoz (p:=d :: p) (fun hm=>h (by simp [hm])) (by simp)
  rw [pieces,if_neg hc,ih]
  simp [hd]
theorem qfq (L:List UInt8):(47:UInt8)∉L\/∃ p r,L=p++47 :: r/\(47:UInt8)∉p:=by
 induction L with
 | nil=>left;simp
 | cons c L ih=>
  by_cases hc:c=47
  ·right;exact⟨[],L,by simp [hc],by simp⟩
  ·rcases ih with h | ⟨p,r,h1,h2⟩
   ·left;simp [h,Ne.symm hc]
   ·right;exact⟨c :: p,r,by simp [h1],by simp [h2,Ne.symm hc]⟩
theorem z9a:∀ {L:List UInt8},(47:UInt8)∉L->Lib.indexByte L 47=-1
 | [],_=>rfl
 | c :: L,h=>by
  have hc:¬c=47:=fun e=>h (by simp [e])
  have ih:=z9a (L:=L) (fun hm=>h (by simp [hm]))
  simp [Lib.indexByte,hc,ih]
theorem qad:∀ {p r:List UInt8},(47:UInt8)∉p->Lib.indexByte (p++47 :: r) 47=(p.length:Int)
 | [],r,_=>by simp [Lib.indexByte]
 | c :: p,r,h=>by
  have hc:¬c=47:=fun e=>h (by simp [e])
  have ih:=qad (p:=p) (r:=r) (fun hm=>h (by simp [hm]))
  simp only [List.cons_append,Lib.indexByte,ih]
  have h1:(c==(47:UInt8))=false:=by simp [hc]
  have h2:((p.length:Int)==-1)=false:=by simp
  rw [h1,h2]
  simp
theorem cut_c {w:World}(L:List UInt8) (hlen:L.length<=1099511627776):zy P zlb #[.string (strOf L),.string (ByteArray.mk #[47])] w fun e w'=>
  ∃ p r b,e=.returned (.tuple #[.string (strOf p),.string (strOf r),.bool b])/\w'.heap=w.heap/\(((47:UInt8)∉L/\p=L/\r=[])\/(L=p++47 :: r/\(47:UInt8)∉p)):=by
 have hsep:(ByteArray.mk #[47]:ByteArray)=strOf [47]:=rfl
 refine zwg ?_
 unfold zpt
 have hix:zy P zc7 #[.string (strOf L),.string (ByteArray.mk #[47])] w fun e w'=>e=.returned (.int .i64 (Lib.indexByte L 47))/\w'=w:=by
  refine zht ?_
  unfold ze0
  refine zar ?_
  refine zar ?_
  refine jr rfl ?_
  refine zdv (p:=L=[47]) (by rw [zzw,zeb,beq_iff_eq];exact eq_comm) (fun h=>⟨by rw [h];rfl,rfl⟩) (fun _=>?_)
  refine zai rfl ?_
  rw [hsep]
  refine zuy (L:=[47]) 0 rfl (by simp) ?_
  have h2:zy P zbq #[.string (strOf L),.int .u8 47] w fun e w'=>e=.returned (.int .i64 (Lib.indexByte L 47))/\w'=w:=by
   refine zgo ?_
   unfold zdx
   refine zux (l:=[.int .i64]) (Lib.indexByte L 47) ?_ ⟨rfl,rfl⟩
   rw [zgf (e:=Extern.BytealgIndexByte.indexByte) (by kernel_rfl),Lib.run_indexByteString]
   rfl
  refine zl h2 ?_
  rintro e w' ⟨rfl,rfl⟩
  exact⟨_,rfl,rfl,rfl⟩
 have hcut:zy P zdm #[.string (strOf L),.string (ByteArray.mk #[47])] w fun e w'=>
  ∃ p r b,e=.returned (.tuple #[.string (strOf p),.string (strOf r),.bool b])/\w'.heap=w.heap/\(((47:UInt8)∉L/\p=L/\r=[])\/(L=p++47 :: r/\(47:UInt8)∉p)):=by
  refine zio ?_
  unfold zfk
  refine zl hix ?_
  rintro e w' ⟨rfl,rfl⟩
  refine⟨_,rfl,?_⟩
  rcases qfq L with h | ⟨p,r,rfl,h⟩
  ·rw [z9a h]
   refine jr rfl ?_
   exact⟨L,[],false,rfl,rfl,.inl ⟨h,rfl,rfl⟩⟩
  ·rw [qad h]
   refine zai (by simp) ?_
   refine jv rfl fun w2 hw2=>?_
   simp only [List.length_append,List.length_cons] at hlen
   refine jd ((p.length+1:Nat):Int) (by rw [hsep,zbe];simp) (by omega) (by omega) ?_
   refine qm (s:=.str) _ (z14 (l:=0) (h:=p.length) z4r .no (.yes rfl) (Nat.zero_le _) (by simp)) ?_
   refine qm (s:=.str) _ (z14 (l:=p.length+1) (h:=(p++47 :: r).length) z4r (.yes rfl) .no (by simp) (Nat.le_refl _)) ?_
   refine⟨p,r,true,?_,hw2,.inr ⟨rfl,h⟩⟩
   rw [List.take_left,List.drop_zero,List.take_length,show p++47 :: r=(p++[47])++r by simp,List.drop_left' (by simp)]
 refine zl hcut ?_
 rintro e w' ⟨p,r,b,rfl,h1,h2⟩
 refine⟨(strOf p,strOf r,b),rfl,?_⟩
 exact⟨p,r,b,rfl,h1,h2⟩
theorem z7g {w:World}{H:Heap}{b:Nat}{L:List UInt8}(hw:w.heap=H) (hb:H[b]?=some (.cells #[.string (strOf L)] jw (0,0))) (hlen:L.length<=1099511627776) :
  qgw P (.func (.func zfy) #[] #[.pointer (some ⟨b,0,none⟩)]) (fun ys=>ys=pieces L) (fun pre y=>∃ rest,pieces L=pre++y :: rest) (fun x=>#[.string (strOf x)]) [b] [b] w:=by
 refine⟨_,_,rfl,fun l I J w1 M hx1 hMM hst hIA h0 hY=>?_⟩
 have hb1:=(hw▸hx1).get hb (by simp)
 have hblt:=lt_of_get hb1
 refine zrg ?_
 unfold zlu
 simp only [qg]
 have hlt:∀ (R:List UInt8),R.length=R.length:=fun _=>rfl
 refine zjd (fun n _ W=>∃ pre R,I pre W/\W.heap[b]?=some (.cells #[.string (strOf R)] jw (0,0))/\pieces L=pre++pieces R/\R.length<=1099511627776/\w1.heap.size<=W.heap.size/\n=R.length) L.length ⟨[],L,h0,hb1,by simp,hlen,Nat.le_refl _,rfl⟩ ?_
 rintro n _ W ⟨pre,R,hI,hbW,hpc,hRl,hsz,rfl⟩ K hK
 refine je (s:=.str) (t:=strOf R) rfl hbW rfl ?_
 refine zdv (p:=R≠[]) (by rw [Bool.not_eq_true',<-Bool.not_eq_true,zjg]) (fun hne=>?_) (fun he=>?_)
 ·refine je (s:=.str) (t:=strOf R) rfl hbW rfl ?_
  refine zl (cut_c R hRl) ?_
  rintro e W2 ⟨p,r,bb,rfl,hh2,hcase⟩
  refine⟨(strOf p,strOf r,bb),rfl,?_⟩
  have hpr:pieces R=p :: pieces r/\r.length < R.length:=by
   rcases hcase with⟨h1,rfl,rfl⟩ | ⟨rfl,h2⟩
   ·refine⟨by rw [zoz h1 hne];rfl,?_⟩
    cases p with
    | nil=>exact absurd rfl hne
    | cons a p=>simp
   ·exact⟨zne h2,by simp;omega⟩
  have hx2:Ext [] W.heap W2.heap:=by rw [hh2];exact .refl _ _
  have hI2:=hst _ _ _ hI (.new hsz hx2)
  have hb2:W2.heap[b]?=some (.cells #[.string (strOf R)] jw (0,0)):=by rw [hh2];exact hbW
  refine ziv ((hY pre p W2 ⟨pieces r,by rw [hpc,hpr.1]⟩ hI2).mono ?_)
  rintro e W3 ⟨hK3,⟨rfl,hI3⟩ | ⟨rfl,hJ3⟩⟩
  ·refine⟨true,rfl,?_⟩
   refine jr rfl ?_
   have hb3:=hK3.get hb2 hblt (fun h=>(hMM _ h).2 (by simp))
   refine zbd rfl hb3 (by simp) fun W4 hW4=>?_
   have hx4:Ext [b] W3.heap W4.heap:=by rw [hW4];exact Ext.set _ (by simp)
   refine hK _ _ _ hpr.2 ⟨pre++[p],r,hIA _ _ _ hI3 hx4,by rw [hW4];exact qc hb3,by rw [hpc,hpr.1];simp,by omega,?_,rfl⟩
   have:=hx4.1;have:=hK3.1;rw [hh2] at this;omega
  ·refine⟨false,rfl,?_⟩
   exact zai rfl ⟨⟨_,rfl⟩,.inr hJ3⟩
 ·have he:R=[]:=Classical.not_not.1 he
  subst he
  refine⟨⟨_,rfl⟩,.inl ⟨pieces L,rfl,?_⟩⟩
  rw [hpc]
  simpa [pieces] using hI
def zdi (acc:Path) (x:List UInt8):Path:=if x=[]\/x=[46] then acc else if x=[46,46] then acc.dropLast else acc++[x]
def zl4 (ps:Path):Path:=ps.foldl zdi []
def zw4 (L:List UInt8):Bool:=L.all fun b=>decide (b=47) || zfb b
def zdz (L:List UInt8):Path×Int:=
 if 256 < L.length then ([],2) else if L.head?≠some 47 then ([],40) else if zw4 L=false then ([],40)
 else if (pieces L).any (fun x=>decide (16 < x.length)) then ([],41) else if 8 < (zl4 (pieces L)).length then ([],42) else (zl4 (pieces L),0)
theorem zqq {ps:Path}{x:List UInt8}:zl4 (ps++[x])=zdi (zl4 ps) x:=by simp [zl4]
theorem z3h:∀ {ps acc:Path},(ps.foldl zdi acc).length<=acc.length+ps.length
 | [],acc=>by simp
 | x :: ps,acc=>by
  have:=z3h (ps:=ps) (acc:=zdi acc x)
  have h:(zdi acc x).length<=acc.length+1:=by
   unfold zdi;split
   ·omega
   ·split <;> simp;omega
  simp only [List.foldl_cons,List.length_cons];omega
theorem pieces_len:∀ {L:List UInt8},(pieces L).length<=L.length
 | []=>by simp [pieces]
 | c :: L=>by
  have:=pieces_len (L:=L)
  rw [pieces]
  split
  ·simp;omega
  ·split
   ·simp
   ·rename_i p ps h
    rw [h] at this
    split <;> (simp only [List.length_cons] at this |-;omega)
theorem qi1:Elem P jw 1 16:=zmm (z:=.string .empty) (by kernel_rfl) rfl
theorem qk7:zc P zam=#[.slice none 0 0]:=by kernel_rfl
theorem zcE:zc P zeq=#[.int .i64 0]:=by kernel_rfl
theorem Mine.cut {H:Heap}{B:Nat}{T:TypeId}{x:Option Addr×Nat×Nat}{vs:List Value}(h:Mine H B T 1 x vs){k:Nat}(hk:k<=x.2.1) :
  Mine H B T 1 (if x.2.2=0 then x.1 else x.1.map (·.add (0 * 1)),k-0,x.2.2-0) (vs.take k):=by
 rcases h with⟨rfl,rfl⟩ | ⟨b,c,hx,hB,hb,hc,hl,hle,he⟩
 ·simp only at hk
  obtain rfl:k=0:=by omega
  exact .inl ⟨by simp,by simp⟩
 ·have hkl:(vs.take k).length=k:=by simp;omega
  refine .inr ⟨b,c,?_,hB,hb,by simpa using hc,by rw [hkl];simp,by simp only;omega,?_⟩
  ·simp only [hx]
   split
   ·rfl
   ·simp [vg]
  ·rw [hkl]
   conv=>rhs;rw [<-he]
   simp only [Array.toList_extract,List.extract_eq_take_drop,List.drop_zero,Nat.sub_zero,List.take_take]
   congr 1;omega
theorem qdg {x:Option Addr×Nat×Nat}{k c:Nat}:jk (if x.2.2=0 then x.1 else x.1.map (·.add (0 * 1)),k,c)=jk x:=by
 by_cases h:x.2.2=0
 ·rw [if_pos h];rfl
 ·rw [if_neg h]
  cases hx:x.1 with
  | none=>simp [jk,hx]
  | some a=>simp [jk,hx,Addr.add]
theorem zxh {w:World}{H:Heap}{b2 b3:Nat}{v2 v3:Value}{code:Int}{x:Option Addr×Nat×Nat}(hw:w.heap=H) (h2:H[b2]?=some (.cells #[v2] zam (0,0))) (h3:H[b3]?=some (.cells #[v3] zeq (0,0))) (hne:b2≠b3){K:World->Prop}
  (hK:∀ w',Ext [b2,b3] H w'.heap->w'.heap[b2]?=some (.cells #[zb2 x] zam (0,0))->w'.heap[b3]?=some (.cells #[.int .i64 code] zeq (0,0))->w'.heap.size=H.size->K w') :
  stC ⟨b2,0,none⟩ (.slice x.1 x.2.1 x.2.2) w fun w3=>stC ⟨b3,0,none⟩ (.int .i64 code) w3 fun w4=>K w4:=by
 refine zbd hw h2 (by simp) fun w3 hw3=>?_
 have h33:w3.heap[b3]?=some (.cells #[v3] zeq (0,0)):=by rw [hw3];exact zfn h3 (Ne.symm hne)
 have h32:w3.heap[b2]?=some (.cells #[zb2 x] zam (0,0)):=by rw [hw3];exact qc h2
 refine zbd rfl h33 (by simp) fun w4 hw4=>?_
 refine hK w4 ?_ (by rw [hw4];exact zfn h32 hne) (by rw [hw4];exact qc h33) (by rw [hw4,hw3];simp)
 rw [hw4,hw3]
 exact ((Ext.refl _ _).set_own (.inr (by simp))).set_own (.inr (by simp))
theorem qcz {ps:Path}{x:List UInt8}:(ps++[x]).any (fun x=>decide (16 < x.length))=(ps.any (fun x=>decide (16 < x.length)) || decide (16 < x.length)):=by simp
set_option maxHeartbeats 8000000 in
theorem qey {w:World}{H:Heap}(L:List UInt8) (hw:w.heap=H) :
  zy P zk2 #[.string (strOf L)] w fun e w'=>∃ x,e=.returned (.tuple #[zb2 x,.int .i64 (zdz L).2])/\Mine w'.heap H.size jw 1 x (strRow (zdz L).1)/\Ext [] H w'.heap:=by
 refine zv8 ?_
 unfold zpm
 rw [qk7,zcE]
 refine jm hw fun w1 hw1=>?_
 refine jm hw1 fun w2 hw2=>?_
 have hsz:(H.push (.cells #[.slice none 0 0] zam)).size=H.size+1:=by simp
 have h2:w2.heap[H.size]?=some (.cells #[.slice none 0 0] zam (0,0)):=by rw [hw2];exact zc6 zk
 have h3:w2.heap[H.size+1]?=some (.cells #[.int .i64 0] zeq (0,0)):=by rw [hw2,<-hsz];exact zk
 have hx2:Ext [] H w2.heap:=by rw [hw2];exact (Ext.push _).trans (Ext.push _)
 have hs2:w2.heap.size=H.size+2:=by rw [hw2];simp
 rw [hsz]
 clear hw1 hw2
 have fin:∀ {w w':World}{x:Option Addr×Nat×Nat}{code:Int},Ext [] H w.heap->Ext [H.size,H.size+1] w.heap w'.heap->x=(none,0,0)->zdz L=([],code) ->
   ∃ y,Ending.returned (.tuple #[zb2 x,.int .i64 code])=.returned (.tuple #[zb2 y,.int .i64 (zdz L).2])/\Mine w'.heap H.size jw 1 y (strRow (zdz L).1)/\Ext [] H w'.heap:=by
  intro w w' x code h1 h2 hx hp
  subst hx
  rw [hp]
  exact⟨(none,0,0),rfl,.inl ⟨rfl,rfl⟩,h1.own h2 (by intro b hb hlt;simp at hb;omega)⟩
 refine zx (fun hbig=>?_) (fun hsm=>?_)
 ·refine zxh (x:=(none,0,0)) rfl h2 h3 (by omega) fun w4 hx4 h24 h34 _=>?_
  refine je (s:=.slc) (t:=(none,0,0)) rfl h24 rfl ?_
  refine je (s:=.int .i64) (t:=2) rfl h34 rfl ?_
  exact fin hx2 hx4 rfl (by unfold zdz;rw [if_pos (by simp only [zbe] at hbig;omega)])
 have hL256:L.length<=256:=by simp only [zbe] at hsm;omega
 have hhp:zy P zf0 #[.string (strOf L),.string (ByteArray.mk #[47])] w2 fun e w'=>e=.returned (.bool (decide (L.head?=some 47)))/\w'=w2:=by
  refine zns ?_
  unfold zim
  have h1:zy P zch #[.string (strOf L),.string (ByteArray.mk #[47])] w2 fun e w'=>e=.returned (.bool (decide (L.head?=some 47)))/\w'=w2:=by
   refine zgz ?_
   unfold zdy
   cases L with
   | nil=>exact jr rfl ⟨rfl,rfl⟩
   | cons c L=>
    refine zai (decide_eq_true (by show ((strOf (c :: L)).size:Int)>=1;rw [zbe];simp only [List.length_cons];omega)) ?_
    refine qm (s:=.str) _ (z14 (l:=0) (h:=1) z4r .no (.yes rfl) (by omega) (by simp)) ?_
    refine⟨?_,rfl⟩
    congr 2
    rw [Bool.eq_iff_iff,zjg,decide_eq_true_iff]
    simp
  exact zbw (decide (L.head?=some 47)) h1 ⟨rfl,rfl⟩
 refine zbw (decide (L.head?=some 47)) hhp ?_
 by_cases hhd:L.head?=some 47
 rotate_left
 ·refine zai (by simp [hhd]) ?_
  refine zxh (x:=(none,0,0)) rfl h2 h3 (by omega) fun w4 hx4 h24 h34 _=>?_
  refine je (s:=.slc) (t:=(none,0,0)) rfl h24 rfl ?_
  refine je (s:=.int .i64) (t:=40) rfl h34 rfl ?_
  exact fin hx2 hx4 rfl (by unfold zdz;rw [if_neg (by omega),if_pos hhd])
 refine jr (by simp [hhd]) ?_
 refine jg (fun (s:Int) W=>∃ i:Nat,s=(i:Int)/\i<=L.length/\W=w2/\∀ b∈L.take i,(decide (b=47) || zfb b)=true) (fun s _=>(L.length-s).toNat) ⟨0,rfl,Nat.zero_le _,rfl,by simp⟩ ?_
 rintro _ w2 ⟨i,rfl,hi,rfl,hpl⟩
 refine zx (fun hlt=>?_) (fun hge=>?_)
 ·have hil:i < L.length:=by simp only [zbe] at hlt;omega
  have hnext:(decide (L[i]=47) || zfb L[i])=true->∀ b∈L.take (i+1),(decide (b=47) || zfb b)=true:=by
   intro h b hm
   rw [List.take_add_one,List.getElem?_eq_getElem hil] at hm
   rcases List.mem_append.1 hm with hm | hm
   ·exact hpl b hm
   ·simp only [Option.toList_some,List.mem_singleton] at hm;subst hm;exact h
  have hgo:∀ {K:Int->Prop},(decide (L[i]=47) || zfb L[i])=true->(∀ k,k=((i+1:Nat):Int)->K k)->zbv .i64 (i:Int) 1 K:=fun _ hK=>jd ((i+1:Nat):Int) (by omega) (by omega) (by omega) (hK _ rfl)
  refine zar ?_
  refine zar ?_
  refine zuy i rfl hil ?_
  refine zan (fun h47=>?_) (fun h47=>?_)
  ·refine zuy i rfl hil ?_
   refine zbw (zfb L[i]) (z8l _) ?_
   cases hb:zfb L[i] with
   | false=>
    refine zai rfl ?_
    refine zxh (x:=(none,0,0)) rfl h2 h3 (by omega) fun w4 hx4 h24 h34 _=>?_
    refine je (s:=.slc) (t:=(none,0,0)) rfl h24 rfl ?_
    refine je (s:=.int .i64) (t:=40) rfl h34 rfl ?_
    refine fin hx2 hx4 rfl ?_
    have:zw4 L=false:=by
     unfold zw4
     rw [List.all_eq_false]
     refine⟨L[i],List.getElem_mem hil,?_⟩
     have:¬L[i]=47:=fun e=>h47 (by rw [e];rfl)
     simp [this,hb]
    unfold zdz
    rw [if_neg (by omega),if_neg (by simp [hhd]),if_pos this]
   | true=>
    refine jr rfl ?_
    refine hgo (by simp [hb]) ?_
    rintro _ rfl
    exact⟨⟨i+1,rfl,by omega,rfl,hnext (by simp [hb])⟩,by omega⟩
  ·have h47':L[i]=47:=UInt8.toNat_inj.1 (by have h:((L[i]).toNat:Int)=47:=h47;show (L[i]).toNat=47;omega)
   refine hgo (by simp [h47']) ?_
   rintro _ rfl
   exact⟨⟨i+1,rfl,by omega,rfl,hnext (by simp [h47'])⟩,by omega⟩
 have hie:i=L.length:=by simp only [zbe] at hge;omega
 subst hie
 rw [List.take_length] at hpl
 have hok:zw4 L=true:=List.all_eq_true.2 hpl
 have hP:zdz L=if (pieces L).any (fun x=>decide (16 < x.length)) then ([],41) else if 8 < (zl4 (pieces L)).length then ([],42) else (zl4 (pieces L),0):=by
  unfold zdz;rw [if_neg (by omega),if_neg (by simp [hhd]),if_neg (by simp [hok])]
 refine jm rfl fun w12 hw12=>?_
 have h12:Ext [] w2.heap w12.heap:=by rw [hw12];exact .push _
 have hb5:w12.heap[H.size+2]?=some (.cells #[.slice none 0 0] zam (0,0)):=by rw [hw12,<-hs2];exact zk
 have hs12:w12.heap.size=H.size+3:=by rw [hw12];simp [hs2]
 rw [hs2]
 have hpieces:zy P zj0 #[.string (strOf L)] w12 fun e w'=>e=.returned (.func (.func zfy) #[] #[.pointer (some ⟨H.size+3,0,none⟩)])/\w'.heap=w12.heap.push (.cells #[.string (strOf L)] jw):=by
  refine zu5 ?_
  unfold zn4
  refine jm rfl fun w13 hw13=>?_
  exact qm (s:=.any) _ rfl ⟨by rw [hs12],hw13⟩
 refine zl hpieces ?_
 rintro e w13 ⟨rfl,hw13⟩
 refine⟨_,rfl,?_⟩
 have h1213:Ext [] w12.heap w13.heap:=by rw [hw13];exact .push _
 have hb1:w13.heap[H.size+3]?=some (.cells #[.string (strOf L)] jw (0,0)):=by rw [hw13,<-hs12];exact zk
 have hs13:w13.heap.size=H.size+4:=by rw [hw13];simp [hs12]
 have h213:=h12.trans h1213
 have hx13:=hx2.trans h213
 have hpl2:=pieces_len (L:=L)
 refine z98 (α:=List UInt8) (shs:=[.str]) (tv:=fun x=>strOf x) (fp:=[H.size+3]) (A:=[H.size+3]) (z7g rfl hb1 (by omega)) (fun _ h=>h) [H.size,H.size+1,H.size+2] ?_ (fun b hb=>by simp only [List.mem_singleton] at hb;omega)
  (fun pre W=>∃ x,Ext [] H W.heap/\W.heap[H.size]?=some (.cells #[.slice none 0 0] zam (0,0))/\W.heap[H.size+1]?=some (.cells #[.int .i64 0] zeq (0,0))/\W.heap[H.size+2]?=some (.cells #[zb2 x] zam (0,0))/\Mine W.heap (H.size+4) jw 1 x (strRow (zl4 pre))/\pre.any (fun x=>decide (16 < x.length))=false)
  (fun W=>Ext [] H W.heap/\W.heap[H.size]?=some (.cells #[.slice none 0 0] zam (0,0))/\W.heap[H.size+1]?=some (.cells #[.int .i64 41] zeq (0,0))/\(pieces L).any (fun x=>decide (16 < x.length))=true)
  (fun _ _=>False) ?_ ?_ (fun _ _ _ h _=>h.elim) ?_ ?_ ?_ ?_ ?_ (fun _ _ h=>h.elim)
 ·intro b hb
  simp only [List.mem_cons,List.not_mem_nil,or_false] at hb |-
  omega
 ·rintro pre W W' ⟨x,h1,h2,h3,h4,h5,h6⟩ hB
  exact⟨x,hB.ext (by omega) h1,hB.cells h2,hB.cells h3,hB.cells h4,hB.mine h5,h6⟩
 ·rintro W W' ⟨h1,h2,h3,h4⟩ hB
  exact⟨hB.ext (by omega) h1,hB.cells h2,hB.cells h3,h4⟩
 ·rintro pre W W' ⟨x,h1,h2,h3,h4,h5,h6⟩ hx
  have hn:∀ b,b≠H.size+3->b∉[H.size+3]:=fun b h=>by simpa using h
  exact⟨x,h1.own hx (by intro b hb hlt;simp at hb;omega),hx.get h2 (hn _ (by omega)),hx.get h3 (hn _ (by omega)),hx.get h4 (hn _ (by omega)),h5.ext hx (fun b hb=>hn b (by have:=qx h5 b hb;omega)),h6⟩
 ·exact⟨(none,0,0),hx13,h213.get h2 (by simp),h213.get h3 (by simp),h1213.get hb5 (by simp),.inl ⟨rfl,rfl⟩,rfl⟩
 ·rintro pre y W ⟨rest,hrest⟩ ⟨x,k1,k2,k3,k4,k5,k6⟩ hsz beg kc kr kx hbeg
  have hprel:pre.length+1<=256:=by have:=congrArg List.length hrest;simp at this;omega
  have hwl:(zl4 pre).length<=pre.length:=by have:=z3h (ps:=pre) (acc:=[]);simpa [zl4] using this
  refine hbeg W _ (.refl _ _) fun W2 hB2 hs2' hkc hkr _=>?_
  have k12:Ext [] H W2.heap:=hB2.ext (by omega) k1
  have k22:=hB2.cells k2
  have k32:=hB2.cells k3
  have k42:=hB2.cells k4
  have k52:=hB2.mine k5
  have hxl:x.2.1=(zl4 pre).length:=by have:=k52.len;simp at this;omega
  have hW2:H.size+4<=W2.heap.size:=by omega
  have goOn:∀ {W3:World}{x':Option Addr×Nat×Nat},Ext ((H.size+2) :: jk x) W2.heap W3.heap->W3.heap[H.size+2]?=some (.cells #[zb2 x'] zam (0,0))->Mine W3.heap (H.size+4) jw 1 x' (strRow (zl4 (pre++[y])))->¬16 < y.length->kc W3:=by
   intro W3 x' hx h4 h5 hy
   have hown:=qx k52
   have hn:∀ b,b < H.size+2->b∉(H.size+2) :: jk x:=fun b hb h=>by
    rcases List.mem_cons.1 h with h | h
    ·omega
    ·have:=hown b h;omega
   refine hkc W3 (.of hx (fun b hb=>?_) (by intro b hb;simp at hb;omega)) ⟨x',k12.own hx ?_,hx.get k22 (hn _ (by omega)),hx.get k32 (hn _ (by omega)),h4,h5,by rw [qcz,k6];simp;omega⟩
   ·rcases List.mem_cons.1 hb with rfl | hb
    ·left;simp
    ·right
     refine⟨by have:=hown b hb;omega,?_⟩
     rcases k52 with⟨rfl,_⟩ | ⟨b2,c2,hx2',_,hb2,_⟩
     ·simp [jk] at hb
     ·simp only [jk,hx2',List.mem_singleton] at hb;subst hb;exact⟨_,_,_,hb2⟩
   ·intro b hb hlt
    exact absurd hb (hn b (by omega))
  refine zar ?_
  refine zar ?_
  refine zx (fun hlong=>?_) (fun hshort=>?_)
  ·have hlong:16 < y.length:=by have h:=hlong;simp only [zbe] at h;omega
   refine zxh (x:=(none,0,0)) rfl k22 k32 (by omega) fun w4 hx4 h24 h34 hs4=>?_
   refine hkr w4 (.of hx4 (fun b hb=>.inl (by simp at hb |-;omega)) (by intro b hb;simp at hb;omega)) ⟨k12.own hx4 (by intro b hb hlt;simp at hb;omega),h24,h34,?_⟩
   rw [List.any_eq_true]
   exact⟨y,by rw [hrest];simp,by simpa using hlong⟩
  have hshort:¬16 < y.length:=by have h:=hshort;simp only [zbe] at h;omega
  have hnone:zl4 (pre++[y])=zl4 pre->kc W2:=fun h=>goOn (.refl _ _) k42 (by rw [h];exact k52) hshort
  refine zdv (p:=y=[]) zjg (fun h=>hnone (by rw [zqq,zdi,if_pos (.inl h)])) (fun hy0=>?_)
  refine zdv (p:=y=[46]) zjg (fun h=>hnone (by rw [zqq,zdi,if_pos (.inr h)])) (fun hy1=>?_)
  refine zdv (p:=y=[46,46]) zjg (fun h=>?_) (fun hy2=>?_)
  ·refine je (s:=.slc) (t:=x) rfl k42 rfl ?_
   refine je (s:=.slc) (t:=x) rfl k42 rfl ?_
   refine zb3 ((x.2.1:Int)-1) rfl (by omega) (by omega) ?_
   refine qm (s:=.int .i64) ((x.2.1-1:Nat):Int) ?_ ?_
   ·rw [run_max_int2]
    congr 2
    show (if (0:Int) > (x.2.1:Int)-1 then 0 else (x.2.1:Int)-1)=((x.2.1-1:Nat):Int)
    split <;> omega
   have hxc:x.2.1<=x.2.2:=by
    rcases k52 with⟨rfl,_⟩ | ⟨_,_,_,_,_,_,_,h,_⟩
    ·exact Nat.le_refl _
    ·exact h
   refine qm (s:=.slc) (if x.2.2=0 then x.1 else x.1.map (·.add (0 * 1)),(x.2.1-1)-0,x.2.2-0) (za9 z2x qfg .no (.yes rfl) (Nat.zero_le _) (by omega)) ?_
   refine zbd rfl k42 (by simp) fun W3 hW3=>?_
   have hx3:Ext [H.size+2] W2.heap W3.heap:=by rw [hW3];exact Ext.set _ (by simp)
   refine goOn (x':=(if x.2.2=0 then x.1 else x.1.map (·.add (0 * 1)),(x.2.1-1)-0,x.2.2-0)) (hx3.mono (by simp)) (by rw [hW3];exact qc k42) ?_ hshort
   have hcut:=(Mine.cut k52 (k:=x.2.1-1) (by omega)).ext hx3 (fun b hb=>by rw [qdg] at hb;have:=qx k52 b hb;simp only [List.mem_singleton];omega)
   rw [zvs] at hcut
   have hw2:zl4 (pre++[y])=(zl4 pre).take (x.2.1-1):=by rw [zqq,zdi,if_neg (by simp [hy0,hy1]),if_pos h,List.dropLast_eq_take,<-hxl]
   rw [hw2]
   exact hcut
  ·refine je (s:=.slc) (t:=x) rfl k42 rfl ?_
   refine zah (s:=.slc) (some ⟨W2.heap.size,0,none⟩,1,1) _ (zen qi1 z2x (v:=.string (strOf y)) rfl (by omega) (by omega)) ?_
   have hxp:Ext [] W2.heap (W2.heap.push (.cells (Value.string (strOf y)).cells jw)):=.push _
   refine zcj (n:=1) (us:=[.string (strOf y)]) (H:=W2.heap.push (.cells (Value.string (strOf y)).cells jw)) qi1 (by omega) z2x (zbg z2x) rfl (k52.ext hxp (by simp)) (by simp;omega)
    (Src.slc rfl (.inr ⟨W2.heap.size,0,_,_,_,rfl,zk,by simp [Value.cells],by simp [Value.cells]⟩) rfl) (by intro v hv;simp only [List.mem_singleton] at hv;subst hv;rfl) (by omega) ?_
   intro x' W4 hm4 hl4 hx4 _
   have hb4:W4.heap[H.size+2]?=some (.cells #[zb2 x] zam (0,0)):=hx4.get (hxp.get k42 (by simp)) (fun h=>by have:=qx k52 _ h;omega)
   refine zbd rfl hb4 (by simp) fun W5 hW5=>?_
   have hx5:Ext [H.size+2] W4.heap W5.heap:=by rw [hW5];exact Ext.set _ (by simp)
   refine goOn (x':=x') (((hxp.mono (by simp)).trans (hx4.mono (fun b hb=>List.mem_cons_of_mem _ hb))).trans (hx5.mono (by simp))) (by rw [hW5];exact qc hb4) ?_ hshort
   rw [zqq,zdi,if_neg (by simp [hy0,hy1]),if_neg hy2,<-zyp]
   exact hm4.ext hx5 (fun b hb=>by have:=qx hm4 b hb;simp only [List.mem_singleton];omega)
 ·rintro xs W rfl ⟨x,k1,k2,k3,k4,k5,k6⟩ hD
  rw [if_neg (by simp [k6])] at hP
  have hxl:x.2.1=(zl4 (pieces L)).length:=by have:=k5.len;simp at this;omega
  refine je (s:=.slc) (t:=x) rfl k4 rfl ?_
  have hne2:∀ {W':World}{o:Obj}{b:Nat},b≠w13.heap.size->W'.heap[b]?=some o->(W'.heap.setIfInBounds w13.heap.size (.deferred none))[b]?=some o:=fun h ho=>zfn ho h
  refine zx (fun hdeep=>?_) (fun hflat=>?_)
  ·refine zxh (x:=(none,0,0)) rfl k2 k3 (by omega) fun w4 hx4 h24 h34 hs4=>?_
   refine⟨hx4.get hD (by simp;omega),fun w5 hw5=>?_⟩
   have hh5:w5.heap=w4.heap.setIfInBounds w13.heap.size (.deferred none):=by rw [hw5,zca]
   refine je (s:=.slc) (t:=(none,0,0)) rfl (by rw [hh5];exact hne2 (by omega) h24) rfl ?_
   refine je (s:=.int .i64) (t:=42) rfl (by rw [hh5];exact hne2 (by omega) h34) rfl ?_
   rw [if_pos (by omega)] at hP
   rw [hP]
   refine⟨(none,0,0),rfl,.inl ⟨rfl,rfl⟩,?_⟩
   rw [hh5]
   exact (k1.own hx4 (by intro b hb hlt;simp at hb;omega)).set_own (.inl (by omega))
  ·refine je (s:=.slc) (t:=x) rfl k4 rfl ?_
   refine zxh (x:=x) rfl k2 k3 (by omega) fun w4 hx4 h24 h34 hs4=>?_
   have hD4:=hx4.get hD (by simp;omega)
   refine⟨hD4,fun w5 hw5=>?_⟩
   have hh5:w5.heap=w4.heap.setIfInBounds w13.heap.size (.deferred none):=by rw [hw5,zca]
   refine je (s:=.slc) (t:=x) rfl (by rw [hh5];exact hne2 (by omega) h24) rfl ?_
   refine je (s:=.int .i64) (t:=0) rfl (by rw [hh5];exact hne2 (by omega) h34) rfl ?_
   rw [if_neg (by omega)] at hP
   rw [hP]
   refine⟨x,rfl,?_,?_⟩
   ·have hm4:=k5.ext hx4 (fun b hb=>by have:=qx k5 b hb;simp;omega)
    have hB:Beside w13.heap.size w4 w5:=by rw [hw5];exact .put (Nat.le_refl _) hD4 (by intro _ _ _ h;cases h)
    exact (hB.mine hm4).mono (by omega)
   ·rw [hh5]
    exact (k1.own hx4 (by intro b hb hlt;simp at hb;omega)).set_own (.inl (by omega))
 ·rintro W ⟨k1,k2,k3,k4⟩ hD
  refine⟨hD,fun w5 hw5=>?_⟩
  have hh5:w5.heap=W.heap.setIfInBounds w13.heap.size (.deferred none):=by rw [hw5,zca]
  refine je (s:=.slc) (t:=(none,0,0)) rfl (by rw [hh5];exact zfn k2 (by omega)) rfl ?_
  refine je (s:=.int .i64) (t:=41) rfl (by rw [hh5];exact zfn k3 (by omega)) rfl ?_
  rw [if_pos k4] at hP
  rw [hP]
  refine⟨(none,0,0),rfl,.inl ⟨rfl,rfl⟩,?_⟩
  rw [hh5]
  exact k1.set_own (.inl (by omega))
def qje:List UInt8->List (List UInt8)
 | []=>[[]]
 | c :: L=>if c=47 then [] :: qje L else match qje L with | []=>[[c]] | p :: ps=>(c :: p) :: ps
def rem (L:List UInt8) (f:Nat):Path:=if f<=L.length then qje (L.drop f) else []
open Go.Sort
theorem zop:∀ {p q:Path},zg9 p q=0 ↔ p=q
 | [],[]=>by simp [zg9]
 | [],_ :: _=>by simp [zg9]
 | _ :: _,[]=>by simp [zg9]
 | x :: p,y :: q=>by
  simp only [zg9]
  by_cases h:Lib.compareBytes x y=0
  ·rw [if_neg (fun e=>e h),zop,zez.1 h];simp
  ·rw [if_pos h]
   have:x≠y:=fun e=>h (zez.2 e)
   simp [h,this]
theorem zkw:∀ {p q:Path},zg9 p q=- zg9 q p
 | [],[]=>by simp [zg9]
 | [],_ :: _=>by simp [zg9]
 | _ :: _,[]=>by simp [zg9]
 | x :: p,y :: q=>by
  simp only [zg9]
  have hn:=zji (a:=x) (b:=y)
  by_cases h:Lib.compareBytes x y=0
  ·rw [if_neg (fun e=>e h),if_neg (fun e=>e (by omega)),zkw]
  ·rw [if_pos h,if_pos (by omega),hn]
theorem zrp:∀ {p q:Path},zg9 p q=-1\/zg9 p q=0\/zg9 p q=1
 | [],[]=>by simp [zg9]
 | [],_ :: _=>by simp [zg9]
 | _ :: _,[]=>by simp [zg9]
 | x :: p,y :: q=>by
  simp only [zg9]
  split
  ·exact zg7
  ·exact zrp
theorem znn:∀ {p q r:Path},zg9 p q < 0->zg9 q r < 0->zg9 p r < 0
 | [],[],_,h,_=>by simp [zg9] at h
 | [],_ :: _,[],_,h=>by simp [zg9] at h
 | [],_ :: _,_ :: _,_,_=>by simp [zg9]
 | _ :: _,[],_,h,_=>by simp [zg9] at h
 | _ :: _,_ :: _,[],_,h=>by simp [zg9] at h
 | x :: p,y :: q,z :: r,h1,h2=>by
  simp only [zg9] at h1 h2 |-
  by_cases hxy:Lib.compareBytes x y=0
  ·rw [if_neg (fun e=>e hxy)] at h1
   obtain rfl:=zez.1 hxy
   by_cases hyz:Lib.compareBytes x z=0
   ·rw [if_neg (fun e=>e hyz)] at h2 |-
    exact znn h1 h2
   ·rw [if_pos hyz] at h2 |-
    exact h2
  ·rw [if_pos hxy] at h1
   by_cases hyz:Lib.compareBytes y z=0
   ·obtain rfl:=zez.1 hyz
    rw [if_pos hxy];exact h1
   ·rw [if_pos hyz] at h2
    have h3:=zdg.2 (List.lt_trans (zdg.1 h1) (zdg.1 h2))
    rw [if_pos (by omega)];exact h3
theorem qc7 {α:Type}(f:α->Path):SWO (ltOf fun x y=>zg9 (f x) (f y)):=by
 have h:∀ x y,ltOf (fun x y=>zg9 (f x) (f y)) x y=true ↔ zg9 (f x) (f y) < 0:=by
  intro x y;unfold ltOf;exact decide_eq_true_iff
 refine⟨fun x=>?_,fun x y z h1 h2=>?_,fun x y z h1 h2=>?_⟩
 ·rw [<-Bool.not_eq_true,h,zop.2 rfl];omega
 ·rw [h] at *;exact znn h1 h2
 ·rw [<-Bool.not_eq_true,h] at *
  intro h3
  have hxy:=zrp (p:=f x) (q:=f y)
  have hyz:=zrp (p:=f y) (q:=f z)
  have n1:=zkw (p:=f x) (q:=f y)
  have n2:=zkw (p:=f y) (q:=f z)
  rcases Int.lt_or_eq_of_le (show zg9 (f y) (f x)<=0 by omega) with h4 | h4
  ·rcases Int.lt_or_eq_of_le (show zg9 (f z) (f y)<=0 by omega) with h5 | h5
   ·have h6:=znn h5 h4
    have n3:=zkw (p:=f x) (q:=f z)
    omega
   ·rw [zop.1 h5] at h3;omega
  ·rw [zop.1 h4] at h2;omega
theorem ztz:∀ {i:Nat}{p q:Path},p.take i=q.take i->i<=p.length->i<=q.length->zg9 p q=zg9 (p.drop i) (q.drop i)
 | 0,p,q,_,_,_=>by simp
 | i+1,[],q,_,h,_=>by simp at h
 | i+1,x :: p,[],_,_,h=>by simp at h
 | i+1,x :: p,y :: q,h,h1,h2=>by
  simp only [List.take_succ_cons,List.cons.injEq] at h
  obtain⟨rfl,h⟩:=h
  simp only [zg9,List.drop_succ_cons]
  rw [if_neg (fun e=>e (zez.2 rfl))]
  exact ztz h (by simpa using h1) (by simpa using h2)
theorem zu1 {w:World}{H:Heap}{a b:Option Addr}{n nc m mc:Nat}{p q:Path}(hw:w.heap=H) (hL:Cells H a (strRow p)) (hn:n=p.length) (hM:Cells H b (strRow q)) (hm:m=q.length) (hp:p.length<=1099511627776) :
  zy P zi5 #[.slice a n nc,.slice b m mc] w fun e w'=>e=.returned (.int .i64 (zg9 p q))/\w'=w:=by
 subst hn hm
 refine zs3 ?_
 unfold zmr
 have h:zy P zav #[.slice a p.length nc,.slice b q.length mc,.func (.func zd1) #[] #[]] w fun e w'=>e=.returned (.int .i64 (zg9 p q))/\w'=w:=by
  refine zc5 ?_
  unfold zbp
  refine jg (fun (s:Int) W=>∃ i:Nat,s=(i:Int)/\i<=p.length/\i<=q.length/\W=w/\p.take i=q.take i) (fun s _=>(p.length-s).toNat) ⟨0,rfl,Nat.zero_le _,Nat.zero_le _,rfl,by simp⟩ ?_
  rintro _ w ⟨i,rfl,hi,hj,rfl,hs⟩
  have hd:=ztz hs hi hj
  refine zx (fun hlt=>?_) (fun hge=>?_)
  ·have hil:i < p.length:=by omega
   refine zyu hw hL rfl hil rfl ?_
   refine zx (fun hge=>?_) (fun hlt2=>?_)
   ·have:i=q.length:=by omega
    rw [List.drop_eq_getElem_cons hil,List.drop_eq_nil_of_le (show q.length<=i by omega)] at hd
    exact⟨by rw [hd];rfl,rfl⟩
   ·have hjl:i < q.length:=by omega
    refine zyu hw hM rfl hjl rfl ?_
    refine zie ((qbb _ _).mono ?_)
    rintro e w' ⟨rfl,rfl⟩
    refine⟨_,rfl,?_⟩
    rw [List.drop_eq_getElem_cons hil,List.drop_eq_getElem_cons hjl,zg9] at hd
    refine zan (fun hne=>?_) (fun heq=>?_)
    ·rw [if_pos hne] at hd
     exact⟨by rw [hd],rfl⟩
    ·refine jd ((i+1:Nat):Int) (by omega) (by omega) (by omega) ?_
     exact⟨⟨i+1,rfl,by omega,by omega,rfl,z9h hil hjl hs (zez.1 heq)⟩,by omega⟩
  ·have:i=p.length:=by omega
   rw [List.drop_eq_nil_of_le (show p.length<=i by omega)] at hd
   refine zx (fun h=>?_) (fun h=>?_)
   ·rw [List.drop_eq_getElem_cons (show i < q.length by omega)] at hd
    exact⟨by rw [hd];rfl,rfl⟩
   ·rw [List.drop_eq_nil_of_le (show q.length<=i by omega)] at hd
    exact⟨by rw [hd];rfl,rfl⟩
 refine zl h ?_
 rintro e w' ⟨rfl,rfl⟩
 exact⟨_,rfl,rfl,rfl⟩
theorem plain47:zfb 47=false:=by decide
theorem zd4 {L:List UInt8}:zc0 L=true ↔ (L≠[]/\L.length<=16/\L≠[46]/\L≠[46,46])/\∀ b∈L,zfb b=true:=by
 unfold zc0
 rw [Bool.and_eq_true,decide_eq_true_iff,List.all_eq_true]
theorem zvj {L:List UInt8}(h:zc0 L=true):(47:UInt8)∉L:=by
 intro hm
 have:=(zd4.1 h).2 47 hm
 rw [plain47] at this;cases this
def okP (p:Path):Prop:=(∀ L∈p,zc0 L=true)/\p.length<=8
theorem qch {p:Path}:zsm p=0 ↔ okP p:=by
 unfold zsm okP
 by_cases h:p.all zc0=true
 ·rw [if_pos h]
  rw [List.all_eq_true] at h
  by_cases h2:8 < p.length
  ·rw [if_pos h2]
   constructor
   ·intro h3;omega
   ·intro h3;omega
  ·rw [if_neg h2]
   exact⟨fun _=>⟨h,by omega⟩,fun _=>rfl⟩
 ·rw [if_neg h]
  rw [List.all_eq_true] at h
  constructor
  ·intro h3;omega
  ·intro h3;exact absurd h3.1 h
theorem okP.take {p:Path}(h:okP p) (i:Nat):okP (p.take i):=⟨fun L hL=>h.1 L (List.mem_of_mem_take hL),by have:=h.2;simp;omega⟩
theorem okP.tlen {p:Path}(h:okP p):tlen p<=16 * p.length:=by
 obtain⟨h,h8⟩:=h
 clear h8
 induction p with
 | nil=>simp [Go.Proofs.YtbmegmbnlajbbaaGreatDoor.tlen]
 | cons x p ih=>
  have h1:=(zd4.1 (h x (by simp))).1.2.1
  have h2:=ih fun L hL=>h L (by simp [hL])
  simp only [Go.Proofs.YtbmegmbnlajbbaaGreatDoor.tlen,List.map_cons,List.sum_cons,List.length_cons] at h2 |-
  omega
theorem okP.small {p:Path}(h:okP p):Go.Proofs.YtbmegmbnlajbbaaGreatDoor.tlen p+p.length<=136:=by have:=h.tlen;have:=h.2;omega
theorem zuh:∀ {p:Path},p≠[]->(∀ L∈p,zc0 L=true)->pieces (ku p)=p
 | [],h,_=>absurd rfl h
 | [x],_,h=>by
  have hx:=h x (by simp)
  have:ku [x]=x:=by simp [ku]
  rw [this,zoz (zvj hx) (zd4.1 hx).1.1]
 | x :: y :: p,_,h=>by
  have hx:=h x (by simp)
  have e:ku (x :: y :: p)=x++47 :: ku (y :: p):=by simp [ku]
  rw [e,zne (zvj hx),zuh (by simp) fun L hL=>h L (List.mem_cons_of_mem _ hL)]
theorem zxp:∀ {p acc:Path},(∀ L∈p,zc0 L=true)->p.foldl zdi acc=acc++p
 | [],acc,_=>by simp
 | x :: p,acc,h=>by
  obtain⟨⟨h1,h2,h3,h4⟩,_⟩:=zd4.1 (h x (by simp))
  rw [List.foldl_cons]
  have e:zdi acc x=acc++[x]:=by rw [zdi,if_neg (by simp [h1,h3]),if_neg h4]
  rw [e,zxp fun L hL=>h L (List.mem_cons_of_mem _ hL)];simp
theorem z7f:∀ {p:Path},∀ b∈ku p,b=47\/∃ L∈p,b∈L
 | [],b,h=>by simp [ku] at h
 | x :: p,b,h=>by
  simp only [ku,List.mem_append,List.mem_flatMap,List.mem_cons] at h
  rcases h with h | ⟨L,hL,h | h⟩
  ·exact .inr ⟨x,by simp,h⟩
  ·exact .inl h
  ·exact .inr ⟨L,by simp [hL],h⟩
theorem zrv {p:Path}(h:okP p):zdz (za3 p)=(p,0):=by
 have hlen:(za3 p).length<=137:=by
  have h1:=h.small
  unfold za3
  cases p with
  | nil=>simp [ku]
  | cons x p=>
   simp only [List.length_cons,zv1]
   simp only [List.length_cons] at h1
   omega
 have hok:zw4 (za3 p)=true:=by
  unfold zw4 za3
  rw [List.all_eq_true]
  intro b hb
  rcases List.mem_cons.1 hb with rfl | hb
  ·simp
  ·rcases z7f b hb with rfl | ⟨L,hL,hm⟩
   ·simp
   ·rw [(zd4.1 (h.1 L hL)).2 b hm];simp
 have hpc:pieces (za3 p)=[] :: p:=by
  unfold za3
  have h0:pieces (47 :: ku p)=[] :: pieces (ku p):=zne (p:=[]) (by simp)
  rw [h0]
  by_cases hp:p=[]
  ·subst hp;rfl
  ·rw [zuh hp h.1]
 have hwalk:zl4 (pieces (za3 p))=p:=by
  rw [hpc]
  show (p.foldl zdi (zdi [] []))=p
  rw [zxp h.1];simp [zdi]
 have hany:(pieces (za3 p)).any (fun x=>decide (16 < x.length))=false:=by
  rw [hpc,List.any_eq_false]
  intro x hx
  rcases List.mem_cons.1 hx with rfl | hx
  ·simp
  ·have:=(zd4.1 (h.1 x hx)).1.2.1
   simp;omega
 have h8:=h.2
 unfold zdz
 rw [if_neg (by omega),if_neg (by simp [za3]),if_neg (by simp [hok]),hany,hwalk,if_neg (by simp),if_neg (by omega)]
theorem ztj {p q:Path}(hp:okP p) (hq:okP q) (h:za3 p=za3 q):p=q:=by
 have:=zrv hp
 rw [h,zrv hq] at this
 simpa using this.symm
theorem zkn:∀ {L x:List UInt8},x∈pieces L->(47:UInt8)∉x/\∀ b∈x,b∈L
 | [],x,h=>by simp [pieces] at h
 | c :: L,x,h=>by
  rw [pieces] at h
  by_cases hc:c=47
  ·rw [if_pos hc] at h
   rcases List.mem_cons.1 h with rfl | h
   ·simp
   ·have:=zkn h
    exact⟨this.1,fun b hb=>List.mem_cons_of_mem _ (this.2 b hb)⟩
  ·rw [if_neg hc] at h
   cases hps:pieces L with
   | nil=>
    rw [hps] at h
    simp only [List.mem_singleton] at h
    subst h
    exact⟨by simp [Ne.symm hc],by simp⟩
   | cons p ps=>
    rw [hps] at h
    have hp:=zkn (L:=L) (x:=p) (by rw [hps];simp)
    simp only at h
    split at h
    ·rcases List.mem_cons.1 h with rfl | h
     ·exact⟨by simp [Ne.symm hc],by simp⟩
     ·have:=zkn (L:=L) (x:=x) (by rw [hps];simp [h])
      exact⟨this.1,fun b hb=>List.mem_cons_of_mem _ (this.2 b hb)⟩
    ·rcases List.mem_cons.1 h with rfl | h
     ·refine⟨by simp [Ne.symm hc,hp.1],fun b hb=>?_⟩
      rcases List.mem_cons.1 hb with rfl | hb
      ·simp
      ·exact List.mem_cons_of_mem _ (hp.2 b hb)
     ·have:=zkn (L:=L) (x:=x) (by rw [hps];simp [h])
      exact⟨this.1,fun b hb=>List.mem_cons_of_mem _ (this.2 b hb)⟩
theorem z4d:∀ {ps acc:Path}{x:List UInt8},x∈ps.foldl zdi acc->x∈acc\/(x∈ps/\x≠[]/\x≠[46]/\x≠[46,46])
 | [],acc,x,h=>.inl h
 | y :: ps,acc,x,h=>by
  rw [List.foldl_cons] at h
  rcases z4d h with h | ⟨h1,h2⟩
  ·unfold zdi at h
   split at h
   ·exact .inl h
   ·rename_i h1
    split at h
    ·exact .inl ((List.dropLast_sublist acc).subset h)
    ·rename_i h2
     rcases List.mem_append.1 h with h | h
     ·exact .inl h
     ·simp only [List.mem_singleton] at h
      subst h
      simp only [not_or] at h1
      exact .inr ⟨by simp,h1.1,h1.2,h2⟩
  ·exact .inr ⟨List.mem_cons_of_mem _ h1,h2⟩
theorem qcb (L:List UInt8):okP (zdz L).1:=by
 have nil:okP []:=⟨by simp,by simp⟩
 unfold zdz
 split
 ·exact nil
 split
 ·exact nil
 split
 ·exact nil
 rename_i hok
 split
 ·exact nil
 rename_i hany
 split
 ·exact nil
 rename_i hdeep
 refine⟨fun x hx=>?_,by simp only;omega⟩
 rcases z4d hx with h | ⟨h1,h2,h3,h4⟩
 ·cases h
 ·have hm:=zkn h1
  rw [zd4]
  refine⟨⟨h2,?_,h3,h4⟩,fun b hb=>?_⟩
  ·simp only [Bool.not_eq_true,List.any_eq_false] at hany
   have:=hany x h1
   simp at this;omega
  ·have hb2:=hm.2 b hb
   simp only [Bool.not_eq_false] at hok
   have h5:=List.all_eq_true.1 hok b hb2
   have h6:b≠47:=fun e=>hm.1 (by rw [<-e];exact hb)
   simpa [h6] using h5
def zph (n:Nat):List UInt8:=if h:n<=127 then [UInt8.ofNat n] else UInt8.ofNat (n % 128+128) :: zph (n / 128)
termination_by n
decreasing_by omega
theorem zpe {n:Nat}(h:n<=127):zph n=[UInt8.ofNat n]:=by rw [zph,dif_pos h]
theorem zpp {n:Nat}(h:127 < n):zph n=UInt8.ofNat (n % 128+128) :: zph (n / 128):=by rw [zph,dif_neg (by omega)]
def zo4 (L:List UInt8):List UInt8:=zph L.length++L
def qjv (H1:Heap) (F:List Nat) (b:Nat) (L:List UInt8) (W:World) (x:Option Addr×Nat×Nat):Prop:=Ext (b :: F) H1 W.heap/\W.heap[b]?=some (.cells #[zb2 x] zgd (0,0))/\Mine W.heap 0 qw 1 x (byteCells L)/\b∉jk x/\(∀ c∈jk x,c∈F\/H1.size<=c)/\b < H1.size
def zsv (H1:Heap) (F:List Nat) (b:Nat) (L:List UInt8) (W:World):Prop:=∃ x,qjv H1 F b L W x
theorem qim (x:BitVec 8):(x ||| 128#8).toNat=x.toNat % 128+128:=by
 revert x;decide
theorem or8 {n:Nat}{K:Int->Prop}(h:K ((n % 128+128:Nat):Int)):orI .u8 ((n % 256:Nat):Int) 128 K:=by
 refine⟨_,?_,h⟩
 have e1:BitVec.ofInt 8 ((n % 256:Nat):Int)=BitVec.ofNat 8 n:=by
  apply BitVec.eq_of_toNat_eq
  simp [BitVec.toNat_ofInt]
  omega
 show _=IntKind.u8.wrap ((BitVec.ofInt 8 ((n % 256:Nat):Int) ||| BitVec.ofInt 8 128).toNat:Int)
 rw [e1]
 have e2:=qim (BitVec.ofNat 8 n)
 have e3:BitVec.ofInt 8 128=128#8:=by decide
 rw [e3,e2,zi0]
 simp only [BitVec.toNat_ofNat]
 omega
theorem qj5 {w:World}{H1:Heap}{F:List Nat}{b:Nat}{L:List UInt8}{x:Option Addr×Nat×Nat}{m:Nat}{K:World->Prop}(hO:qjv H1 F b L w x) (hm:m < 256) (hL:L.length<=1099511627776) (hK:∀ w',zsv H1 F b (L++[UInt8.ofNat m]) w'->K w') :
  zaw P (Instr.buildSlice zi 1 #[(0,(Value.int .u8 (m:Int)))]) .slc w fun (t18:(Option Addr×Nat×Nat)) w_2=>
  zaw P (Builtin.append_ #[zi,zi] zi #[(Value.slice x.1 x.2.1 x.2.2),(Value.slice t18.1 t18.2.1 t18.2.2)]) .slc w_2 fun (t19:(Option Addr×Nat×Nat)) w_3=>
  zn (some ⟨b,0,none⟩) fun p_1=>
  stC p_1 (Value.slice t19.1 t19.2.1 t19.2.2) w_3 K:=by
 obtain⟨h1,h2,h3,h4,h5,h6⟩:=hO
 have hxl:x.2.1=L.length:=by have:=h3.len;simp at this;omega
 refine zah (s:=.slc) (some ⟨w.heap.size,0,none⟩,1,1) _ (zen E8 uS8 (v:=.int .u8 (m:Int)) rfl (by omega) (by omega)) ?_
 have hxp:Ext [] w.heap (w.heap.push (.cells (Value.int .u8 (m:Int)).cells qw)):=.push _
 have hbl:=lt_of_get h2
 refine zcj (n:=1) (us:=byteCells [UInt8.ofNat m]) (H:=w.heap.push (.cells (Value.int .u8 (m:Int)).cells qw)) E8 (by omega) uS8 (zbg uS8) rfl (h3.ext hxp (by simp)) (Nat.zero_le _)
  (Src.slc rfl (.inr ⟨w.heap.size,0,_,_,_,rfl,zk,by simp [Value.cells],by simp [Value.cells,byteCells];omega⟩) rfl) jo (by omega) ?_
 intro x' w4 hm4 hl4 hx4 hs4
 have hb4:w4.heap[b]?=some (.cells #[zb2 x] zgd (0,0)):=hx4.get (hxp.get h2 (by simp)) h4
 show stC ⟨b,0,none⟩ (zb2 x') w4 K
 refine zbd rfl hb4 (by simp) fun w5 hw5=>hK w5 ?_
 have hx5:Ext [b] w4.heap w5.heap:=by rw [hw5];exact Ext.set _ (by simp)
 have hs1:=h1.1
 have hp1:=hxp.1
 have hbx:b∉jk x':=fun h=>by
  rcases hs4 b h with h | h
  ·exact h4 h
  ·have:=hp1;omega
 refine⟨x',?_,by rw [hw5];exact qc hb4,?_,hbx,fun c hc=>?_,h6⟩
 ·have h14:Ext (b :: F) H1 w4.heap:=(h1.trans (hxp.mono (by simp))).own hx4 (fun c hc hlt=>by
   rcases h5 c hc with h | h
   ·exact List.mem_cons_of_mem _ h
   ·omega)
  exact h14.trans (hx5.mono (by simp))
 ·rw [<-byteCells_append]
  exact hm4.ext hx5 (fun c hc=>by simp only [List.mem_singleton];rintro rfl;exact hbx hc)
 ·rcases hs4 c hc with h | h
  ·exact h5 c h
  ·exact .inr (by omega)
theorem z5d:∀ (m n:Nat),n < 128 ^ (m+1)->(zph n).length<=m+1
 | 0,n,h=>by rw [zpe (by simp at h;omega)];simp
 | m+1,n,h=>by
  by_cases hl:n<=127
  ·rw [zpe hl];simp
  ·rw [zpp (by omega),List.length_cons]
   have:=z5d m (n / 128) (by rw [Nat.pow_succ] at h;omega)
   omega
theorem zd7 {n:Nat}(h:n < 18446744073709551616):(zph n).length<=10:=z5d 9 n (Nat.lt_of_lt_of_le h (by decide))
theorem qkh {k:Nat}{K:Int->Prop}(h:K ((k / 128:Nat):Int)):zzc .u64 (k:Int) 7 K:=by
 refine⟨by omega,_,?_,h⟩
 have e:(2:Int) ^ (min (Int.toNat 7) IntKind.u64.bits)=128:=by decide
 rw [e,Int.fdiv_eq_ediv_of_nonneg _ (by omega)]
 omega
theorem qa1 {w:World}{H1:Heap}{F:List Nat}{b:Nat}{L:List UInt8}(n:Nat) (hO:zsv H1 F b L w) (hn:n < 18446744073709551616) (hL:L.length<=549755813888) :
  zy P zdr #[.pointer (some ⟨b,0,none⟩),.int .u64 (n:Int)] w fun e w'=>e=.returned (.tuple #[])/\zsv H1 F b (L++zph n) w':=by
 have hnl:=zd7 hn
 refine zt6 ?_
 unfold znz
 refine jr rfl ?_
 refine jg (fun (s:Int) W=>∃ (k:Nat) (M:List UInt8),s=(k:Int)/\zsv H1 F b M W/\M++zph k=L++zph n) (fun s _=>s.toNat) ⟨n,L,rfl,hO,rfl⟩ ?_
 rintro _ W ⟨k,M,rfl,⟨x,hX⟩,hM⟩
 have hMl:M.length<=1099511627776:=by have:=congrArg List.length hM;simp at this;omega
 refine zx (fun h=>?_) (fun h=>?_)
 ·simp only [qg]
  refine je (s:=.slc) (t:=x) rfl hX.2.1 rfl ?_
  refine⟨_,(zi0 k).symm,or8 ?_⟩
  refine qj5 hX (by omega) hMl fun w' hO'=>qkh ?_
  exact⟨⟨k / 128,_,rfl,hO',by rw [<-hM,zpp (n:=k) (by omega)];simp⟩,by omega⟩
 ·simp only [qg]
  refine je (s:=.slc) (t:=x) rfl hX.2.1 rfl ?_
  refine⟨_,(zi0 k).symm,?_⟩
  refine qj5 hX (by omega) hMl fun w' hO'=>?_
  rw [Nat.mod_eq_of_lt (by omega),show M++[UInt8.ofNat k]=L++zph n by rw [<-hM,zpe (by omega)]] at hO'
  exact⟨trivial,hO'⟩
theorem qdq {w:World}{H1:Heap}{F:List Nat}{b:Nat}{L:List UInt8}(M:List UInt8) (hO:zsv H1 F b L w) (hL:L.length+M.length<=274877906944) :
  zy P zgx #[.pointer (some ⟨b,0,none⟩),.string (strOf M)] w fun e w'=>e=.returned (.tuple #[])/\zsv H1 F b (L++zo4 M) w':=by
 refine zsw ?_
 unfold zl7
 refine jr rfl ?_
 have hnl:=zd7 (n:=M.length) (by omega)
 refine zf6 (by omega) (by simp;omega) ?_
 refine zl (qa1 M.length hO (by omega) (by omega)) ?_
 rintro e w1 ⟨rfl,x,hX⟩
 refine⟨(),rfl,?_⟩
 obtain⟨h1,h2,h3,h4,h5,h6⟩:=hX
 have hxl:x.2.1=(L++zph M.length).length:=by have:=h3.len;simp at this;simp;omega
 rw [List.length_append] at hxl
 simp only [qg]
 refine je (s:=.slc) (t:=x) rfl h2 rfl ?_
 refine zcj E8 (by omega) uS8 ⟨_,z4r,by intro k h;cases h⟩ rfl h3 (Nat.zero_le _) (n:=M.length) (us:=byteCells M) Src.str jo (by omega) ?_
 intro x' w4 hm4 hl4 hx4 hs4
 have hb4:w4.heap[b]?=some (.cells #[zb2 x] zgd (0,0)):=hx4.get h2 h4
 refine zbd rfl hb4 (by simp) fun w5 hw5=>?_
 have hx5:Ext [b] w4.heap w5.heap:=by rw [hw5];exact Ext.set _ (by simp)
 have hs1:=h1.1
 have hbl:=lt_of_get h2
 have hbx:b∉jk x':=fun h=>by
  rcases hs4 b h with h | h
  ·exact h4 h
  ·omega
 refine⟨trivial,x',?_,by rw [hw5];exact qc hb4,?_,hbx,fun c hc=>?_,h6⟩
 ·have h14:Ext (b :: F) H1 w4.heap:=h1.own hx4 (fun c hc hlt=>by
   rcases h5 c hc with h | h
   ·exact List.mem_cons_of_mem _ h
   ·omega)
  exact h14.trans (hx5.mono (by simp))
 ·rw [zo4,<-List.append_assoc,<-byteCells_append]
  exact hm4.ext hx5 (fun c hc=>by simp only [List.mem_singleton];rintro rfl;exact hbx hc)
 ·rcases hs4 c hc with h | h
  ·exact h5 c h
  ·exact .inr (by omega)
theorem z3f {w:World}{H1:Heap}{F:List Nat}{b:Nat}{L:List UInt8}(hO:zsv H1 F b L w) (hL:L.length<=549755813888) :
  zy P zho #[.pointer (some ⟨b,0,none⟩)] w fun e w'=>∃ y,e=.returned (zb2 y)/\Mine w'.heap w.heap.size qw 1 y (byteCells L)/\Ext [] w.heap w'.heap:=by
 obtain⟨x,h1,h2,h3,h4,h5,h6⟩:=hO
 have hxl:x.2.1=L.length:=by have:=h3.len;simp at this;omega
 refine zq3 ?_
 unfold zlp
 refine jr rfl ?_
 simp only [qg]
 refine je (s:=.slc) (t:=x) rfl h2 rfl ?_
 refine zcj (x:=(none,0,0)) (vs:=[]) (B:=w.heap.size) E8 (by omega) uS8 (zbg uS8) rfl (.inl ⟨rfl,rfl⟩) (Nat.le_refl _) (Src.slc rfl h3.cells (by simp;omega)) jo (by simp only;omega) ?_
 intro y w' hm hl hx hs
 exact⟨y,rfl,by simpa using hm,hx.mono (by simp [jk])⟩
def zf5 (k:Int):List UInt8:=zph (IntKind.u64.wrap k).toNat
theorem z0e (k:Int):0<=IntKind.u64.wrap k/\IntKind.u64.wrap k < 18446744073709551616:=by
 simp only [IntKind.wrap,IntKind.bits,IntKind.signed]
 have e:(2:Int) ^ 64=18446744073709551616:=by decide
 simp only [e,Bool.false_and,Bool.false_eq_true,if_false]
 omega
theorem cvU {k:Int}{K:Int->Prop}(h:∀ n:Nat,n=(IntKind.u64.wrap k).toNat->n < 18446744073709551616->K (n:Int)):cvI .u64 k K:=by
 have hw:=z0e k
 refine⟨((IntKind.u64.wrap k).toNat:Int),by omega,h _ rfl (by omega)⟩
theorem zd5 {k:Int}:(zf5 k).length<=10:=zd7 (by have:=z0e k;omega)
theorem zcO:zc P zgd=#[zb2 (none,0,0)]:=by kernel_rfl
theorem zsv.rebase {H1:Heap}{F:List Nat}{b:Nat}{L:List UInt8}{w w':World}(h:zsv H1 F b L w) (hx:Ext [] w.heap w'.heap):∃ F',zsv w'.heap F' b L w'/\(∀ c∈F',c∈F\/H1.size<=c)/\∀ c∈F',c < w.heap.size:=by
 obtain⟨x,h1,h2,h3,h4,h5,h6⟩:=h
 have:=hx.1
 have:=lt_of_get h2
 refine⟨jk x,⟨x,.refl _ _,hx.get h2 (by simp),h3.ext hx (by simp),h4,fun c hc=>.inl hc,by omega⟩,h5,fun c hc=>?_⟩
 rcases h3 with⟨hx1,_⟩ | ⟨b',c',hx1,_,hb',_⟩
 ·simp [jk,hx1] at hc
 ·simp [jk,hx1] at hc
  subst hc
  exact lt_of_get hb'
theorem zsv.unbase {H1:Heap}{F F':List Nat}{b:Nat}{L L':List UInt8}{w w1 w':World}(h:zsv H1 F b L w) (hx:Ext [] w.heap w1.heap) (hF:∀ c∈F',c∈F\/H1.size<=c) (h':zsv w1.heap F' b L' w'):zsv H1 F b L' w':=by
 obtain⟨x,h1,h2,h3,h4,h5,h6⟩:=h
 obtain⟨y,g1,g2,g3,g4,g5,g6⟩:=h'
 have s1:=h1.1
 have s2:=hx.1
 refine⟨y,(h1.trans (hx.mono (by simp))).own g1 (fun c hc hlt=>?_),g2,g3,g4,fun c hc=>?_,h6⟩
 ·rcases List.mem_cons.1 hc with rfl | hc
  ·simp
  ·rcases hF c hc with h | h
   ·exact List.mem_cons_of_mem _ h
   ·omega
 ·rcases g5 c hc with h | h
  ·exact hF c h
  ·exact .inr (by omega)
theorem zsv.ext {H1:Heap}{F:List Nat}{b:Nat}{L:List UInt8}{w w':World}(h:zsv H1 F b L w) (hx:Ext [] w.heap w'.heap):zsv H1 F b L w':=by
 obtain⟨x,h1,h2,h3,h4,h5,h6⟩:=h
 exact⟨x,h1.trans (hx.mono (by simp)),hx.get h2 (by simp),h3.ext hx (by simp),h4,h5,h6⟩
def rdN:Nat->Nat->List UInt8->Option (Nat×List UInt8)
 | _,_,[]=>none
 | at',acc,c :: R=>if (at'=9/\1 < c.toNat)\/(0 < at'/\c.toNat=0) then none else
  if c.toNat < 128 then some (acc+c.toNat * 128 ^ at',R) else rdN (at'+1) (acc+(c.toNat % 128) * 128 ^ at') R
def rdNum (R:List UInt8):Option (Nat×List UInt8):=rdN 0 0 R
theorem z5a:∀ (R0:List UInt8) (e acc n:Nat) (R:List UInt8),e<=9->rdN e acc R0=some (n,R)->∃ m,R0=zph m++R/\n=acc+m * 128 ^ e/\m < 2 ^ (64-7 * e)/\(0 < e->0 < m)
 | [],e,acc,n,R,he,h=>by simp [rdN] at h
 | c :: R0,e,acc,n,R,he,h=>by
  simp only [rdN] at h
  have hc:=c.toNat_lt
  split at h
  ·cases h
  ·rename_i hbad
   split at h
   ·rename_i hlt
    simp only [Option.some.injEq,Prod.mk.injEq] at h
    obtain⟨rfl,rfl⟩:=h
    refine⟨c.toNat,?_,rfl,?_,fun h=>by omega⟩
    ·rw [zpe (by omega)];simp
    ·by_cases h9:e=9
     ·subst h9;simp;omega
     ·have:2 ^ 8<=2 ^ (64-7 * e):=Nat.pow_le_pow_right (by omega) (by omega)
      omega
   ·rename_i hge
    have h9:e < 9:=by omega
    obtain⟨m,e1,e2,e3,e4⟩:=z5a R0 (e+1) _ n R (by omega) h
    have hm:=e4 (by omega)
    refine⟨c.toNat % 128+128 * m,?_,?_,?_,fun _=>by omega⟩
    ·rw [zpp (by omega),show (c.toNat % 128+128 * m) % 128+128=c.toNat by omega,show (c.toNat % 128+128 * m) / 128=m by omega,e1]
     simp
    ·rw [e2,Nat.pow_succ,Nat.add_mul]
     generalize 128 ^ e=q
     rw [Nat.mul_comm q 128,<-Nat.mul_assoc,Nat.mul_comm m 128]
     omega
    ·have e5:2 ^ (64-7 * e)=2 ^ (64-7 * (e+1)) * 128:=by
      rw [show 64-7 * e=(64-7 * (e+1))+7 by omega,Nat.pow_add]
     omega
theorem zw1 {R0 R:List UInt8}{n:Nat}(h:rdNum R0=some (n,R)):R0=zph n++R/\n < 18446744073709551616:=by
 obtain⟨m,h1,h2,h3,_⟩:=z5a R0 0 0 n R (by omega) h
 simp at h2
 subst h2
 exact⟨h1,by simpa using h3⟩
def zm4 (most:Nat) (R:List UInt8):Option (List UInt8×List UInt8):=
 match rdNum R with
 | none=>none
 | some (n,R)=>if most < n\/R.length < n then none else some (R.take n,R.drop n)
abbrev Rest:=Option (List UInt8)
def InW (H:Heap) (b:Nat) (F:List Nat) (s:Rest):Prop:=∃ (x:Option Addr×Nat×Nat) (e:Int),H[b]?=some (.cells #[zb2 x,.int .i64 e] zkl (0,0))/\b∉F/\(∀ c∈jk x,c∈F) /\
 (match s with | some R=>e=0/\Cells H x.1 (byteCells R)/\x.2.1=R.length/\x.2.1<=x.2.2/\R.length<=9223372036854775807 | none=>e≠0)
theorem zpz {H H':Heap}{M F:List Nat}{x:Option Addr×Nat×Nat}{vs:List Value}(h:Cells H x.1 vs) (hx:Ext M H H') (hF:∀ c∈jk x,c∈F) (hM:∀ c∈F,c∉M):Cells H' x.1 vs:=
 h.ext hx fun a ha _=>hM _ (hF _ (by simp [jk,ha]))
theorem InW.ext {H H':Heap}{b:Nat}{F M:List Nat}{s:Rest}(h:InW H b F s) (hx:Ext M H H') (hb:b∉M) (hF:∀ c∈F,c∉M):InW H' b F s:=by
 obtain⟨x,e,h1,h2,h3,h4⟩:=h
 refine⟨x,e,hx.get h1 hb,h2,h3,?_⟩
 cases s with
 | none=>exact h4
 | some R=>exact⟨h4.1,zpz h4.2.1 hx h3 hF,h4.2.2⟩
theorem InW.lt {H:Heap}{b:Nat}{F:List Nat}{s:Rest}(h:InW H b F s):b < H.size:=by obtain⟨x,e,h1,_⟩:=h;exact lt_of_get h1
theorem ztf {w:World}{H:Heap}{b:Nat}{F:List Nat}{s:Rest}(code:Int) (hw:w.heap=H) (hI:InW H b F s) (hc:code≠0) :
  zy P zcw #[.pointer (some ⟨b,0,none⟩),.int .i64 code] w fun e w'=>e=.returned (.tuple #[])/\InW w'.heap b F none/\Ext [b] H w'.heap:=by
 obtain⟨x,e,h1,h2,h3,_⟩:=hI
 refine zva ?_
 unfold zn2
 simp only [qg,vg]
 refine zbd hw h1 (by simp) fun w1 hw1=>?_
 have hx1:Ext [b] H w1.heap:=by rw [hw1];exact Ext.set _ (by simp)
 have hb1:w1.heap[b]?=some (.cells #[zb2 (none,0,0),.int .i64 e] zkl (0,0)):=by rw [hw1];exact qc h1
 refine zbd rfl hb1 (by simp) fun w2 hw2=>?_
 exact⟨trivial,⟨(none,0,0),code,by rw [hw2];exact qc hb1,h2,by simp [jk],hc⟩,by rw [hw2];exact hx1.set_own (.inr (by simp))⟩
def z1v (x:Option Addr×Nat×Nat) (k:Nat):Option Addr×Nat×Nat:=(if x.2.2=k then x.1 else x.1.map (·.add (k * 1)),x.2.1-k,x.2.2-k)
theorem z3r {x:Option Addr×Nat×Nat}{k:Nat}:∀ c∈jk (z1v x k),c∈jk x:=by
 obtain⟨a,n,m⟩:=x
 intro c hc
 unfold z1v at hc
 simp only at hc
 split at hc
 ·exact hc
 ·cases a with
  | none=>simp [jk] at hc
  | some a=>
   have:(a.add k).block=a.block:=by unfold Addr.add;split <;> rfl
   simpa [jk,this] using hc
theorem zrd {H:Heap}{x:Option Addr×Nat×Nat}{R:List UInt8}(h:Cells H x.1 (byteCells R)) (k:Nat) (hl:R.length<=x.2.2):Cells H (z1v x k).1 (byteCells (R.drop k)):=by
 have:=Cells.drop h k x.2.2 (by simpa using hl)
 rw [zju] at this
 simpa only [z1v,Nat.mul_one] using this
def nx:Rest->(Int×Bool)×Rest
 | some (c :: R)=>(((c.toNat:Int),true),some R)
 | _=>((0,false),none)
theorem qaf {w:World}{H:Heap}{b:Nat}{F:List Nat}{s:Rest}(hw:w.heap=H) (hI:InW H b F s) :
  zy P zjs #[.pointer (some ⟨b,0,none⟩)] w fun e w'=>e=.returned (.tuple #[.int .u8 (nx s).1.1,.bool (nx s).1.2])/\InW w'.heap b F (nx s).2/\Ext [b] H w'.heap:=by
 obtain⟨x,e,h1,h2,h3,h4⟩:=id hI
 refine zuf ?_
 unfold zn0
 refine zar ?_
 refine jr rfl ?_
 simp only [qg,vg]
 refine je (s:=.int .i64) (t:=e) hw h1 rfl ?_
 cases s with
 | none=>exact zan (fun _=>⟨rfl,by rw [hw];exact hI,by rw [hw];exact .refl _ _⟩) (fun h=>absurd h h4)
 | some R=>
  obtain⟨rfl,hC,hl,hcap,hlen⟩:=h4
  refine jr rfl ?_
  refine je (s:=.slc) (t:=x) hw h1 rfl ?_
  cases R with
  | nil=>
   refine zai (by simp [hl]) ?_
   refine zl (ztf 20 hw hI (by omega)) ?_
   rintro e w' ⟨rfl,h⟩
   exact⟨(),rfl,rfl,h⟩
  | cons c R=>
   refine jr (by simp [hl];omega) ?_
   refine je (s:=.slc) (t:=x) hw h1 rfl ?_
   obtain⟨b2,o,cs,T,fr,hx1,hb2,ho,hby⟩:=hC.bytes (by simp)
   rw [hx1]
   refine zkk 0 rfl (by rw [hl];simp) ?_
   refine je (s:=.int .u8) (t:=(c.toNat:Int)) hw hb2 (by have:=hby 0 (by simp);simp at this;exact this) ?_
   refine je (s:=.slc) (t:=x) hw h1 rfl ?_
   refine qm (s:=.slc) (z1v x 1) (za9 uS8 sz8 (.yes rfl) .no (by rw [hl];simp) hcap) ?_
   refine zbd hw h1 (by simp) fun w1 hw1=>?_
   have hx:Ext [b] H w1.heap:=by rw [hw1];exact Ext.set _ (by simp)
   have hown:∀ d∈jk (z1v x 1),d∈F:=fun d hd=>h3 d (z3r d hd)
   refine⟨rfl,⟨z1v x 1,0,by rw [hw1];exact qc h1,h2,hown,rfl,?_,by simp [z1v,hl],by simp only [z1v];omega,by simp at hlen;omega⟩,hx⟩
   exact zpz (zrd hC 1 (by omega)) hx hown fun d hd h=>by simp at h;subst h;exact h2 hd
theorem zvb (m:Nat):(BitVec.ofInt 64 (m:Int)).toNat=m % 18446744073709551616:=by
 rw [BitVec.toNat_ofInt]
 have:((2:Nat) ^ 64:Nat)=18446744073709551616:=by decide
 rw [this];omega
theorem qks {a b:Nat}{K:Int->Prop}(ha:a < 18446744073709551616) (hb:b < 18446744073709551616) (h:K ((a ||| b:Nat):Int)):orI .u64 (a:Int) (b:Int) K:=by
 refine⟨_,?_,h⟩
 have e:(BitVec.ofInt IntKind.u64.bits (a:Int) ||| BitVec.ofInt IntKind.u64.bits (b:Int)).toNat=a ||| b:=by
  show (BitVec.ofInt 64 (a:Int) ||| BitVec.ofInt 64 (b:Int)).toNat=a ||| b
  rw [BitVec.toNat_or,zvb,zvb,Nat.mod_eq_of_lt ha,Nat.mod_eq_of_lt hb]
 rw [e,z6z]
 have:a ||| b < 2 ^ 64:=Nat.or_lt_two_pow (by simpa using ha) (by simpa using hb)
 rw [Nat.mod_eq_of_lt (by simpa using this)]
theorem qgo (x:BitVec 8):(x &&& 127#8).toNat=x.toNat % 128:=by
 revert x;decide
theorem qkv {c:UInt8}{K:Int->Prop}(h:K ((c.toNat % 128:Nat):Int)):z3g .u8 (c.toNat:Int) 127 K:=by
 refine⟨_,?_,h⟩
 have e1:BitVec.ofInt 8 (c.toNat:Int)=BitVec.ofNat 8 c.toNat:=by
  apply BitVec.eq_of_toNat_eq
  simp
 show _=IntKind.u8.wrap ((BitVec.ofInt 8 (c.toNat:Int) &&& BitVec.ofInt 8 127).toNat:Int)
 have e3:BitVec.ofInt 8 127=127#8:=by decide
 rw [e1,e3,qgo,zi0]
 have:=c.toNat_lt
 simp only [BitVec.toNat_ofNat]
 omega
theorem qae (e:Nat):2 ^ (7 * e)=128 ^ e:=by rw [Nat.pow_mul]
theorem more7 {c:UInt8}{e acc:Nat}(he:e<=9) (ha:acc < 128 ^ e) (h9:e=9->c.toNat<=1){i:Int}(hi:i=7 * (e:Int)){K:Int->Prop}(h:K ((acc+c.toNat % 128 * 128 ^ e:Nat):Int)) :
  z8i .u64 ((c.toNat % 128:Nat):Int) i fun t=>orI .u64 (acc:Int) t K:=by
 have hc:=c.toNat_lt
 have hp:128 ^ e<=128 ^ 9:=Nat.pow_le_pow_right (by omega) he
 have h128:(128:Nat) ^ 9=9223372036854775808:=by decide
 have hlt:c.toNat % 128 * 128 ^ e < 18446744073709551616:=by
  by_cases h:e=9
  ·subst h
   have:=h9 rfl
   have h1:c.toNat % 128<=1:=by omega
   calc c.toNat % 128 * 128 ^ 9<=1 * 128 ^ 9:=Nat.mul_le_mul_right _ h1
    _ < _:=by decide
  ·have hp8:128 ^ e<=128 ^ 8:=Nat.pow_le_pow_right (by omega) (by omega)
   calc c.toNat % 128 * 128 ^ e<=127 * 128 ^ 8:=Nat.mul_le_mul (by omega) hp8
    _ < _:=by decide
 refine⟨by omega,((c.toNat % 128 * 128 ^ e:Nat):Int),?_,?_⟩
 ·have e1:min i.toNat IntKind.u64.bits=7 * e:=by
   have:IntKind.u64.bits=64:=rfl
   omega
  rw [e1]
  have e2:((c.toNat % 128:Nat):Int) * 2 ^ (7 * e)=((c.toNat % 128 * 128 ^ e:Nat):Int):=by
   rw [<-qae];simp
  rw [e2,wrap_u64 (by omega) (by omega)]
 ·refine qks (by omega) hlt ?_
  have h2:acc ||| c.toNat % 128 * 128 ^ e=acc+c.toNat % 128 * 128 ^ e:=by
   rw [<-qae]
   have h3:=Nat.shiftLeft_add_eq_or_of_lt (i:=7 * e) (b:=acc) (by rw [qae];exact ha) (c.toNat % 128)
   rw [Nat.shiftLeft_eq] at h3
   rw [Nat.or_comm,<-h3,Nat.add_comm]
  rw [h2];exact h
def nmS (s:Rest):Nat×Rest:=match s with | none=>(0,none) | some R=>match rdNum R with | none=>(0,none) | some (n,R)=>(n,some R)
def txS (most:Nat) (s:Rest):List UInt8×Rest:=match s with | none=>([],none) | some R=>match zm4 most R with | none=>([],none) | some (t,R)=>(t,some R)
theorem z03 {w:World}{H:Heap}{b:Nat}{F:List Nat}{s:Rest}(hw:w.heap=H) (hI:InW H b F s) :
  zy P zem #[.pointer (some ⟨b,0,none⟩)] w fun e w'=>e=.returned (.int .u64 ((nmS s).1:Int))/\InW w'.heap b F (nmS s).2/\Ext [b] H w'.heap:=by
 refine zwh ?_
 unfold zqa
 cases s with
 | none=>
  refine jg (fun (s:Int×Int) W=>W=w) (fun _ _=>0) rfl ?_
  rintro s W rfl
  refine zar ?_
  refine zl (qaf hw hI) ?_
  rintro e w' ⟨rfl,h⟩
  refine⟨(0,false),rfl,?_⟩
  exact zai rfl ⟨rfl,h⟩
 | some R0=>
 refine jg (fun (s:Int×Int) W=>∃ (acc e:Nat) (R:List UInt8),s=((acc:Int),(e:Int))/\e<=9/\acc < 128 ^ e/\InW W.heap b F (some R)/\rdN e acc R=rdNum R0/\Ext [b] H W.heap) (fun s _=>(10-s.2).toNat)
  ⟨0,0,R0,rfl,by omega,by simp,by rw [hw];exact hI,rfl,by rw [hw];exact .refl _ _⟩ ?_
 rintro _ W ⟨acc,e,R,rfl,he,hacc,hIW,hrd,hxW⟩
 refine zar ?_
 refine zl (qaf rfl hIW) ?_
 rintro e' w2 ⟨rfl,hI2,hx2⟩
 have hx02:=hxW.trans hx2
 cases R with
 | nil=>
  refine⟨(0,false),rfl,?_⟩
  refine zai rfl ?_
  have:nmS (some R0)=(0,none):=by simp only [nmS,<-hrd,rdN]
  rw [this]
  exact⟨rfl,hI2,hx02⟩
 | cons c R=>
  refine⟨((c.toNat:Int),true),rfl,?_⟩
  refine jr rfl ?_
  have hbad:((e=9/\1 < c.toNat)\/(0 < e/\c.toNat=0))->qy P zcw #[(Value.pointer (some ⟨b,0,none⟩)),(Value.int .i64 21)] [] true w2 fun (_:Unit) w_3=>
    Ending.returned (Value.int .u64 0)=.returned (.int .u64 ((nmS (some R0)).1:Int))/\InW w_3.heap b F (nmS (some R0)).2/\Ext [b] H w_3.heap:=by
   intro hb
   have:nmS (some R0)=(0,none):=by simp only [nmS,<-hrd,rdN,if_pos hb]
   rw [this]
   refine zl (ztf 21 rfl hI2 (by omega)) ?_
   rintro e3 w3 ⟨rfl,h3,hx3⟩
   exact⟨(),rfl,rfl,h3,hx02.trans hx3⟩
  refine joinP_of (fun _ W'=>W'=w2/\¬((e=9/\1 < c.toNat)\/(0 < e/\c.toNat=0))) ?_ ?_
  ·refine zbo (fun h9=>?_) (fun h9=>?_)
   ·refine zx (fun h1=>hbad (.inl ⟨by omega,by simp only at h1;omega⟩)) (fun h1=>?_)
    refine zx (fun hp=>?_) (fun hp=>⟨rfl,by simp only at h1;omega⟩)
    exact zbo (fun h0=>hbad (.inr ⟨by omega,by simp only at h0;omega⟩)) (fun h0=>⟨rfl,by simp only at h0 h1;omega⟩)
   ·refine zx (fun hp=>?_) (fun hp=>⟨rfl,by simp only at h9 hp;omega⟩)
    exact zbo (fun h0=>hbad (.inr ⟨by simp only at hp;omega,by simp only at h0;omega⟩)) (fun h0=>⟨rfl,by simp only at h0 h9;omega⟩)
  rintro _ W' ⟨rfl,hok⟩
  refine qkv ?_
  refine zf6 (by omega) (by omega) ?_
  refine zfo (7 * (e:Int)) rfl (by omega) (by omega) ?_
  refine more7 he hacc (fun h=>by omega) rfl ?_
  refine zx (fun h=>?_) (fun h=>?_)
  ·have hc:c.toNat < 128:=by simp only at h;omega
   have:nmS (some R0)=(acc+c.toNat * 128 ^ e,some R):=by simp only [nmS,<-hrd,rdN,if_neg hok,if_pos hc]
   rw [this,Nat.mod_eq_of_lt hc]
   exact⟨rfl,hI2,hx02⟩
  ·have hc:¬c.toNat < 128:=by simp only at h;omega
   refine jd ((e+1:Nat):Int) (by omega) (by omega) (by omega) ?_
   refine⟨⟨_,e+1,R,rfl,by omega,?_,hI2,?_,hx02⟩,by omega⟩
   ·rw [Nat.pow_succ]
    have:c.toNat % 128 * 128 ^ e<=127 * 128 ^ e:=Nat.mul_le_mul_right _ (by omega)
    omega
   ·rw [<-hrd];simp only [rdN,if_neg hok,if_neg hc]
theorem qkl (n:Nat) (w:World):(Builtin.max_ #[zbl,zbl] zbl #[.int .i64 (n:Int),.int .i64 0]).run P w=.ok (.int .i64 (n:Int)) w:=by
 rw [run_max_int2]
 congr 2
theorem z8r {w:World}{H:Heap}{b:Nat}{F:List Nat}{R:List UInt8}{n:Nat}(hw:w.heap=H) (hI:InW H b F (some R)) (hn:n<=9223372036854775807) :
  zy P zfu #[.pointer (some ⟨b,0,none⟩),.int .i64 (n:Int)] w fun e w'=>Ext [b] H w'.heap/\((R.length < n/\e=.returned (.slice none 0 0)/\InW w'.heap b F none) \/
   (n<=R.length/\∃ y,e=.returned (zb2 y)/\Cells w'.heap y.1 (byteCells (R.take n))/\y.2.1=n/\(∀ c∈jk y,c∈F)/\InW w'.heap b F (some (R.drop n)))):=by
 obtain⟨x,e,h1,h2,h3,rfl,hC,hl,hcap,hlen⟩:=id hI
 refine zmz ?_
 unfold zj4
 refine zar ?_
 refine jr rfl ?_
 simp only [qg,vg]
 refine je (s:=.int .i64) (t:=0) hw h1 rfl ?_
 refine jr rfl ?_
 refine je (s:=.slc) (t:=x) hw h1 rfl ?_
 refine zx (fun h=>?_) (fun h=>?_)
 ·refine zl (ztf 20 hw hI (by omega)) ?_
  rintro e3 w3 ⟨rfl,h3,hx3⟩
  exact⟨(),rfl,hx3,.inl ⟨by omega,trivial,h3⟩⟩
 ·have hnl:n<=R.length:=by omega
  refine je (s:=.slc) (t:=x) hw h1 rfl ?_
  refine qm (s:=.slc) (if x.2.2=0 then x.1 else x.1.map (·.add (0 * 1)),n-0,x.2.2-0) (za9 uS8 sz8 .no (.yes rfl) (Nat.zero_le _) (by omega)) ?_
  refine je (s:=.slc) (t:=x) hw h1 rfl ?_
  refine qm (s:=.slc) (z1v x n) (za9 uS8 sz8 (.yes rfl) .no (by omega) hcap) ?_
  refine zbd hw h1 (by simp) fun w1 hw1=>?_
  have hx:Ext [b] H w1.heap:=by rw [hw1];exact Ext.set _ (by simp)
  have hFb:∀ c∈F,c∉[b]:=fun d hd h=>by simp at h;subst h;exact h2 hd
  have hown:∀ d∈jk (z1v x n),d∈F:=fun d hd=>h3 d (z3r d hd)
  have hy:((if x.2.2=0 then x.1 else x.1.map (·.add (0 * 1)),n-0,x.2.2-0):Option Addr×Nat×Nat).1=x.1:=by
   simp only
   split
   ·rfl
   ·cases x.1 with
    | none=>rfl
    | some a=>simp [Addr.add]
  refine⟨hx,.inr ⟨hnl,(if x.2.2=0 then x.1 else x.1.map (·.add (0 * 1)),n-0,x.2.2-0),rfl,?_,by simp,?_,⟨z1v x n,0,by rw [hw1];exact qc h1,h2,hown,rfl,?_,by simp [z1v,hl],by simp only [z1v];omega,by simp;omega⟩⟩⟩
  ·rw [hy,<-zfv]
   exact zpz (hC.take n) hx h3 hFb
  ·intro c hc
   refine h3 c ?_
   unfold jk at hc |-
   rw [hy] at hc;exact hc
  ·exact zpz (zrd hC n (by omega)) hx hown hFb
theorem z7z {w:World}{H:Heap}{b:Nat}{F:List Nat}{s:Rest}{most:Nat}(hw:w.heap=H) (hI:InW H b F s) (hm:most<=1073741824) :
  zy P zhh #[.pointer (some ⟨b,0,none⟩),.int .i64 (most:Int)] w fun e w'=>e=.returned (.string (strOf (txS most s).1))/\InW w'.heap b F (txS most s).2/\Ext [b] H w'.heap:=by
 refine zt3 ?_
 unfold zoc
 refine zl (z03 hw hI) ?_
 rintro e w1 ⟨rfl,h1,hx1⟩
 refine⟨((nmS s).1:Int),rfl,?_⟩
 refine joinP_of (fun _ W=>W=w1/\∃ R,(nmS s).2=some R) ?_ ?_
 ·refine jr rfl ?_
  obtain⟨x,e,g1,g2,g3,g4⟩:=id h1
  simp only [qg,vg]
  refine je (s:=.int .i64) (t:=e) rfl g1 rfl ?_
  cases hs:(nmS s).2 with
  | none=>
   rw [hs] at g4 h1
   have:txS most s=([],none):=by
    cases s with
    | none=>rfl
    | some R=>
     simp only [nmS] at hs
     simp only [txS,zm4]
     cases h:rdNum R with
     | none=>rfl
     | some y=>rw [h] at hs;simp at hs
   rw [this]
   refine zan (fun _=>⟨rfl,h1,hx1⟩) (fun h=>absurd h g4)
  | some R=>
   rw [hs] at g4
   exact jr (by rw [g4.1];rfl) ⟨trivial,R,rfl⟩
 rintro _ W ⟨hW,R,hR⟩
 subst hW
 obtain⟨R0,rfl,hn⟩:∃ R0,s=some R0/\rdNum R0=some ((nmS s).1,R):=by
  cases s with
  | none=>simp [nmS] at hR
  | some R0=>
   refine⟨R0,rfl,?_⟩
   simp only [nmS] at hR |-
   cases h:rdNum R0 with
   | none=>rw [h] at hR;simp at hR
   | some y=>rw [h] at hR;simp at hR |-;rw [<-hR]
 rw [hR] at h1
 have hlt:=(zw1 hn).2
 generalize (nmS (some R0)).1=n at hn hlt
 refine qm (s:=.int .i64) (most:Int) (qkl most W) ?_
 refine zf6 (by omega) (by omega) ?_
 refine zx (fun h=>?_) (fun h=>?_)
 ·have:txS most (some R0)=([],none):=by simp only [txS,zm4,hn];rw [if_pos (by omega)]
  rw [this]
  refine zl (ztf 2 rfl h1 (by omega)) ?_
  rintro e3 w3 ⟨rfl,h3,hx3⟩
  exact⟨(),rfl,rfl,h3,hx1.trans hx3⟩
 ·refine zhb (by omega) (by omega) ?_
  refine zl (z8r rfl h1 (by omega)) ?_
  rintro e3 w3 ⟨hx3,⟨hl,rfl,h3⟩ | ⟨hl,y,rfl,hC,hy,ho,h3⟩⟩
  ·refine⟨(none,0,0),rfl,?_⟩
   have:txS most (some R0)=([],none):=by simp only [txS,zm4,hn];rw [if_pos (by omega)]
   rw [this]
   refine qm (s:=.str) (strOf []) (zyc uS8 u8 z4r rfl (L:=[]) (.inl rfl) rfl) ?_
   exact⟨rfl,h3,hx1.trans hx3⟩
  ·refine⟨y,rfl,?_⟩
   have:txS most (some R0)=(R.take n,some (R.drop n)):=by simp only [txS,zm4,hn];rw [if_neg (by omega)]
   rw [this]
   refine qm (s:=.str) (strOf (R.take n)) (zyc uS8 u8 z4r rfl hC (by rw [hy];simp;omega)) ?_
   exact⟨rfl,h3,hx1.trans hx3⟩
theorem qhp {w:World}{H:Heap}{b:Nat}{F:List Nat}{s:Rest}(hw:w.heap=H) (hI:InW H b F s) :
  zy P zky #[.pointer (some ⟨b,0,none⟩)] w fun e w'=>e=.returned (.bool (decide (s=some [])))/\w'=w:=by
 obtain⟨x,e,h1,h2,h3,h4⟩:=id hI
 refine zwl ?_
 unfold zqu
 refine zai rfl ?_
 simp only [qg,vg]
 refine je (s:=.int .i64) (t:=e) hw h1 rfl ?_
 cases s with
 | none=>exact zbo (fun h=>absurd h h4) (fun _=>⟨by simp,trivial⟩)
 | some R=>
  refine zai (by rw [h4.1];rfl) ?_
  refine je (s:=.slc) (t:=x) hw h1 rfl ?_
  refine⟨?_,trivial⟩
  congr 2
  rw [h4.2.2.1,Bool.eq_iff_iff]
  simp
theorem bIn (x:Option Addr×Nat×Nat) (w:World):(Instr.build zkl #[(0,.slice x.1 x.2.1 x.2.2)]).run P w=.ok (.agg #[zb2 x,.int .i64 0]) w:=by kernel_rfl
theorem qgl {w:World}{H:Heap}{a:Option Addr}{n nc:Nat}{L:List UInt8}(hw:w.heap=H) (hL:Cells H a (byteCells L)) (hn:n=L.length) (hl:L.length<=1099511627776) :
  zy P zot #[.slice a n nc] w fun e w'=>∃ b F,e=.returned (.pointer (some ⟨b,0,none⟩))/\InW w'.heap b F (some L)/\Ext [] H w'.heap/\H.size<=b/\(∀ c∈F,H.size<=c)/\b < w'.heap.size/\∀ c∈F,c < w'.heap.size:=by
 subst hn
 refine z0t ?_
 unfold zvy
 refine zcj (x:=(none,0,0)) (vs:=[]) (B:=H.size) E8 (by omega) uS8 (zbg uS8) hw (.inl ⟨rfl,rfl⟩) (Nat.le_refl _) (Src.slc hw hL (by simp)) jo (by simp only;omega) ?_
 intro y w1 hm hl1 hx hs
 have hxn:Ext [] H w1.heap:=hx.mono (by simp [jk])
 refine qm (s:=.any) _ (bIn y _) ?_
 refine jm rfl fun w2 hw2=>?_
 have hx2:Ext [] w1.heap w2.heap:=by rw [hw2];exact .push _
 have hb2:w2.heap[w1.heap.size]?=some (.cells #[zb2 y,.int .i64 0] zkl (0,0)):=by rw [hw2];exact zk
 have hylt:∀ c∈jk y,c < w1.heap.size:=by
  intro c hc
  rcases hm with⟨hx1,_⟩ | ⟨b',c',hx1,_,hb',_⟩
  ·simp [jk,hx1] at hc
  ·simp [jk,hx1] at hc
   subst hc
   exact lt_of_get hb'
 have hyl:y.2.1=L.length:=by have:=hm.len;simp at this;omega
 have hs1:=hxn.1
 have hs2:=hx2.1
 refine⟨w1.heap.size,jk y,rfl,⟨y,0,hb2,fun h=>by have:=hylt _ h;omega,fun c hc=>hc,rfl,?_,hyl,?_,by omega⟩,hxn.trans hx2,by omega,fun c hc=>qx hm c hc,lt_of_get hb2,fun c hc=>by have:=hylt c hc;omega⟩
 ·have:=hm.cells
  rw [List.nil_append] at this
  exact this.ext hx2 (by simp)
 ·rcases hm with⟨hx1,hv⟩ | ⟨_,_,_,_,_,_,_,h,_⟩
  ·rw [hx1];exact Nat.le_refl _
  ·exact h
theorem qgs {w:World}{H:Heap}(hw:w.heap=H){K:(Option Addr×Nat×Nat)->World->Prop}(hK:∀ w',Ext [] H w'.heap->Mine w'.heap H.size qw 1 (some ⟨H.size,0,none⟩,0,0) (byteCells [])->K (some ⟨H.size,0,none⟩,0,0) w'):zaw P (Instr.buildSlice zi 0 #[]) .slc w K:=by
 refine zah (s:=.slc) (some ⟨H.size,0,none⟩,0,0) { w with heap:=H.push (.cells #[] qw) } (by rw [<-hw];kernel_rfl) ?_
 exact hK _ (.push _) (.inr ⟨H.size,#[],rfl,Nat.le_refl _,zk,rfl,rfl,Nat.le_refl _,rfl⟩)
theorem qjw {w:World}{H:Heap}{n:Int}(c:UInt8) (hn:n=(c.toNat:Int)) (hw:w.heap=H){K:(Option Addr×Nat×Nat)->World->Prop}(hK:∀ w',Ext [] H w'.heap->Mine w'.heap H.size qw 1 (some ⟨H.size,0,none⟩,1,1) (byteCells [c])->K (some ⟨H.size,0,none⟩,1,1) w') :
  zaw P (Instr.buildSlice zi 1 #[(0,(.int .u8 n))]) .slc w K:=by
 subst hn
 refine zah (s:=.slc) (some ⟨H.size,0,none⟩,1,1) { w with heap:=H.push (.cells (Value.int .u8 (c.toNat:Int)).cells qw) } (by rw [<-hw];exact zen E8 uS8 (v:=.int .u8 (c.toNat:Int)) rfl (by omega) (by omega)) ?_
 refine hK _ (.push _) (.inr ⟨H.size,(Value.int .u8 (c.toNat:Int)).cells,rfl,Nat.le_refl _,zk,by simp [Value.cells],by simp,Nat.le_refl _,?_⟩)
 simp [Value.cells,byteCells]
theorem qcd {w:World}{H:Heap}{B:Nat}{x:Option Addr×Nat×Nat}{a:Option Addr}{l c:Nat}{L M:List UInt8}(hw:w.heap=H) (hx:Mine H B qw 1 x (byteCells L)) (hB:B<=H.size) (hL:Cells H a (byteCells M)) (hl:l=M.length) (hlen:L.length+M.length<=1099511627776)
  {K:(Option Addr×Nat×Nat)->World->Prop}(hK:∀ x' w',Mine w'.heap B qw 1 x' (byteCells (L++M))->Ext (jk x) H w'.heap->(∀ c∈jk x',c∈jk x\/H.size<=c)->K x' w') :
  zaw P (Builtin.append_ #[zi,zi] zi #[.slice x.1 x.2.1 x.2.2,.slice a l c]) .slc w K:=by
 subst hl
 have h0:x.2.1=L.length:=by have:=hx.len;simp at this;omega
 refine zcj E8 (by omega) uS8 (zbg uS8) hw hx hB (Src.slc hw hL (by simp)) jo (by omega) ?_
 intro x2 w2 hO2 _ hx2 hm2
 exact hK x2 w2 (by rw [<-byteCells_append];exact hO2) hx2 hm2
theorem qjh {w:World}{H:Heap}{B:Nat}{x:Option Addr×Nat×Nat}{L M:List UInt8}(hw:w.heap=H) (hx:Mine H B qw 1 x (byteCells L)) (hB:B<=H.size) (hlen:L.length+M.length<=1099511627776)
  {K:(Option Addr×Nat×Nat)->World->Prop}(hK:∀ x' w',Mine w'.heap B qw 1 x' (byteCells (L++M))->Ext (jk x) H w'.heap->(∀ c∈jk x',c∈jk x\/H.size<=c)->K x' w') :
  zaw P (Builtin.append_ #[zi,jw] zi #[.slice x.1 x.2.1 x.2.2,.string (strOf M)]) .slc w K:=by
 have h0:x.2.1=L.length:=by have:=hx.len;simp at this;omega
 refine zcj E8 (by omega) uS8 ⟨_,z4r,by intro k h;cases h⟩ hw hx hB (n:=M.length) (us:=byteCells M) Src.str jo (by omega) ?_
 intro x2 w2 hO2 _ hx2 hm2
 exact hK x2 w2 (by rw [<-byteCells_append];exact hO2) hx2 hm2
theorem zi6 {H H':Heap}{B:Nat}{x:Option Addr×Nat×Nat}{vs:List Value}{T:TypeId}{sz:Nat}{H0:Heap}(h:Ext [] H0 H) (hm:Mine H B T sz x vs) (hB:H0.size<=B) (hx:Ext (jk x) H H'):Ext [] H0 H':=
 h.own hx fun c hc hlt=>by have:=qx hm c hc;omega
end Go.Proofs.YtbmegmbnlajbbaaGreatDoor
