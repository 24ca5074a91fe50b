/- Part 4 of the texts below the card, joined. -/
import Derived.Test.YtbmegmbnlajbbaaGreatDoorTSpc
import Derived.Great.BuildSlice
import Derived.Lib.Bytealg
import Derived.Sort.LotA
import Derived.Shelf.SlSortCmp.Insertion
import Derived.Laws.Strings
import Derived.Lib.Builder
import Derived.Lib.MakeNoZero
import Derived.Lib.UnsafeStr
import Derived.Test.YtbmegmbnlajbbaaGreatDoorTSpb
namespace Go.Fw
open Go
theorem qgq {P:Program} {w:World} {H:Heap} {y:TypeId} {v:Value} (hs:P.cellsOf y=v.cells.size) (hz:(zc P y).size=v.cells.size) (h0:v.cells.size ≠ 0) (h1:zcz v.cells.toList) (hw:w.heap=H) {K:Nat→World→Prop}
  (hK:∀ w',w'.heap=H.push (.cells v.cells y (0,0))→K H.size w'):zbn (zc P y) y w fun b w1=>zby P (storeVar y (⟨b,0,none⟩:Addr) v) w1 fun w2=>K b w2:=by
 refine jv hw fun w1 hw1=>?_
 refine zbj hs h0 h1 hw1 zn (by omega) fun w2 hw2=>hK w2 ?_
 rw [hw2,zan (by simpa using hz.symm)]
 apply Array.ext_getElem?
 intro i
 by_cases h:H.size=i
 ·subst h
  simp
 ·rw [Array.getElem?_setIfInBounds_ne h]
  by_cases hi:i < H.size
  ·rw [zeg (Array.getElem?_eq_getElem hi),zeg (Array.getElem?_eq_getElem hi)]
  ·rw [Array.getElem?_eq_none (by simp;omega),Array.getElem?_eq_none (by simp;omega)]
def Elem (P:Program) (e:TypeId) (sz bts:Nat):Prop:=∃ info z,P.info? e=some info∧info.size=sz∧info.zero=some z∧z.cells.size=sz∧info.bytes=bts
theorem zn0 {P:Program} {e:TypeId} {sz bts:Nat} {z:Value} (h:(P.info? e).map (fun i=>(i.size,i.bytes,i.zero))=some (sz,bts,some z)) (hz:z.cells.size=sz):Elem P e sz bts:=by
 obtain ⟨i,hi,h⟩:=Option.map_eq_some_iff.1 h
 simp only [Prod.mk.injEq] at h
 exact ⟨i,z,hi,h.1,h.2.2,hz,h.2.1⟩
theorem zcq {P:Program} {w:World} {H:Heap} {st xt e ty:TypeId} {sz bts B:Nat} {x:Option Addr × Nat × Nat} {y:Value} {n:Nat} {vs us:List Value} (E:Elem P e sz bts) (hb:bts ≠ 0) (hu:P.underlying st=some (.slice e)) (hx:∃ d,P.underlying xt=some d∧∀ k,d ≠ .int k)
  (hw:w.heap=H) (hown:Mine H B e sz x vs) (hB:B≤H.size) (hsrc:Src P w y sz n us) (h1:zcz us) (hroom:(2 * (x.2.1+n)+192) * bts≤281474976710656) {K:(Option Addr × Nat × Nat)→World→Prop}
  (hK:∀ x' w',Mine w'.heap B e sz x' (vs++us)→x'.2.1=x.2.1+n→Ext (xw x) H w'.heap→(∀ b,b ∈ xw x'→b ∈ xw x ∨ H.size≤b)→K x' w') :
  zal P (Builtin.append_ #[st,xt] ty #[.slice x.1 x.2.1 x.2.2,y]) .slc w K:=by
 obtain ⟨i,z,hi,hs,hz,hzs,hbb⟩:=E
 obtain ⟨x',w',h2,hc,h3,h4,h5,h6⟩:=qdt (ty:=ty) hu hx hi hs hz hzs (by omega) hw hown hB hsrc h1 (by rw [hbb];exact hroom)
 exact zad x' w' h2 (hK x' w' h3 h4 h5 h6) hc
theorem za5 {P:Program} {st e:TypeId} (hu:P.underlying st=some (.slice e)):∃ d,P.underlying st=some d∧∀ k,d ≠ .int k:=⟨_,hu,by intro k h;cases h⟩
theorem zjm {P:Program} {w:World} {H:Heap} {a:Option Addr} {len sz:Nat} {α:Type} {enc:α→List Value} (hk:∀ x,(enc x).length=sz) (h0:0 < sz) {xs:List α} {v:α} {i:Nat} {n:Int} (hw:w.heap=H) (hL:Cells H a (xs.flatMap enc))
  (hlen:len=xs.length) (hi:xs[i]?=some v) (hn:n=(i:Int)) {K:Array Value→Prop} (hK:K (enc v).toArray):ixS a len sz n fun p=>ldA P sz p w K:=by
 have hlt:=(List.getElem?_eq_some_iff.1 hi).1
 rcases hL with h | ⟨b,o,c,T,fr,rfl,hb,hsz,hc⟩
 ·have:=congrArg List.length h
  rw [qg enc hk] at this
  have:=Nat.mul_pos (show 0 < xs.length by omega) h0
  simp_all
 ·refine qi8 i hn (by omega) ?_
  have hm:i * sz+sz≤xs.length * sz:=by
   have:=Nat.mul_le_mul_right sz (show i+1≤xs.length by omega)
   rw [Nat.add_mul] at this;omega
  rw [qg enc hk] at hsz
  refine zre hw hb (by omega) ?_
  have:c.extract (o+i * sz) (o+i * sz+sz)=(enc v).toArray:=by
   apply Array.ext_getElem?
   intro j
   rw [Array.getElem?_extract]
   by_cases hj:j < sz
   ·rw [if_pos (by omega)]
    have h2:(xs.flatMap enc)[i * sz+j]?=(enc v)[j]?:=by
     rw [getElem_flatMap enc hk h0]
     have h3:(i * sz+j) / sz=i:=by
      rw [Nat.mul_comm,Nat.mul_add_div h0,Nat.div_eq_of_lt hj];rfl
     have h4:(i * sz+j) % sz=j:=by
      rw [Nat.mul_comm,Nat.mul_add_mod,Nat.mod_eq_of_lt hj]
     rw [h3,h4,hi];rfl
    rw [← hc,Array.getElem?_toList,Array.getElem?_extract,qg enc hk,if_pos (by omega)] at h2
    rw [show o+i * sz+j=o+(i * sz+j) by omega,h2]
    simp
   ·rw [if_neg (by omega)]
    rw [Array.getElem?_eq_none (by simp [hk];omega)]
  rw [this];exact hK
theorem zox (off:Nat):∀ (vs:List Value) (k:Nat) (cs:Array Value),(vs.zipIdx k).foldl (fun cs x=>cs.setIfInBounds (off+x.2) x.1) cs=setCells cs (off+k) vs
 | [],_,_=>rfl
 | v :: r,k,cs=>by
  simp only [List.zipIdx_cons,List.foldl_cons,setCells]
  rw [zox off r (k+1)]
  rfl
theorem qis {v:Value} {size:Nat} {cs:Array Value} (hs:v.cells.size=size) (hc:cs.size=size):Instr.fill (fun i=>some (i * size,size)) cs [(0,v)]=some v.cells:=by
 simp only [Instr.fill,Nat.zero_mul,Nat.zero_add,hs,hc,ne_eq,not_true_eq_false,decide_false,Bool.false_or,Nat.lt_irrefl,decide_eq_true_eq,if_false,Bool.or_self,Bool.false_eq_true,gt_iff_lt]
 congr 1
 have h:=zox 0 v.cells.toList 0 cs
 simp only [Nat.zero_add] at h
 rw [← Array.foldl_toList,Array.toList_zipIdx,h,zan (by simpa [hc] using hs)]
theorem zd0 {P:Program} {w:World} {st e:TypeId} {sz bts:Nat} {v:Value} (E:Elem P e sz bts) (hu:P.underlying st=some (.slice e)) (hv:v.cells.size=sz) (h0:0 < sz) (h1:sz≤16777216) :
  (Instr.buildSlice st 1 #[(0,v)]).run P w=.ok (.slice (some ⟨w.heap.size,0,none⟩) 1 1) { w with heap:=w.heap.push (.cells v.cells e) }:=by
 obtain ⟨i,z,hi,hs,hz,hzs,_⟩:=E
 have hn1:¬ (1 * i.size > 2 ^ 24):=by
  have:(2:Nat) ^ 24=16777216:=by decide
  rw [this];omega
 have hn2:¬ (1 * i.size=0):=by omega
 have hf:Instr.fill (fun k=>some (k * i.size,i.size)) ((Array.range (1 * i.size)).map (z.cells[· % z.cells.size]!)) [(0,v)]=some v.cells:=qis (by omega) (by simp)
 exact run_buildSlice w st e 1 #[(0,v)] v.cells i z hu hi hz hn1 hn2 hf
open Go.Proofs Go.Sort
theorem ze5:∀ {a b:List UInt8},Lib.compareBytes a b < 0 ↔ a < b
 | [],[]=>by simp [Lib.compareBytes]
 | [],b :: y=>by simp [Lib.compareBytes]
 | a :: x,[]=>by simp [Lib.compareBytes]
 | a :: x,b :: y=>by
  have ih:=ze5 (a:=x) (b:=y)
  rw [List.cons_lt_cons_iff]
  simp only [Lib.compareBytes]
  by_cases h1:a < b
  ·simp [h1]
  ·rw [if_neg h1]
   by_cases h2:b < a
   ·rw [if_pos h2]
    have:a ≠ b:=by rintro rfl;exact h1 h2
    simp [h1,this]
   ·rw [if_neg h2]
    have:a=b:=UInt8.le_antisymm (UInt8.not_lt.1 h2) (UInt8.not_lt.1 h1)
    subst this
    simp [h1,ih]
theorem zfs:∀ {a b:List UInt8},Lib.compareBytes a b=0 ↔ a=b
 | [],[]=>by simp [Lib.compareBytes]
 | [],b :: y=>by simp [Lib.compareBytes]
 | a :: x,[]=>by simp [Lib.compareBytes]
 | a :: x,b :: y=>by
  have ih:=zfs (a:=x) (b:=y)
  simp only [Lib.compareBytes,List.cons.injEq]
  by_cases h1:a < b
  ·have:a ≠ b:=by rintro rfl;exact UInt8.lt_irrefl _ h1
   simp [h1,this]
  ·rw [if_neg h1]
   by_cases h2:b < a
   ·have:a ≠ b:=by rintro rfl;exact h1 h2
    simp [h2,this]
   ·rw [if_neg h2]
    have:a=b:=UInt8.le_antisymm (UInt8.not_lt.1 h2) (UInt8.not_lt.1 h1)
    simp [this,ih]
theorem zts:∀ {a b:List UInt8},Lib.compareBytes a b=- Lib.compareBytes b a
 | [],[]=>by simp [Lib.compareBytes]
 | [],b :: y=>by simp [Lib.compareBytes]
 | a :: x,[]=>by simp [Lib.compareBytes]
 | a :: x,b :: y=>by
  have ih:=zts (a:=x) (b:=y)
  simp only [Lib.compareBytes]
  by_cases h1:a < b
  ·have:¬ b < a:=fun h=>UInt8.lt_irrefl _ (UInt8.lt_trans h1 h)
   simp [h1,this]
  ·by_cases h2:b < a
   ·simp [h1,h2]
   ·simp [h1,h2];exact ih
theorem zka:∀ {a b:List UInt8},Lib.compareBytes a b=-1 ∨ Lib.compareBytes a b=0 ∨ Lib.compareBytes a b=1
 | [],[]=>by simp [Lib.compareBytes]
 | [],b :: y=>by simp [Lib.compareBytes]
 | a :: x,[]=>by simp [Lib.compareBytes]
 | a :: x,b :: y=>by
  simp only [Lib.compareBytes]
  split
  ·simp
  ·split
   ·simp
   ·exact zka
@[simp] theorem zau {L:List UInt8}:(strOf L).toList=L:=by rw [ByteArray.toList_eq];rfl
@[simp] theorem jy {L:List UInt8}:(strOf L).size=L.length:=rfl
theorem z4g {L:List UInt8} {l h:Nat}:(strOf L).extract l h=strOf ((L.take h).drop l):=by
 apply ByteArray.ext
 simp only [ByteArray.data_extract,strOf]
 apply Array.ext'
 simp [List.extract_eq_take_drop,List.drop_take]
theorem qaa {A B:List UInt8}:strOf A++strOf B=strOf (A++B):=by
 apply ByteArray.ext
 simp [strOf,ByteArray.data_append]
theorem zpe {L:List UInt8} {i:Int} {K:Int→Prop} (k:Nat) (hi:i=(k:Int)) (hk:k < L.length) (hK:K ((L[k]).toNat:Int)):ztl (strOf L) i K:=by
 subst hi
 refine ⟨by omega,L[k],?_,hK⟩
 show (strOf L)[((k:Int)).toNat]?=some L[k]
 rw [Int.toNat_natCast]
 have h:k < (strOf L).size:=hk
 rw [getElem?_pos (strOf L) k h]
 rfl
theorem zyq {A B:List UInt8} {K:ByteArray→Prop} (h:A.length+B.length≤9223372036854775807) (hK:K (strOf (A++B))):qjd (strOf A) (strOf B) K:=⟨by simp only [jy];exact h,by rw [qaa];exact hK⟩
theorem z88 (A:Array UInt8):(ByteArray.mk A).toList=A.toList:=ByteArray.toList_eq _
theorem zjw {L:List UInt8} {A:Array UInt8}:((strOf L).toList == (ByteArray.mk A).toList)=true ↔ L=A.toList:=by rw [zau,z88,beq_iff_eq]
section
variable {P:Program} {w:World}
theorem zz1 {t:TypeId} {L:List UInt8} {l h:Nat} {lo hi:Option Value} (hu:P.underlying t=some .string) (hlo:IxO lo 0 l) (hhi:IxO hi L.length h) (h1:l≤h) (h2:h≤L.length) :
  (Instr.sliceAt t (.string (strOf L)) lo hi none).run P w=.ok (.string (strOf ((L.take h).drop l))) w:=by
 rw [z3n (s:=strOf L) hu hlo hhi h1 h2,z4g]
end
theorem z8i {a b:List UInt8}:(strOf a == strOf b)=decide (a=b):=by
 show ((strOf a).data == (strOf b).data)=_
 rw [Bool.eq_iff_iff,beq_iff_eq,decide_eq_true_iff]
 simp [strOf]
theorem z6f {κ:Type} [DecidableEq κ] {enc:κ→ByteArray} (heq:∀ a b,(enc a == enc b)=decide (a=b)) {k:κ}:∀ (l:List (κ × Value × Nat)) (i:Nat),
  Instr.findNow .string (.string (enc k)) (l.map fun x=>⟨.string (enc x.1),x.2.1,x.2.2⟩) i=some ((l.findIdx? (fun x=>x.1 == k)).bind fun j=>(l[j]?).map fun x=>(i+j,x.2.1))
 | [],i=>by simp [Instr.findNow]
 | x :: l,i=>by
  have ih:=z6f heq (k:=k) l (i+1)
  simp only [List.map_cons,Instr.findNow,Instr.sameNow,heq]
  by_cases e:x.1=k
  ·subst e
   simp [List.findIdx?_cons]
  ·have e2:¬ k=x.1:=fun h=>e h.symm
   simp only [e2,decide_false,ih]
   congr 1
   rw [List.findIdx?_cons]
   simp only [beq_eq_false_iff_ne.2 e]
   cases hf:List.findIdx? (fun x=>x.1 == k) l with
   | none=>simp
   | some j=>simp [Nat.add_assoc,Nat.add_comm 1 j]
theorem KeyOk.str {P:Program} {t:TypeId} (hu:P.underlying t=some .string):KeyOk P t (List UInt8) (fun _=>True) (fun L=>.string (strOf L)) where
 find w k es l _ _ he:=by
  subst he
  have h:=z6f (enc:=strOf) (fun a b=>z8i) (k:=k) l 0
  simp only [Nat.zero_add] at h
  simp only [Instr.findKey,Sem.run_bind,qx hu,Result.andThen_ok,h,Sem.run_pure]
 chk w k e _:=by
  rw [show (10000:Nat)=9999+1 from rfl,Instr.checkKey]
  simp only [Sem.run_bind,qx hu,Result.andThen_ok,Sem.run_pure]
 same k _:=by simp [Instr.sameBits,z8i]
def strRow (xs:List (List UInt8)):List Value:=xs.map fun L=>.string (strOf L)
@[simp] theorem zfg {xs:List (List UInt8)}:(strRow xs).length=xs.length:=by simp [strRow]
theorem qfd {xs:List (List UInt8)}:zcz (strRow xs):=by
 intro v hv
 obtain ⟨L,_,rfl⟩:=List.mem_map.1 hv
 rfl
theorem zrh {xs:List (List UInt8)} {n:Nat}:(strRow xs).take n=strRow (xs.take n):=by simp [strRow]
theorem zzu {xs:List (List UInt8)} {n:Nat}:(strRow xs).drop n=strRow (xs.drop n):=by simp [strRow]
theorem zt1 {xs ys:List (List UInt8)}:strRow xs++strRow ys=strRow (xs++ys):=by simp [strRow]
theorem z1o {w:World} {H:Heap} {a:Option Addr} {len i:Nat} {n:Int} {xs:List (List UInt8)} (hw:w.heap=H) (hL:Cells H a (strRow xs)) (hlen:len=xs.length) (hi:i < xs.length) (hn:n=(i:Int)) {K:ByteArray→Prop} (hK:K (strOf xs[i])) :
  ixS a len 1 n fun p=>ld .str p w K:=by
 rcases hL with h | ⟨b,o,c,T,fr,rfl,hb,hsz,hc⟩
 ·have:=congrArg List.length h
  rw [zfg] at this;simp at this;subst this;simp at hi
 ·refine zqz i hn (by omega) ?_
  refine jh (s:=.str) hw hb ?_ hK
  have h2:(strRow xs)[i]?=some (.string (strOf xs[i])):=by simp [strRow,hi]
  rw [← hc,Array.getElem?_toList,Array.getElem?_extract,zfg] at h2
  split at h2
  ·exact h2
  ·cases h2
theorem qgu {w:World} {H:Heap} {a a':Option Addr} {len len' i j:Nat} {n n':Int} {xs ys:List (List UInt8)} (hw:w.heap=H) (hL:Cells H a (strRow xs)) (hlen:len=xs.length) (hi:i < xs.length) (hn:n=(i:Int))
  (hL':Cells H a' (strRow ys)) (hlen':len'=ys.length) (hj:j < ys.length) (hn':n'=(j:Int)) {K:ByteArray→ByteArray→Prop} (hK:K (strOf xs[i]) (strOf ys[j])) :
  ixS a len 1 n fun p=>ixS a' len' 1 n' fun p'=>ld .str p w fun t=>ld .str p' w fun t'=>K t t':=by
 rcases hL with h | ⟨b,o,c,T,fr,rfl,hb,hsz,hc⟩
 ·have:=congrArg List.length h
  rw [zfg] at this;simp at this;subst this;simp at hi
 rcases hL' with h | ⟨b',o',c',T',fr',rfl,hb',hsz',hc'⟩
 ·have:=congrArg List.length h
  rw [zfg] at this;simp at this;subst this;simp at hj
 refine zqz i hn (by omega) ?_
 refine zqz j hn' (by omega) ?_
 have h2:(strRow xs)[i]?=some (.string (strOf xs[i])):=by simp [strRow,hi]
 rw [← hc,Array.getElem?_toList,Array.getElem?_extract,zfg] at h2
 have h3:(strRow ys)[j]?=some (.string (strOf ys[j])):=by simp [strRow,hj]
 rw [← hc',Array.getElem?_toList,Array.getElem?_extract,zfg] at h3
 refine jh (s:=.str) hw hb (by split at h2;exact h2;cases h2) ?_
 refine jh (s:=.str) hw hb' (by split at h3;exact h3;cases h3) ?_
 exact hK
end Go.Fw
namespace Go.Proofs.YtbmegmbnlajbbaaGreatDoor
open Go Go.Fw Go.Proofs
def zq7 (c:Int):Bool:=decide (c=46 ∨ c=95 ∨ c=45 ∨ (48≤c∧c≤57) ∨ (97≤c∧c≤122) ∨ (65≤c∧c≤90))
def zej (b:UInt8):Bool:=zq7 (b.toNat:Int)
def zd6 (L:List UInt8):Bool:=decide (L ≠ []∧L.length≤16∧L ≠ [46]∧L ≠ [46,46]) && L.all zej
abbrev Path:=List (List UInt8)
def zwb (p:Path):Int:=if p.all zd6 then (if 8 < p.length then 42 else 0) else 41
def zfz:Path→Path→Int
 | [],[]=>0
 | [],_ :: _=>-1
 | _ :: _,[]=>1
 | x :: a,y :: b=>if Lib.compareBytes x y ≠ 0 then Lib.compareBytes x y else zfz a b
theorem z1y {c:Int} {w:World} (h:c=46 ∨ c=95 ∨ c=45 ∨ (48≤c∧c≤57) ∨ (97≤c∧c≤122) ∨ (65≤c∧c≤90)):(Ending.returned (Value.bool true)=.returned (.bool (zq7 c)))∧w=w:=⟨by simp only [zq7,decide_eq_true h],rfl⟩
theorem qbc {c:Int} {w:World} (h:¬ (c=46 ∨ c=95 ∨ c=45 ∨ (48≤c∧c≤57) ∨ (97≤c∧c≤122) ∨ (65≤c∧c≤90))):(Ending.returned (Value.bool false)=.returned (.bool (zq7 c)))∧w=w:=⟨by simp only [zq7,decide_eq_false h],rfl⟩
theorem z8q {c:Int} {w:World} {b:Bool} (h:b=zq7 c):(Ending.returned (Value.bool b)=.returned (.bool (zq7 c)))∧w=w:=⟨by rw [h],rfl⟩
theorem qhe {w:World} (c:Int):qj P zj7 #[.int .u8 c] w fun e w'=>e=.returned (.bool (zq7 c))∧w'=w:=by
 refine z0j ?_
 unfold zoz
 repeat' first
  | refine zac ?_
  | refine zb3 (fun h=>?_) (fun h=>?_)
  | refine zq (fun h=>?_) (fun h=>?_)
  | exact z1y (by omega)
  | exact qbc (by omega)
  | exact z8q (decide_eq_decide.2 (by omega))
theorem qjl {w:World} (c:Int):qj P zrz #[.int .u8 c] w fun e w'=>e=.returned (.bool (zq7 c))∧w'=w:=by
 refine z9k ?_
 unfold zrx
 repeat' first
  | refine zac ?_
  | refine zb3 (fun h=>?_) (fun h=>?_)
  | refine zq (fun h=>?_) (fun h=>?_)
  | exact z1y (by omega)
  | exact z8q (by rw [zq7,Bool.eq_iff_iff,beq_iff_eq,decide_eq_true_iff];omega)
theorem qin {L:List UInt8} {i:Nat} (hi:i < L.length) (h:∀ b ∈ L.take i,zej b=true) (hb:zej L[i]=true):∀ b ∈ L.take (i+1),zej b=true:=by
 intro b hm
 rw [List.take_add_one,List.getElem?_eq_getElem hi] at hm
 rcases List.mem_append.1 hm with hm | hm
 ·exact h b hm
 ·simp only [Option.toList_some,List.mem_singleton] at hm;subst hm;exact hb
theorem z7z {L:List UInt8} {i:Nat} (hi:i < L.length) (hb:zej L[i]=false):L.all zej=false:=by
 rw [List.all_eq_false]
 exact ⟨L[i],List.getElem_mem hi,by simp [hb]⟩
theorem qmt {w:World} (L:List UInt8) (hL:L.length≤9223372036854775807):qj P zpo #[.string (strOf L)] w fun e w'=>e=.returned (.bool (zd6 L))∧w'=w:=by
 refine z5k ?_
 unfold zpy
 have no:∀ {w:World},¬ (L ≠ []∧L.length≤16∧L ≠ [46]∧L ≠ [46,46])→(Ending.returned (Value.bool false)=.returned (.bool (zd6 L)))∧w=w:=fun h=>⟨by simp only [zd6,decide_eq_false h,Bool.false_and],rfl⟩
 refine zac ?_
 refine zfc (p:=L=[]) zjw (fun h=>no fun h2=>h2.1 h) (fun h1=>?_)
 refine zq (fun h=>no fun h2=>by have:=h2.2.1;simp only [jy] at h;omega) (fun h2=>?_)
 refine zfc (p:=L=[46]) zjw (fun h=>no fun h2=>h2.2.2.1 h) (fun h3=>?_)
 refine zfc (p:=L=[46,46]) zjw (fun h=>no fun h2=>h2.2.2.2 h) (fun h4=>?_)
 have hc:(L ≠ []∧L.length≤16∧L ≠ [46]∧L ≠ [46,46]):=⟨h1,by simp only [jy] at h2;omega,h3,h4⟩
 have hno:zd6 L=L.all zej:=by simp only [zd6,decide_eq_true hc,Bool.true_and]
 rw [hno]
 refine jd (fun (s:Int) W=>∃ i:Nat,s=(i:Int)∧i≤L.length∧W=w∧∀ b ∈ L.take i,zej b=true) (fun s _=>(L.length - s).toNat) ⟨0,rfl,Nat.zero_le _,rfl,by simp⟩ ?_
 rintro _ w ⟨i,rfl,hi,rfl,hp⟩
 refine zq (fun hlt=>?_) (fun hge=>?_)
 ·have hil:i < L.length:=by simp only [jy] at hlt;omega
  refine zpe i rfl hil ?_
  refine zbb (zej L[i]) (qhe _) ?_
  cases hb:zej L[i] with
  | false=>exact zab rfl ⟨by rw [z7z hil hb],rfl⟩
  | true =>
   refine jl rfl ?_
   refine xu ((i+1:Nat):Int) (by omega) (by omega) (by omega) ?_
   exact ⟨⟨i+1,rfl,by omega,rfl,qin hil hp hb⟩,by omega⟩
 ·have:i=L.length:=by simp only [jy] at hge;omega
  subst this
  rw [List.take_length] at hp
  exact ⟨by rw [List.all_eq_true.2 hp],rfl⟩
theorem zw5:P.underlying qp=some (.slice qc):=by kernel_rfl
theorem qfv:(P.info? qc).map (·.size)=some 1:=by kernel_rfl
def Fit (p:Path):Prop:=∀ L ∈ p,L.length≤9223372036854775807
theorem qa7 {p:Path} {i:Nat} (hi:i < p.length) (hb:zd6 p[i]=false):p.all zd6=false:=by
 rw [List.all_eq_false]
 exact ⟨p[i],List.getElem_mem hi,by simp [hb]⟩
theorem z5n {p:Path} {i:Nat} (hi:i < p.length) (h:∀ b ∈ p.take i,zd6 b=true) (hb:zd6 p[i]=true):∀ b ∈ p.take (i+1),zd6 b=true:=by
 intro b hm
 rw [List.take_add_one,List.getElem?_eq_getElem hi] at hm
 rcases List.mem_append.1 hm with hm | hm
 ·exact h b hm
 ·simp only [Option.toList_some,List.mem_singleton] at hm;subst hm;exact hb
theorem qk8 {w:World} {H:Heap} {a:Option Addr} {n nc:Nat} {p:Path} (hw:w.heap=H) (hL:Cells H a (strRow p)) (hn:n=p.length) (hf:Fit p) (hp:p.length≤9223372036854775807):qj P znc #[.slice a n nc] w fun e w'=>e=.returned (.int .i64 (zwb p))∧w'=w:=by
 subst hn
 refine z0o ?_
 unfold zoc
 refine jd (fun (s:Int) W=>∃ i:Nat,s=(i:Int)∧i≤p.length∧W=w∧∀ b ∈ p.take i,zd6 b=true) (fun s _=>(p.length - s).toNat) ⟨0,rfl,Nat.zero_le _,rfl,by simp⟩ ?_
 rintro _ w ⟨i,rfl,hi,rfl,hok⟩
 refine zq (fun hlt=>?_) (fun hge=>?_)
 ·have hil:i < p.length:=by omega
  refine z1o hw hL rfl hil rfl ?_
  refine zl (qmt _ (hf _ (List.getElem_mem hil))) ?_
  rintro e w' ⟨rfl,rfl⟩
  refine ⟨_,rfl,?_⟩
  cases hb:zd6 p[i] with
  | false=>exact zab rfl ⟨by simp [zwb,qa7 hil hb],rfl⟩
  | true =>
   refine jl rfl ?_
   refine xu ((i+1:Nat):Int) (by omega) (by omega) (by omega) ?_
   exact ⟨⟨i+1,rfl,by omega,rfl,z5n hil hok hb⟩,by omega⟩
 ·have:i=p.length:=by omega
  subst this
  rw [List.take_length] at hok
  have hall:p.all zd6=true:=List.all_eq_true.2 hok
  refine zq (fun h=>⟨by simp only [zwb,hall,if_true];rw [if_pos (by omega)],rfl⟩) (fun h=>⟨by simp only [zwb,hall,if_true];rw [if_neg (by omega)],rfl⟩)
def zc1 (p q:Path):Bool:=q.isPrefixOf p
theorem within_iff {p q:Path}:zc1 p q=true ↔ q.length≤p.length∧p.take q.length=q:=by
 unfold zc1
 rw [List.isPrefixOf_iff_prefix]
 constructor
 ·rintro ⟨t,rfl⟩
  exact ⟨by simp,by simp⟩
 ·rintro ⟨h1,h2⟩
  exact ⟨p.drop q.length,(congrArg (·++p.drop q.length) h2.symm).trans (List.take_append_drop _ _)⟩
theorem zyz {p q:Path} {i:Nat} (hip:i < p.length) (hiq:i < q.length) (h:p.take i=q.take i) (e:p[i]=q[i]):p.take (i+1)=q.take (i+1):=by
 rw [List.take_add_one,List.take_add_one,List.getElem?_eq_getElem hip,List.getElem?_eq_getElem hiq,h,e]
theorem z7q {w:World} {H:Heap} {a b:Option Addr} {n nc m mc:Nat} {p q:Path} (hw:w.heap=H) (hL:Cells H a (strRow p)) (hn:n=p.length) (hM:Cells H b (strRow q)) (hm:m=q.length) (hp:p.length≤9223372036854775807) (hq:q.length≤9223372036854775807) :
  qj P zir #[.slice a n nc,.slice b m mc] w fun e w'=>e=.returned (.bool (zc1 p q))∧w'.heap=H:=by
 subst hn hm
 refine z4n ?_
 unfold zpi
 refine zq (fun h=>⟨by congr 2;refine (Bool.eq_false_iff.2 ?_).symm;intro h2;have:=(within_iff.1 h2).1;omega,hw⟩) (fun hl=>?_)
 refine jd (fun (s:Int) W=>∃ i:Nat,s=(i:Int)∧i≤q.length∧W.heap=H∧p.take i=q.take i) (fun s _=>(q.length - s).toNat) ⟨0,rfl,Nat.zero_le _,hw,by simp⟩ ?_
 rintro _ W ⟨i,rfl,hi,hW,hs⟩
 refine zq (fun hlt=>?_) (fun hge=>?_)
 ·have hil:i < q.length:=by omega
  refine jw hW fun W1 hW1=>?_
  refine qgu hW1 hL rfl (by omega) rfl hM rfl hil rfl ?_
  by_cases e:p[i]'(by omega)=q[i]
  ·refine jl (by simp [e]) ?_
   refine xu ((i+1:Nat):Int) (by omega) (by omega) (by omega) ?_
   exact ⟨⟨i+1,rfl,by omega,hW1,zyz (by omega) hil hs e⟩,by omega⟩
  ·refine zab (by simp [e]) ?_
   refine ⟨?_,hW1⟩
   congr 2
   refine (Bool.eq_false_iff.2 ?_).symm
   intro h2
   have h3:=(within_iff.1 h2).2
   apply e
   have h4:(p.take q.length)[i]?=q[i]?:=by rw [h3]
   rw [List.getElem?_take,if_pos hil,List.getElem?_eq_getElem (by omega),List.getElem?_eq_getElem hil] at h4
   exact Option.some.inj h4
 ·have:i=q.length:=by omega
  subst this
  rw [List.take_length] at hs
  exact ⟨by rw [within_iff.2 ⟨by omega,hs⟩],hW⟩
theorem qii {w:World} (x y:List UInt8):qj P zdz #[.string (strOf x),.string (strOf y)] w fun e w'=>e=.returned (.int .i64 (Lib.compareBytes x y))∧w'=w:=by
 have nan:∀ (w:World) (x:List UInt8),qj P ze0 #[.string (strOf x)] w fun e w'=>e=.returned (.bool false)∧w'=w:=by
  intro w x
  refine zry ?_
  unfold zhp
  exact ⟨by simp,rfl⟩
 refine zpx ?_
 unfold zfn
 refine zbb false (nan w x) ?_
 refine zbb false (nan w y) ?_
 refine jl rfl ?_
 refine jl rfl ?_
 rw [bytesLess_eq,zau,zau]
 have hr:=zka (a:=x) (b:=y)
 refine zq (fun h=>?_) (fun h=>?_)
 ·have:=ze5.2 h
  exact ⟨by congr 2;omega,rfl⟩
 ·have h1:¬ Lib.compareBytes x y < 0:=fun h2=>h (ze5.1 h2)
  by_cases e:x=y
  ·refine jl (by simp [e]) ?_
   have:=zfs.2 e
   exact ⟨by rw [this],rfl⟩
  ·refine zab (by simp [e];exact fun h2=>absurd h2 h) ?_
   have h2:Lib.compareBytes x y ≠ 0:=fun h2=>e (zfs.1 h2)
   exact ⟨by congr 2;omega,rfl⟩
theorem u8:P.underlying qy=some (.int .u8):=by kernel_rfl
theorem uS8:P.underlying zh=some (.slice qy):=by kernel_rfl
theorem sz8:(P.info? qy).map (·.size)=some 1:=by kernel_rfl
theorem z0e:P.underlying qc=some .string:=by kernel_rfl
theorem E8:Elem P qy 1 1:=zn0 (z:=.int .u8 0) (by kernel_rfl) rfl
theorem uB:P.underlying zec=some (.pointer ji):=by kernel_rfl
theorem uUP:P.underlying zjk=some .unsafePointer:=by kernel_rfl
theorem iB:(P.info? ji).map (·.size)=some 2:=by kernel_rfl
theorem zcB:zc P ji=#[.pointer none,.slice none 0 0]:=by kernel_rfl
theorem up8:P.underlying zt2=some (.pointer qy):=by kernel_rfl
theorem qpu:liesAt P P.depth ji (2 / P.cellsOf ji) 0 ji 1=true:=by kernel_rfl
theorem c8:P.cellsOf qy=1:=by kernel_rfl
theorem qlp {t:TypeId} {n:Nat} (h:(P.info? t).map (·.size)=some n):∃ j,P.info? t=some j∧j.size=n:=by
 obtain ⟨j,h1,h2⟩:=Option.map_eq_some_iff.1 h
 exact ⟨j,h1,h2⟩
theorem qh6 {w:World} {H:Heap} {b:Nat} {c:Array Value} {T:TypeId} {fr:Nat × Nat} (hw:w.heap=H) (hb:H[b]?=some (.cells c T fr)):w.shape? b=some (T,c.size):=by
 subst hw;simp [World.shape?,hb]
def Bd (H:Heap) (lo b:Nat) (L:List UInt8):Prop:=∃ x p,H[b]?=some (.cells #[.pointer p,zcr x] ji (0,0))∧(p=none ∨ p=some ⟨b,0,none⟩)∧b < lo∧Mine H lo qy 1 x (byteCells L)
theorem zxp {w:World} {H:Heap} {b:Nat} {x:Option Addr × Nat × Nat} {p:Option Addr} (hw:w.heap=H) (hb:H[b]?=some (.cells #[.pointer p,zcr x] ji (0,0))) (hp:p=none ∨ p=some ⟨b,0,none⟩) :
  qj P zb0 #[.pointer (some ⟨b,0,none⟩)] w fun e w'=>e=.returned (.tuple #[])∧w'.heap[b]?=some (.cells #[.pointer (some ⟨b,0,none⟩),zcr x] ji (0,0))∧Ext [b] H w'.heap:=by
 refine zj2 ?_
 unfold zdg
 obtain ⟨j,hj,hjs⟩:=qlp iB
 simp only [xq]
 refine jh (s:=.ptr) (t:=p) hw hb rfl ?_
 rcases hp with rfl | rfl
 ·refine zab rfl ?_
  have hsh:=qh6 hw hb
  refine zad (s:=.any) _ w (Lib.run_to_unsafe w ⟨b,0,none⟩ uB uUP hj (by omega) hsh (by simp)) ?_
  refine zxm (l:=[.any]) (.pointer (some ⟨b,0,none⟩)) (by rw [zno (e:=Extern.AbiNoEscape.same) (by kernel_rfl)];rfl) ?_
  refine zad (s:=.ptr) (some ⟨b,0,none⟩) w (Lib.run_from_unsafe w ⟨b,0,none⟩ uUP uB hj hsh qpu) ?_
  refine zcd hw hb (by simp) fun w1 hw1=>?_
  exact ⟨by trivial,by rw [hw1];exact qw hb,by rw [hw1];exact Ext.set _ (by simp)⟩
 ·refine jl rfl ?_
  refine jh (s:=.ptr) (t:=some ⟨b,0,none⟩) hw hb rfl ?_
  refine qm (s:=.bool) false ?_ ?_
  ·have h:=Lib.run_neq_ptr_same (P:=P) w ⟨b,0,none⟩ uB hj
   simp [eqM,eqGuard,h]
   rfl
  ·refine jl rfl ?_
   exact ⟨by trivial,by rw [hw];exact hb,by rw [hw];exact .refl _ _⟩
theorem qm7 {w:World} {H:Heap} {b:Nat} {n:Nat} (hw:w.heap=H) (hb:H[b]?=some (.cells #[.pointer none,.slice none 0 0] ji (0,0))) (hn0:0 < n) (hn:n≤140737488351232) :
  qj P zeu #[.pointer (some ⟨b,0,none⟩),.int .i64 (n:Int)] w fun e w'=>e=.returned (.tuple #[])∧Bd w'.heap H.size b []∧Ext [b] H w'.heap:=by
 refine zo3 ?_
 unfold zey
 refine zl (l:=[]) (zxp (x:=(none,0,0)) hw hb (.inl rfl)) ?_
 rintro e w1 ⟨rfl,hb1,hx1⟩
 refine ⟨(),rfl,?_⟩
 refine zac ?_
 refine zq (fun h=>absurd h (by omega)) (fun _=>?_)
 refine jw rfl fun w2 hw2=>?_
 have hb2:w2.heap[b]?=some (.cells #[.pointer (some ⟨b,0,none⟩),.slice none 0 0] ji (0,0)):=by rw [hw2];exact hb1
 have hx2:Ext [b] H w2.heap:=by rw [hw2];exact hx1
 simp only [xq,jr,Nat.zero_add]
 refine jh (s:=.slc) (t:=(none,0,0)) rfl hb2 rfl ?_
 refine qm (s:=.int .i64) 0 (by kernel_rfl) ?_
 refine jh (s:=.slc) (t:=(none,0,0)) rfl hb2 rfl ?_
 refine zbu 0 rfl (by omega) (by omega) ?_
 refine zq (fun _=>?_) (fun h=>absurd h (by omega))
 have hgrow:qj P zew #[.pointer (some ⟨b,0,none⟩),.int .i64 (n:Int)] w2 fun e w'=>e=.returned (.tuple #[])∧Bd w'.heap H.size b []∧Ext [b] H w'.heap:=by
  refine zot ?_
  unfold zex
  refine jw rfl fun w3 hw3=>?_
  have hb3:w3.heap[b]?=some (.cells #[.pointer (some ⟨b,0,none⟩),.slice none 0 0] ji (0,0)):=by rw [hw3];exact hb2
  have hx3:Ext [b] H w3.heap:=by rw [hw3];exact hx2
  simp only [xq,jr,Nat.zero_add]
  refine jh (s:=.slc) (t:=(none,0,0)) rfl hb3 rfl ?_
  refine qm (s:=.int .i64) 0 (by kernel_rfl) ?_
  refine zfq 0 rfl (by omega) (by omega) ?_
  refine xu (n:Int) (by omega) (by omega) (by omega) ?_
  refine jh (s:=.slc) (t:=(none,0,0)) rfl hb3 rfl ?_
  obtain ⟨cs,hrun,hcs,hcs2⟩:=Lib.run_makeNoZero (P:=P) (w:=w3) #[zdf] zh qy uS8 n (by omega)
  refine qdx (l:=[.slc]) (some ⟨w3.heap.size,0,none⟩,n,cs.size) (w3.drew.drew.alloc (.cells cs qy)) (by rw [zi7 (e:=Extern.BytealgMakeNoZero.makeNoZero #[zdf] #[zh]) (by kernel_rfl),hrun];rfl) ⟨rfl,rfl,rfl,by show w3.drawn≤w3.drawn+1+1;omega⟩ ?_
  have hh4:(w3.drew.drew.alloc (.cells cs qy)).heap=w3.heap.push (.cells cs qy):=rfl
  generalize w3.drew.drew.alloc (.cells cs qy)=w4 at *
  have hx34:Ext [] w3.heap w4.heap:=by rw [hh4];exact .push _
  have hb4:=hx34.get hb3 (by simp)
  refine ⟨jh (s:=.slc) (t:=(none,0,0)) rfl hb4 rfl rfl,?_⟩
  have hne:cs.size ≠ 0:=by omega
  refine qm (s:=.slc) (some ⟨w3.heap.size,0,none⟩,0,cs.size) ((zaq (l:=0) (h:=0) uS8 sz8 .no (.yes rfl) (Nat.le_refl _) (Nat.zero_le _)).trans (by rw [if_neg hne];simp [jr,Sh.val])) ?_
  refine jh (s:=.slc) (t:=(none,0,0)) rfl hb4 rfl ?_
  have hg4:w4.heap[w3.heap.size]?=some (.cells cs qy (0,0)):=by rw [hh4];exact zn
  obtain ⟨w5,h5,hc5,hh5⟩:=qg5 (P:=P) (w:=w4) (ty:=zdf) (xt:=zh) (sa:=none) (sl:=0) (sc:=0) (dl:=0) (dc:=cs.size) (od:=0) (vs:=[]) uS8 sz8 rfl (.inl rfl) (by simp) (by intro v hv;cases hv) hg4 (by simp)
  refine zad (s:=.int .i64) ((min 0 0:Nat):Int) w5 h5 ?_ hc5
  have hh5':w5.heap=w4.heap:=by
   rw [hh5]
   apply Array.ext_getElem?
   intro i
   rw [Array.getElem?_setIfInBounds]
   by_cases e:w3.heap.size=i
   ·subst e;rw [if_pos rfl,hg4];simp [lt_of_get hg4,setCells]
   ·rw [if_neg e]
  refine zcd hh5' hb4 (by simp) fun w6 hw6=>?_
  have hx46:Ext [b] w4.heap w6.heap:=by rw [hw6];exact Ext.set _ (by simp)
  have hbl:=lt_of_get hb
  have h3:=hx3.1
  refine ⟨by trivial,⟨(some ⟨w3.heap.size,0,none⟩,0,cs.size),some ⟨b,0,none⟩,by rw [hw6];exact qw hb4,.inr rfl,hbl,.inr ⟨w3.heap.size,cs,rfl,by omega,hx46.get hg4 (by simp only [List.mem_singleton];omega),by simp,rfl,Nat.zero_le _,by simp [byteCells]⟩⟩,(hx3.trans (hx34.mono (by simp))).trans hx46⟩
 refine zl (l:=[]) hgrow ?_
 rintro e w7 ⟨rfl,h⟩
 exact ⟨(),rfl,by trivial,h⟩
theorem zj3 {w:World} {H:Heap} {lo b:Nat} {L M:List UInt8} (hw:w.heap=H) (hB:Bd H lo b L) (hlo:lo≤H.size) (hlen:L.length+M.length≤140737488351232) :
  qj P zao #[.pointer (some ⟨b,0,none⟩),.string (strOf M)] w fun e w'=>e=.returned (.tuple #[.int .i64 (M.length:Int),.nilIface])∧Bd w'.heap lo b (L++M)∧∃ F,Ext F H w'.heap∧∀ c ∈ F,c=b ∨ lo≤c:=by
 obtain ⟨x,p,hb,hp,hbl,hm⟩:=hB
 refine ziw ?_
 unfold zc2
 refine zl (l:=[]) (zxp hw hb hp) ?_
 rintro e w1 ⟨rfl,hb1,hx1⟩
 refine ⟨(),rfl,?_⟩
 have hm1:Mine w1.heap lo qy 1 x (byteCells L):=hm.ext hx1 (fun c hc=>by have:=jc hm c hc;simp only [List.mem_singleton];omega)
 have hxl:x.2.1=L.length:=by have:=hm.len;simp at this;omega
 simp only [xq,jr,Nat.zero_add]
 refine jh (s:=.slc) (t:=x) rfl hb1 rfl ?_
 refine zcq E8 (by omega) uS8 ⟨_,z0e,by intro k h;cases h⟩ rfl hm1 (by have:=hx1.1;omega) (n:=M.length) (us:=byteCells M) Src.str vg (by omega) ?_
 intro x' w2 hm2 hl2 hx2 hs2
 have hb2:=hx2.get hb1 (fun h=>by have:=jc hm1 _ h;omega)
 refine zcd rfl hb2 (by simp) fun w3 hw3=>?_
 have hx3:Ext [b] w2.heap w3.heap:=by rw [hw3];exact Ext.set _ (by simp)
 refine ⟨rfl,⟨x',some ⟨b,0,none⟩,by rw [hw3];exact qw hb2,.inr rfl,hbl,?_⟩,[b]++xw x,((hx1.mono (by simp)).trans (hx2.mono fun c hc=>List.mem_append_right _ hc)).trans (hx3.mono (by simp)),fun c hc=>?_⟩
 ·rw [← byteCells_append]
  exact hm2.ext hx3 (fun c hc=>by have:=jc hm2 c hc;simp only [List.mem_singleton];omega)
 ·rcases List.mem_append.1 hc with hc | hc
  ·simp only [List.mem_singleton] at hc;exact .inl hc
  ·exact .inr (jc hm1 c hc)
theorem qdy {w:World} {a:Addr} {n:Nat}:Ext [a.block] w.heap (w.freeze a n).heap:=by
 unfold World.freeze
 split
 ·exact .refl _ _
 ·refine ⟨by simp,fun b _ hn=>?_⟩
  simp only
  rw [Array.getElem?_modify,if_neg (fun e=>hn (by simp [e]))]
theorem string_c {w:World} {H:Heap} {lo b:Nat} {L:List UInt8} (hw:w.heap=H) (hB:Bd H lo b L) (hL:L ≠ []) (hlen:L.length≤140737488351232) :
  qj P zbq #[.pointer (some ⟨b,0,none⟩)] w fun e w'=>e=.returned (.string (strOf L))∧∃ F,Ext F H w'.heap∧∀ c ∈ F,lo≤c:=by
 obtain ⟨x,p,hb,hp,hbl,hm⟩:=hB
 refine zf0 ?_
 unfold zc0
 refine jw hw fun w1 hw1=>?_
 simp only [xq,jr,Nat.zero_add]
 refine jh (s:=.slc) (t:=x) hw1 hb rfl ?_
 refine jh (s:=.slc) (t:=x) hw1 hb rfl ?_
 have hxl:x.2.1=L.length:=by have:=hm.len;simp at this;omega
 have hpos:0 < L.length:=by cases L with | nil=>exact absurd rfl hL | cons a l=>simp
 have hcs:=hm.cells
 rcases hm with ⟨rfl,h⟩ | ⟨g,c,hxa,hge,hg,hcz,hvl,hle,he⟩
 ·simp at hxl;omega
 obtain ⟨xa,xl,xc⟩:=x
 simp only at hxl hxa hle hcz
 subst hxa hxl
 have hxc:xc ≠ 0:=by omega
 refine zad (s:=.ptr) (some ⟨g,0,none⟩) w1 (Lib.run_unsafeSliceData_row w1 _ _ _ _ _ hxc) ?_
 refine ⟨jh (s:=.slc) (t:=(some ⟨g,0,none⟩,L.length,xc)) hw1 hb rfl rfl,?_⟩
 refine zad (s:=.str) (strOf L) (w1.freeze ⟨g,0,none⟩ L.length) (Lib.run_unsafeString_row w1 zt2 zdf qc qy up8 c8 g c.size (qh6 hw1 hg) L hL (by omega) (by omega) fun j y hj=>?_) ?_ ?_
 ·have:=z3e (a:=⟨g,0,none⟩) hw1 hcs (i:=j) (v:=.int .u8 (y.toNat:Int)) (by simp [byteCells,hj])
  exact this
 ·refine ⟨rfl,[g],by rw [← hw1];exact qdy,fun c hc=>by simp only [List.mem_singleton] at hc;omega⟩
 ·unfold World.freeze;split <;> exact ⟨rfl,rfl,rfl,Nat.le_refl _⟩
def joinP:Path→List UInt8
 | []=>[]
 | x :: xs=>x++xs.flatMap fun L=>47 :: L
def vw (p:Path):List UInt8:=47 :: joinP p
def tlen (p:Path):Nat:=(p.map (·.length)).sum
theorem zz7:∀ {p:Path},(p.flatMap fun L=>(47:UInt8) :: L).length=tlen p+p.length
 | []=>rfl
 | x :: p=>by
  have:=zz7 (p:=p)
  simp only [List.flatMap_cons,List.length_append,List.length_cons,tlen,List.map_cons,List.sum_cons] at this ⊢
  omega
theorem zxy {x:List UInt8} {p:Path}:(joinP (x :: p)).length=tlen (x :: p)+p.length:=by
 simp only [joinP,List.length_append,zz7,tlen,List.map_cons,List.sum_cons]
 omega
theorem qgl {x:List UInt8} {p:Path}:vw (x :: p)=(x :: p).flatMap fun L=>47 :: L:=by simp [vw,joinP]
theorem z9l {p:Path} {i:Nat} (h:i < p.length):tlen (p.take (i+1))=tlen (p.take i)+(p[i]).length:=by
 unfold tlen
 rw [List.take_add_one,List.getElem?_eq_getElem h,List.map_append,List.sum_append]
 simp
theorem zwp {p:Path} {i:Nat}:tlen (p.take i)≤tlen p:=by
 conv=>rhs;rw [← List.take_append_drop i p]
 unfold tlen
 rw [List.map_append,List.sum_append]
 omega
set_option maxHeartbeats 4000000 in
theorem qmh {w:World} {H:Heap} {a:Option Addr} {n nc:Nat} {p:Path} (hw:w.heap=H) (hL:Cells H a (strRow p)) (hn:n=p.length) (hnc:n≤nc) (hlen:tlen p+p.length≤1099511627776) :
  qj P zlu #[.slice a n nc,.string (ByteArray.mk #[47])] w fun e w'=>e=.returned (.string (strOf (joinP p)))∧Ext [] H w'.heap:=by
 refine zy9 ?_
 unfold zmb
 have hsep:(ByteArray.mk #[47]:ByteArray)=strOf [47]:=rfl
 have hsz:((ByteArray.mk #[47]:ByteArray).size:Int)=1:=rfl
 match p,hL,hn,hlen with
 | [],hL,hn,hlen =>
  subst hn
  exact zab rfl ⟨rfl,by rw [hw];exact .refl _ _⟩
 | [x],hL,hn,hlen =>
  subst hn
  refine jl rfl ?_
  refine zab rfl ?_
  refine z1o (i:=0) hw hL rfl (by simp) rfl ?_
  exact ⟨by simp [joinP],by rw [hw];exact .refl _ _⟩
 | x :: y :: p,hL,hn,hlen =>
  generalize hq:x :: y :: p=q at *
  have hql:q.length=p.length+2:=by rw [← hq];simp
  have hjl:(joinP q).length=tlen q+(q.length - 1):=by rw [← hq,zxy];simp
  refine jl (by simp;omega) ?_
  refine jl (by simp;omega) ?_
  refine joinP_of (fun (s:Int) W=>s=((q.length - 1:Nat):Int)∧W=w) ?_ ?_
  ·refine zab rfl ?_
   refine zac ?_
   refine zbu ((q.length - 1:Nat):Int) (by omega) (by omega) (by omega) ?_
   refine zyl 9223372036854775807 (q.length - 1) rfl rfl (by omega) (by omega) ?_
   have hdiv:2≤9223372036854775807 / (q.length - 1):=by
    rw [Nat.le_div_iff_mul_le (by omega)];omega
   refine zq (fun h=>absurd h (by rw [hsz];omega)) (fun _=>?_)
   refine zbu ((q.length - 1:Nat):Int) (by omega) (by omega) (by omega) ?_
   refine zfq ((q.length - 1:Nat):Int) (by rw [hsz];omega) (by omega) (by omega) ?_
   refine xu ((q.length - 1:Nat):Int) (by omega) (by omega) (by omega) ?_
   exact ⟨rfl,rfl⟩
  rintro _ w ⟨rfl,rfl⟩
  refine jd (fun (s:Int × Int) W=>∃ i:Nat,s=(((q.length - 1+tlen (q.take i):Nat):Int),(i:Int))∧i≤q.length∧W=w) (fun s _=>(q.length - s.2).toNat) ⟨0,by simp [tlen],Nat.zero_le _,rfl⟩ ?_
  rintro _ w ⟨i,rfl,hi,rfl⟩
  refine zq (fun hlt=>?_) (fun hge=>?_)
  ·have hil:i < q.length:=by simp only at hlt;omega
   have ht1:=z9l hil
   have ht2:=zwp (p:=q) (i:=i+1)
   refine zac ?_
   refine z1o hw hL hn hil rfl ?_
   refine zac ?_
   refine zbu (9223372036854775807 - ((q.length - 1+tlen (q.take i):Nat):Int)) rfl (by omega) (by omega) ?_
   refine zq (fun h=>absurd h (by simp only [jy];omega)) (fun _=>?_)
   refine xu ((q.length - 1+tlen (q.take (i+1)):Nat):Int) (by simp only [jy];omega) (by omega) (by omega) ?_
   refine xu ((i+1:Nat):Int) (by omega) (by omega) (by omega) ?_
   exact ⟨⟨i+1,rfl,by omega,rfl⟩,by simp only;omega⟩
  have hie:i=q.length:=by simp only at hge;omega
  subst hie
  rw [List.take_length]
  refine jv hw fun w1 hw1=>?_
  rw [zcB] at hw1
  have hb1:w1.heap[H.size]?=some (.cells #[.pointer none,.slice none 0 0] ji (0,0)):=by rw [hw1];exact zn
  have hx1:Ext [] H w1.heap:=by rw [hw1];exact .push _
  refine zl (l:=[]) (qm7 rfl hb1 (by omega) (by omega)) ?_
  rintro e w2 ⟨rfl,hB2,hx2⟩
  refine ⟨(),rfl,?_⟩
  have hlo:H.size < w1.heap.size:=lt_of_get hb1
  have hs2:=hx2.1
  have hx02:Ext [] H w2.heap:=hx1.own hx2 (by intro b hb hlt;simp at hb;omega)
  have h0q:0 < q.length:=by omega
  refine z1o (i:=0) rfl (hL.ext hx02 (by simp)) hn h0q rfl ?_
  have hq0:q[0]=x:=by simp only [← hq,List.getElem_cons_zero]
  have hqd:q.drop 1=y :: p:=by rw [← hq];rfl
  have htx:x.length≤tlen q:=by rw [← hq];simp [tlen]
  rw [hq0]
  refine zl (zj3 rfl hB2 hs2 (by simp;omega)) ?_
  rintro e w3 ⟨rfl,hB3,F3,hx3,hF3⟩
  refine ⟨((x.length:Int),.nilIface),rfl,?_⟩
  have hx03:Ext [] H w3.heap:=hx02.own hx3 (by intro b hb hlt;rcases hF3 b hb with h | h <;> omega)
  have hs3:=hx3.1
  have hdr:=(hL.ext hx03 (by simp)).drop 1 nc (by simp;omega)
  rw [zzu] at hdr
  refine qm (s:=.slc) (if nc=1 then a else a.map (·.add (1 * 1)),n - 1,nc - 1) (zaq (l:=1) (h:=n) zw5 qfv (.yes rfl) .no (by omega) (by omega)) ?_
  rw [List.nil_append] at hB3
  have hdl:(q.drop 1).length=n - 1:=by simp;omega
  refine jd (fun (s:Int) W=>∃ i:Nat,s=(i:Int)∧i≤n - 1∧Ext [] H W.heap∧w1.heap.size≤W.heap.size∧Bd W.heap w1.heap.size H.size (x++((q.drop 1).take i).flatMap fun L=>47 :: L)) (fun s _=>((n - 1:Nat) - s).toNat) ⟨0,rfl,Nat.zero_le _,hx03,by omega,by simpa using hB3⟩ ?_
  rintro _ W ⟨i,rfl,hi,hxW,hsW,hBW⟩
  have hjl2:(joinP q).length=x.length+((q.drop 1).flatMap fun L=>(47:UInt8) :: L).length:=by rw [← hq];simp [joinP]
  refine zq (fun hlt=>?_) (fun hge=>?_)
  ·have hil:i < (q.drop 1).length:=by simp only at hlt;omega
   have htk:((q.drop 1).take (i+1)).flatMap (fun L=>(47:UInt8) :: L)=((q.drop 1).take i).flatMap (fun L=>47 :: L)++(47 :: (q.drop 1)[i]):=by
    rw [List.take_add_one,List.getElem?_eq_getElem hil,List.flatMap_append];simp
   have htl:(((q.drop 1).take (i+1)).flatMap fun L=>(47:UInt8) :: L).length≤((q.drop 1).flatMap fun L=>(47:UInt8) :: L).length:=by
    conv=>rhs;rw [← List.take_append_drop (i+1) (q.drop 1),List.flatMap_append,List.length_append]
    omega
   rw [htk] at htl
   simp only [List.length_append,List.length_cons] at htl
   have hdrW:Cells W.heap (if nc=1 then a else a.map (·.add (1 * 1))) (strRow (q.drop 1)):=by
    have:=(hL.ext hxW (by simp)).drop 1 nc (by simp;omega)
    rwa [zzu] at this
   refine z1o rfl hdrW hdl.symm hil rfl ?_
   rw [hsep]
   refine zl (zj3 rfl hBW hsW (by simp only [List.length_append,List.length_cons,List.length_nil];omega)) ?_
   rintro e w4 ⟨rfl,hB4,F4,hx4,hF4⟩
   refine ⟨(1,.nilIface),rfl,?_⟩
   have hx04:Ext [] H w4.heap:=hxW.own hx4 (by intro b hb hlt;rcases hF4 b hb with h | h <;> omega)
   refine zl (zj3 rfl hB4 (Nat.le_trans hsW hx4.1) (by simp only [List.length_append,List.length_cons,List.length_nil];omega)) ?_
   rintro e w5 ⟨rfl,hB5,F5,hx5,hF5⟩
   refine ⟨(((q.drop 1)[i].length:Int),.nilIface),rfl,?_⟩
   refine xu ((i+1:Nat):Int) (by omega) (by omega) (by omega) ?_
   refine ⟨⟨i+1,rfl,by omega,hx04.own hx5 (by intro b hb hlt;rcases hF5 b hb with h | h <;> omega),Nat.le_trans hsW (Nat.le_trans hx4.1 hx5.1),?_⟩,by omega⟩
   rw [htk]
   simpa using hB5
  ·have hie:i=(q.drop 1).length:=by simp only at hge;omega
   subst hie
   rw [List.take_length] at hBW
   have hjj:x++(q.drop 1).flatMap (fun L=>(47:UInt8) :: L)=joinP q:=by rw [← hq];rfl
   rw [hjj] at hBW
   refine zl (string_c rfl hBW (by intro h;rw [h] at hjl;simp at hjl;omega) (by omega)) ?_
   rintro e w6 ⟨rfl,F6,hx6,hF6⟩
   refine ⟨strOf (joinP q),rfl,?_⟩
   exact ⟨rfl,hxW.own hx6 (by intro b hb hlt;have:=hF6 b hb;omega)⟩
theorem z16 {w:World} {H:Heap} {a:Option Addr} {n nc:Nat} {p:Path} (hw:w.heap=H) (hL:Cells H a (strRow p)) (hn:n=p.length) (hnc:n≤nc) (hlen:tlen p+p.length≤1099511627776) :
  qj P zca #[.slice a n nc] w fun e w'=>e=.returned (.string (strOf (vw p)))∧Ext [] H w'.heap:=by
 refine z5e ?_
 unfold zp5
 refine zl (qmh hw hL hn hnc hlen) ?_
 rintro e w1 ⟨rfl,hx⟩
 refine ⟨strOf (joinP p),rfl,?_⟩
 have hjl:(joinP p).length≤tlen p+p.length:=by
  cases p with
  | nil=>simp [joinP]
  | cons x p=>rw [zxy];simp
 exact zyq (A:=[47]) (by simp;omega) ⟨rfl,hx⟩
theorem qlf {w:World} {H:Heap} {a:Option Addr} {n nc:Nat} {p:Path} (hw:w.heap=H) (hL:Cells H a (strRow p)) (hn:n=p.length) (hlen:tlen p+p.length≤1099511627776) :
  qj P zqq #[.slice a n nc] w fun e w'=>e=.returned (.string (strOf (vw p)))∧w'=w:=by
 refine qbu ?_
 unfold zvy
 cases p with
 | nil =>
  subst hn
  exact zab rfl ⟨rfl,rfl⟩
 | cons x p =>
  rw [qgl]
  generalize hq:x :: p=q at *
  have hql:q.length=p.length+1:=by rw [← hq];simp
  refine jl (by simp;omega) ?_
  refine jd (fun (s:ByteArray × Int) W=>∃ i:Nat,s=(strOf ((q.take i).flatMap fun L=>47 :: L),(i:Int))∧i≤q.length∧W=w) (fun s _=>(q.length - s.2).toNat) ⟨0,rfl,Nat.zero_le _,rfl⟩ ?_
  rintro _ w ⟨i,rfl,hi,rfl⟩
  refine zq (fun hlt=>?_) (fun hge=>?_)
  ·have hil:i < q.length:=by simp only at hlt;omega
   have ht1:=z9l hil
   have ht2:=zwp (p:=q) (i:=i+1)
   have hfl:((q.take i).flatMap fun L=>(47:UInt8) :: L).length=tlen (q.take i)+i:=by rw [zz7];simp;omega
   refine zyq (B:=[47]) (by rw [hfl];simp;omega) ?_
   refine z1o hw hL hn hil rfl ?_
   refine zyq (by rw [List.length_append,hfl];simp;omega) ?_
   refine xu ((i+1:Nat):Int) (by omega) (by omega) (by omega) ?_
   refine ⟨⟨i+1,?_,by omega,rfl⟩,by simp only;omega⟩
   rw [List.take_add_one,List.getElem?_eq_getElem hil,List.flatMap_append];simp
  ·have hie:i=q.length:=by simp only at hge;omega
   subst hie
   rw [List.take_length]
   exact ⟨rfl,rfl⟩
end Go.Proofs.YtbmegmbnlajbbaaGreatDoor
namespace Go.Fw
open Go
def qnd (P:Program) {α:Type} (gv:Value) (S:List α→Prop) (nx:List α→α→Prop) (enc:α→Array Value) (fp A:List Nat) (w:World):Prop :=
 ∃ gf lb,gv=.func (.func gf) #[] lb∧∀ (l:Nat) (I:List α→World→Prop) (J:World→Prop) (w1:World) (M:List Nat),
  Ext [] w.heap w1.heap→(∀ b ∈ M,b < w1.heap.size∧b ∉ fp)→(∀ pre W W',I pre W→Beside w1.heap.size W W'→I pre W')→(∀ pre W W',I pre W→Ext A W.heap W'.heap→I pre W')→I [] w1 →
  (∀ pre x W,nx pre x→I pre W→zwe P l (enc x) W fun e W'=>Keep M w1.heap.size W.heap W'.heap∧((e=.returned (.bool true)∧I (pre++[x]) W') ∨ (e=.returned (.bool false)∧J W'))) →
  qj P gf (#[.func (.yield l) #[] #[]]++lb) w1 fun e W=>(∃ v,e=.returned v)∧((∃ xs,S xs∧I xs W) ∨ J W)
theorem qnd.later {P:Program} {α:Type} {gv:Value} {S:List α→Prop} {nx:List α→α→Prop} {enc:α→Array Value} {fp A:List Nat} {w w':World} (h:qnd P gv S nx enc fp A w) (hx:Ext [] w.heap w'.heap):qnd P gv S nx enc fp A w':=by
 obtain ⟨gf,lb,hg,h⟩:=h
 exact ⟨gf,lb,hg,fun l I J w1 M h1=>h l I J w1 M (hx.trans h1)⟩
theorem qg8 {P:Program} {α:Type} {gv:Value} {S:List α→Prop} {nx:List α→α→Prop} {shs:List Sh} {tv:α→Tup shs} {fp:List Nat} {w:World}
  {body:Tup shs→World→(World→(World→Prop)→Prop)→(World→Prop)→(World→Prop)→(Nat→World→Prop)→Prop} {done ret:Nat→World→Prop} {ext:Nat→Nat→World→Prop}
  {A:List Nat} (hseq:qnd P gv S nx (fun x=>(Tup.vals shs (tv x)).toArray) fp A w) (hA:∀ b ∈ A,b ∈ fp) (M:List Nat) (hM:∀ b ∈ M,b < w.heap.size∧b ∉ fp) (hfp:∀ b ∈ fp,b < w.heap.size)
  (I:List α→World→Prop) (Jr:World→Prop) (Jx:Nat→World→Prop)
  (hI:∀ pre W W',I pre W→Beside w.heap.size W W'→I pre W') (hJr:∀ W W',Jr W→Beside w.heap.size W W'→Jr W') (hJx:∀ i W W',Jx i W→Beside w.heap.size W W'→Jx i W')
  (hIA:∀ pre W W',I pre W→Ext A W.heap W'.heap→I pre W') (h0:I [] w)
  (hbody:∀ pre x W,nx pre x→I pre W→w.heap.size+2≤W.heap.size→∀ (beg:World→(World→Prop)→Prop) (kc kr:World→Prop) (kx:Nat→World→Prop),
   (∀ W1 (K:World→Prop),Ext [] W.heap W1.heap→(∀ W2,Beside w.heap.size W1 W2→W2.heap.size=W1.heap.size →
    (∀ W3,Keep M w.heap.size W2.heap W3.heap→I (pre++[x]) W3→kc W3)→(∀ W3,Keep M w.heap.size W2.heap W3.heap→Jr W3→kr W3)→(∀ i W3,Keep M w.heap.size W2.heap W3.heap→Jx i W3→kx i W3)→K W2)→beg W1 K) →
   body (tv x) W beg kc kr kx)
  (hdone:∀ xs W,S xs→I xs W→W.heap[w.heap.size]?=some (.deferred (some []))→done w.heap.size W)
  (hret:∀ W,Jr W→W.heap[w.heap.size]?=some (.deferred (some []))→ret w.heap.size W)
  (hext:∀ i W,Jx i W→W.heap[w.heap.size]?=some (.deferred (some []))→ext i w.heap.size W) :
  z3d P shs gv w body done ret ext:=by
 obtain ⟨gf,lb,hg,hseq⟩:=hseq
 refine ⟨gf,lb,hg,fun oD oL oB oX oE hD hno w1 hw1 hY=>?_⟩
 obtain ⟨hnL,hnB,hnX,hnE⟩:=hno
 have hx1:Ext [] w.heap w1.heap:=by rw [hw1];exact (Ext.push _).trans (Ext.push _)
 have hs1:w1.heap.size=w.heap.size+2:=by rw [hw1];simp
 have hD1:w1.heap[w.heap.size]?=some oD:=by rw [hw1];exact zeg zn
 have hL1:w1.heap[w.heap.size+1]?=some oL:=by
  rw [hw1]
  have:=zn (H:=w.heap.push oD) (o:=oL)
  simpa using this
 have hDc:zk9 oD:=by rw [hD];intro c T fr h;cases h
 have key:∀ {W W':World} {r:Nat} {o:Obj},(∀ o,W.heap[r]?=some o→zk9 o)→w1.heap.size≤r→Ext [r] W.heap W'.heap→∀ b,b < w.heap.size+2→W.heap[b]?=some o→W'.heap[b]?=some o :=
  fun _ hr hx b hb hbo=>hx.get hbo (by simp;omega)
 refine (hseq (w.heap.size+1)
  (fun pre W=>I pre W∧W.heap[w.heap.size]?=some oD∧W.heap[w.heap.size+1]?=some oL)
  (fun W=>W.heap[w.heap.size]?=some oD∧((Jr W∧W.heap[w.heap.size+1]?=some (oX .ret)) ∨ ∃ i,Jx i W∧W.heap[w.heap.size+1]?=some (oX (.exit i))))
  w1 ((w.heap.size+1) :: M) hx1 ?_ ?_ ?_ ⟨hI _ _ _ h0 (.new (Nat.le_refl _) hx1),hD1,hL1⟩ ?_).mono ?_
 ·intro b hb
  rcases List.mem_cons.1 hb with rfl | hb
  ·exact ⟨by omega,fun h=>by have:=hfp _ h;omega⟩
  ·exact ⟨by have:=(hM b hb).1;omega,(hM b hb).2⟩
 ·rintro pre W W' ⟨h1,h2,h3⟩ hA
  have hA':=hA
  obtain ⟨r,hr,hn,hx⟩:=hA'
  exact ⟨hI _ _ _ h1 (hA.mono (by omega)),key hn hr hx _ (by omega) h2,key hn hr hx _ (by omega) h3⟩
 ·rintro pre W W' ⟨h1,h2,h3⟩ hx
  exact ⟨hIA _ _ _ h1 hx,hx.get h2 (fun h=>by have:=hfp _ (hA _ h);omega),hx.get h3 (fun h=>by have:=hfp _ (hA _ h);omega)⟩
 ·rintro pre x W hnx ⟨h1,h2,h3⟩
  have hlt:w.heap.size+1 < W.heap.size:=(Array.getElem?_eq_some_iff.1 h3).1
  refine hY (tv x) W _ h3 (hbody pre x W hnx h1 (by omega) _ _ _ _ ?_)
  intro W1 K hxW1 hK
  have h31:W1.heap[w.heap.size+1]?=some oL:=hxW1.get h3 (by simp)
  have h21:W1.heap[w.heap.size]?=some oD:=hxW1.get h2 (by simp)
  refine ⟨h31,fun W2 hW2=>?_⟩
  have hlt1:w.heap.size+1 < W1.heap.size:=(Array.getElem?_eq_some_iff.1 h31).1
  have hh2:W2.heap=W1.heap.setIfInBounds (w.heap.size+1) oB:=by rw [hW2,zb2]
  have h32:W2.heap[w.heap.size+1]?=some oB:=by rw [hh2];exact Array.getElem?_setIfInBounds_self_of_lt hlt1
  have h22:W2.heap[w.heap.size]?=some oD:=by rw [hh2,Array.getElem?_setIfInBounds_ne (by omega)];exact h21
  have fin:∀ (o':Obj) (W3:World),Keep M w.heap.size W2.heap W3.heap→W3.heap[w.heap.size+1]?=some oB∧Keep ((w.heap.size+1) :: M) w1.heap.size W.heap (W3.putObj (w.heap.size+1) o').heap∧(W3.putObj (w.heap.size+1) o').heap[w.heap.size]?=some oD ∧
    (W3.putObj (w.heap.size+1) o').heap[w.heap.size+1]?=some o'∧Beside w.heap.size W3 (W3.putObj (w.heap.size+1) o'):=by
   intro o' W3 hx3
   have h33:W3.heap[w.heap.size+1]?=some oB:=hx3.2.2 _ _ (by omega) h32 hnB
   have h23:W3.heap[w.heap.size]?=some oD:=hx3.2.2 _ _ (Nat.le_refl _) h22 hDc
   have hlt3:w.heap.size+1 < W3.heap.size:=(Array.getElem?_eq_some_iff.1 h33).1
   have hn2:∀ b,b ≠ w.heap.size+1→W2.heap[b]?=W1.heap[b]?:=fun b hb=>by rw [hh2];exact Array.getElem?_setIfInBounds_ne (Ne.symm hb)
   have hn4:∀ b,b ≠ w.heap.size+1→(W3.putObj (w.heap.size+1) o').heap[b]?=W3.heap[b]?:=fun b hb=>by rw [zb2];exact Array.getElem?_setIfInBounds_ne (Ne.symm hb)
   have hs2:W2.heap.size=W1.heap.size:=by rw [hh2];simp
   refine ⟨h33,⟨?_,?_,?_⟩,?_,?_,.put (by omega) h33 hnB⟩
   ·rw [zb2]
    have:=hxW1.1;have:=hx3.1
    simp;omega
   ·intro b hb hl hn
    simp only [List.mem_cons,not_or] at hn
    rw [hn4 b hn.1]
    by_cases hbD:b=w.heap.size
    ·rw [hbD,h23,h2]
    ·rw [hx3.2.1 b (by omega) (by have:=hxW1.1;omega) hn.2,hn2 b hn.1]
     exact hxW1.2 b hl (by simp)
   ·intro b o hb ho hno
    rw [hn4 b (by omega)]
    exact hx3.2.2 b o (by omega) (by rw [hn2 b (by omega)];exact hxW1.get ho (by simp)) hno
   ·rw [hn4 _ (by omega)];exact h23
   ·rw [zb2];exact Array.getElem?_setIfInBounds_self_of_lt hlt3
  refine hK W2 (by rw [hW2];exact .put (by omega) h31 hnL) (by rw [hh2];simp) (fun W3 hx3 h=>?_) (fun W3 hx3 h=>?_) (fun i W3 hx3 h=>?_)
  ·obtain ⟨a,b,c,d,e⟩:=fin oL W3 hx3
   exact ⟨a,b,.inl ⟨rfl,hI _ _ _ h e,c,d⟩⟩
  ·obtain ⟨a,b,c,d,e⟩:=fin (oX .ret) W3 hx3
   exact ⟨a,b,.inr ⟨rfl,c,.inl ⟨hJr _ _ h e,d⟩⟩⟩
  ·obtain ⟨a,b,c,d,e⟩:=fin (oX (.exit i)) W3 hx3
   exact ⟨a,b,.inr ⟨rfl,c,.inr ⟨i,hJx _ _ _ h e,d⟩⟩⟩
 ·have put:∀ {W:World} {o o':Obj},W.heap[w.heap.size]?=some oD→(W.putObj (w.heap.size+1) o').heap[w.heap.size]?=some (.deferred (some [])):=by
   intro W o o' h
   rw [zb2,Array.getElem?_setIfInBounds_ne (by omega),h,hD]
  rintro e W ⟨hv,⟨xs,hS,h1,h2,h3⟩ | ⟨h2,⟨h1,h3⟩ | ⟨i,h1,h3⟩⟩⟩
  ·exact ⟨hv,.inl ⟨h3,hdone xs _ hS (hI _ _ _ h1 (.put (by omega) h3 hnL)) (put (o:=oD) h2)⟩⟩
  ·exact ⟨hv,.inr (.inl ⟨h3,hret _ (hJr _ _ h1 (.put (by omega) h3 (hnX _))) (put (o:=oD) h2)⟩)⟩
  ·exact ⟨hv,.inr (.inr ⟨i,h3,hext i _ (hJx _ _ _ h1 (.put (by omega) h3 (hnX _))) (put (o:=oD) h2)⟩)⟩
end Go.Fw
namespace Go.Proofs.YtbmegmbnlajbbaaGreatDoor
open Go Go.Fw Go.Proofs
def pieces:List UInt8→List (List UInt8)
 | []=>[]
 | c :: L=>if c=47 then [] :: pieces L else match pieces L with | []=>[[c]] | p :: ps=>if L.head?=some 47 then [c] :: ps else (c :: p) :: ps
theorem zj9:∀ {p r:List UInt8},(47:UInt8) ∉ p→pieces (p++47 :: r)=p :: pieces r
 | [],r,_=>by simp [pieces]
 | c :: p,r,h=>by
  have hc:c ≠ 47:=fun e=>h (by simp [e])
  have ih:=zj9 (p:=p) (r:=r) (fun hm=>h (by simp [hm]))
  rw [List.cons_append,pieces,if_neg hc,ih]
  cases p with
  | nil=>simp
  | cons d p =>
   have hd:d ≠ 47:=fun e=>h (by simp [e])
   simp [hd]
theorem zny:∀ {p:List UInt8},(47:UInt8) ∉ p→p ≠ []→pieces p=[p]
 | [],_,h=>absurd rfl h
 | [c],h,_=>by
  have hc:c ≠ 47:=fun e=>h (by simp [e])
  simp [pieces,hc]
 | c :: d :: p,h,_=>by
  have hc:c ≠ 47:=fun e=>h (by simp [e])
  have hd:d ≠ 47:=fun e=>h (by simp [e])
  have ih:=zny (p:=d :: p) (fun hm=>h (by simp [hm])) (by simp)
  rw [pieces,if_neg hc,ih]
  simp [hd]
theorem qh1 (L:List UInt8):(47:UInt8) ∉ L ∨ ∃ p r,L=p++47 :: r∧(47:UInt8) ∉ p:=by
 induction L with
 | nil=>left;simp
 | cons c L ih =>
  by_cases hc:c=47
  ·right;exact ⟨[],L,by simp [hc],by simp⟩
  ·rcases ih with h | ⟨p,r,h1,h2⟩
   ·left;simp [h,Ne.symm hc]
   ·right;exact ⟨c :: p,r,by simp [h1],by simp [h2,Ne.symm hc]⟩
theorem qgs:∀ {L:List UInt8},(47:UInt8) ∉ L→Lib.indexByte L 47=-1
 | [],_=>rfl
 | c :: L,h=>by
  have hc:¬ c=47:=fun e=>h (by simp [e])
  have ih:=qgs (L:=L) (fun hm=>h (by simp [hm]))
  simp [Lib.indexByte,hc,ih]
theorem qhf:∀ {p r:List UInt8},(47:UInt8) ∉ p→Lib.indexByte (p++47 :: r) 47=(p.length:Int)
 | [],r,_=>by simp [Lib.indexByte]
 | c :: p,r,h=>by
  have hc:¬ c=47:=fun e=>h (by simp [e])
  have ih:=qhf (p:=p) (r:=r) (fun hm=>h (by simp [hm]))
  simp only [List.cons_append,Lib.indexByte,ih]
  have h1:(c == (47:UInt8))=false:=by simp [hc]
  have h2:((p.length:Int) == -1)=false:=by simp
  rw [h1,h2]
  simp
theorem cut_c {w:World} (L:List UInt8) (hlen:L.length≤1099511627776):qj P zoy #[.string (strOf L),.string (ByteArray.mk #[47])] w fun e w' =>
  ∃ p r b,e=.returned (.tuple #[.string (strOf p),.string (strOf r),.bool b])∧w'.heap=w.heap∧(((47:UInt8) ∉ L∧p=L∧r=[]) ∨ (L=p++47 :: r∧(47:UInt8) ∉ p)):=by
 have hsep:(ByteArray.mk #[47]:ByteArray)=strOf [47]:=rfl
 refine z1x ?_
 unfold znq
 have hix:qj P zc9 #[.string (strOf L),.string (ByteArray.mk #[47])] w fun e w'=>e=.returned (.int .i64 (Lib.indexByte L 47))∧w'=w:=by
  refine ziy ?_
  unfold zc7
  refine zac ?_
  refine zac ?_
  refine jl rfl ?_
  refine zfc (p:=L=[47]) (by rw [z88,zau,beq_iff_eq];exact eq_comm) (fun h=>⟨by rw [h];rfl,rfl⟩) (fun _=>?_)
  refine zab rfl ?_
  rw [hsep]
  refine zpe (L:=[47]) 0 rfl (by simp) ?_
  have h2:qj P za8 #[.string (strOf L),.int .u8 47] w fun e w'=>e=.returned (.int .i64 (Lib.indexByte L 47))∧w'=w:=by
   refine zhb ?_
   unfold zcc
   refine zxm (l:=[.int .i64]) (Lib.indexByte L 47) ?_ ⟨rfl,rfl⟩
   rw [zgw (e:=Extern.BytealgIndexByte.indexByte) (by kernel_rfl),Lib.run_indexByteString]
   rfl
  refine zl h2 ?_
  rintro e w' ⟨rfl,rfl⟩
  exact ⟨_,rfl,rfl,rfl⟩
 have hcut:qj P zdk #[.string (strOf L),.string (ByteArray.mk #[47])] w fun e w' =>
  ∃ p r b,e=.returned (.tuple #[.string (strOf p),.string (strOf r),.bool b])∧w'.heap=w.heap∧(((47:UInt8) ∉ L∧p=L∧r=[]) ∨ (L=p++47 :: r∧(47:UInt8) ∉ p)):=by
  refine zkj ?_
  unfold zdl
  refine zl hix ?_
  rintro e w' ⟨rfl,rfl⟩
  refine ⟨_,rfl,?_⟩
  rcases qh1 L with h | ⟨p,r,rfl,h⟩
  ·rw [qgs h]
   refine jl rfl ?_
   exact ⟨L,[],false,rfl,rfl,.inl ⟨h,rfl,rfl⟩⟩
  ·rw [qhf h]
   refine zab (by simp) ?_
   refine jw rfl fun w2 hw2=>?_
   simp only [List.length_append,List.length_cons] at hlen
   refine xu ((p.length+1:Nat):Int) (by rw [hsep,jy];simp) (by omega) (by omega) ?_
   refine qm (s:=.str) _ (zz1 (l:=0) (h:=p.length) z0e .no (.yes rfl) (Nat.zero_le _) (by simp)) ?_
   refine qm (s:=.str) _ (zz1 (l:=p.length+1) (h:=(p++47 :: r).length) z0e (.yes rfl) .no (by simp) (Nat.le_refl _)) ?_
   refine ⟨p,r,true,?_,hw2,.inr ⟨rfl,h⟩⟩
   rw [List.take_left,List.drop_zero,List.take_length,show p++47 :: r=(p++[47])++r by simp,List.drop_left' (by simp)]
 refine zl hcut ?_
 rintro e w' ⟨p,r,b,rfl,h1,h2⟩
 refine ⟨(strOf p,strOf r,b),rfl,?_⟩
 exact ⟨p,r,b,rfl,h1,h2⟩
theorem qdw {w:World} {H:Heap} {b:Nat} {L:List UInt8} (hw:w.heap=H) (hb:H[b]?=some (.cells #[.string (strOf L)] qc (0,0))) (hlen:L.length≤1099511627776) :
  qnd P (.func (.func zf3) #[] #[.pointer (some ⟨b,0,none⟩)]) (fun ys=>ys=pieces L) (fun pre y=>∃ rest,pieces L=pre++y :: rest) (fun x=>#[.string (strOf x)]) [b] [b] w:=by
 refine ⟨_,_,rfl,fun l I J w1 M hx1 hMM hst hIA h0 hY=>?_⟩
 have hb1:=(hw ▸ hx1).get hb (by simp)
 have hblt:=lt_of_get hb1
 refine zvg ?_
 unfold zjn
 simp only [xq]
 have hlt:∀ (R:List UInt8),R.length=R.length:=fun _=>rfl
 refine ztz (fun n _ W=>∃ pre R,I pre W∧W.heap[b]?=some (.cells #[.string (strOf R)] qc (0,0))∧pieces L=pre++pieces R∧R.length≤1099511627776∧w1.heap.size≤W.heap.size∧n=R.length) L.length ⟨[],L,h0,hb1,by simp,hlen,Nat.le_refl _,rfl⟩ ?_
 rintro n _ W ⟨pre,R,hI,hbW,hpc,hRl,hsz,rfl⟩ K hK
 refine jh (s:=.str) (t:=strOf R) rfl hbW rfl ?_
 refine zfc (p:=R ≠ []) (by rw [Bool.not_eq_true',← Bool.not_eq_true,zjw]) (fun hne=>?_) (fun he=>?_)
 ·refine jh (s:=.str) (t:=strOf R) rfl hbW rfl ?_
  refine zl (cut_c R hRl) ?_
  rintro e W2 ⟨p,r,bb,rfl,hh2,hcase⟩
  refine ⟨(strOf p,strOf r,bb),rfl,?_⟩
  have hpr:pieces R=p :: pieces r∧r.length < R.length:=by
   rcases hcase with ⟨h1,rfl,rfl⟩ | ⟨rfl,h2⟩
   ·refine ⟨by rw [zny h1 hne];rfl,?_⟩
    cases p with
    | nil=>exact absurd rfl hne
    | cons a p=>simp
   ·exact ⟨zj9 h2,by simp;omega⟩
  have hx2:Ext [] W.heap W2.heap:=by rw [hh2];exact .refl _ _
  have hI2:=hst _ _ _ hI (.new hsz hx2)
  have hb2:W2.heap[b]?=some (.cells #[.string (strOf R)] qc (0,0)):=by rw [hh2];exact hbW
  refine zso ((hY pre p W2 ⟨pieces r,by rw [hpc,hpr.1]⟩ hI2).mono ?_)
  rintro e W3 ⟨hK3,⟨rfl,hI3⟩ | ⟨rfl,hJ3⟩⟩
  ·refine ⟨true,rfl,?_⟩
   refine jl rfl ?_
   have hb3:=hK3.get hb2 hblt (fun h=>(hMM _ h).2 (by simp))
   refine zcd rfl hb3 (by simp) fun W4 hW4=>?_
   have hx4:Ext [b] W3.heap W4.heap:=by rw [hW4];exact Ext.set _ (by simp)
   refine hK _ _ _ hpr.2 ⟨pre++[p],r,hIA _ _ _ hI3 hx4,by rw [hW4];exact qw hb3,by rw [hpc,hpr.1];simp,by omega,?_,rfl⟩
   have:=hx4.1;have:=hK3.1;rw [hh2] at this;omega
  ·refine ⟨false,rfl,?_⟩
   exact zab rfl ⟨⟨_,rfl⟩,.inr hJ3⟩
 ·have he:R=[]:=Classical.not_not.1 he
  subst he
  refine ⟨⟨_,rfl⟩,.inl ⟨pieces L,rfl,?_⟩⟩
  rw [hpc]
  simpa [pieces] using hI
def zbr (acc:Path) (x:List UInt8):Path:=if x=[] ∨ x=[46] then acc else if x=[46,46] then acc.dropLast else acc++[x]
def zeb (ps:Path):Path:=ps.foldl zbr []
def zt5 (L:List UInt8):Bool:=L.all fun b=>decide (b=47) || zej b
def zbo (L:List UInt8):Path × Int :=
 if 256 < L.length then ([],2) else if L.head? ≠ some 47 then ([],40) else if zt5 L=false then ([],40)
 else if (pieces L).any (fun x=>decide (16 < x.length)) then ([],41) else if 8 < (zeb (pieces L)).length then ([],42) else (zeb (pieces L),0)
theorem zg0 {ps:Path} {x:List UInt8}:zeb (ps++[x])=zbr (zeb ps) x:=by simp [zeb]
theorem z5x:∀ {ps acc:Path},(ps.foldl zbr acc).length≤acc.length+ps.length
 | [],acc=>by simp
 | x :: ps,acc=>by
  have:=z5x (ps:=ps) (acc:=zbr acc x)
  have h:(zbr acc x).length≤acc.length+1:=by
   unfold zbr;split
   ·omega
   ·split <;> simp;omega
  simp only [List.foldl_cons,List.length_cons];omega
theorem pieces_len:∀ {L:List UInt8},(pieces L).length≤L.length
 | []=>by simp [pieces]
 | c :: L=>by
  have:=pieces_len (L:=L)
  rw [pieces]
  split
  ·simp;omega
  ·split
   ·simp
   ·rename_i p ps h
    rw [h] at this
    split <;> (simp only [List.length_cons] at this ⊢;omega)
theorem qmj:Elem P qc 1 16:=zn0 (z:=.string .empty) (by kernel_rfl) rfl
theorem qo9:zc P qp=#[.slice none 0 0]:=by kernel_rfl
theorem zcE:zc P zed=#[.int .i64 0]:=by kernel_rfl
theorem Mine.cut {H:Heap} {B:Nat} {T:TypeId} {x:Option Addr × Nat × Nat} {vs:List Value} (h:Mine H B T 1 x vs) {k:Nat} (hk:k≤x.2.1) :
  Mine H B T 1 (if x.2.2=0 then x.1 else x.1.map (·.add (0 * 1)),k - 0,x.2.2 - 0) (vs.take k):=by
 rcases h with ⟨rfl,rfl⟩ | ⟨b,c,hx,hB,hb,hc,hl,hle,he⟩
 ·simp only at hk
  obtain rfl:k=0:=by omega
  exact .inl ⟨by simp,by simp⟩
 ·have hkl:(vs.take k).length=k:=by simp;omega
  refine .inr ⟨b,c,?_,hB,hb,by simpa using hc,by rw [hkl];simp,by simp only;omega,?_⟩
  ·simp only [hx]
   split
   ·rfl
   ·simp [jr]
  ·rw [hkl]
   conv=>rhs;rw [← he]
   simp only [Array.toList_extract,List.extract_eq_take_drop,List.drop_zero,Nat.sub_zero,List.take_take]
   congr 1;omega
theorem qim {x:Option Addr × Nat × Nat} {k c:Nat}:xw (if x.2.2=0 then x.1 else x.1.map (·.add (0 * 1)),k,c)=xw x:=by
 by_cases h:x.2.2=0
 ·rw [if_pos h];rfl
 ·rw [if_neg h]
  cases hx:x.1 with
  | none=>simp [xw,hx]
  | some a=>simp [xw,hx,Addr.add]
theorem z3a {w:World} {H:Heap} {b2 b3:Nat} {v2 v3:Value} {code:Int} {x:Option Addr × Nat × Nat} (hw:w.heap=H) (h2:H[b2]?=some (.cells #[v2] qp (0,0))) (h3:H[b3]?=some (.cells #[v3] zed (0,0))) (hne:b2 ≠ b3) {K:World→Prop}
  (hK:∀ w',Ext [b2,b3] H w'.heap→w'.heap[b2]?=some (.cells #[zcr x] qp (0,0))→w'.heap[b3]?=some (.cells #[.int .i64 code] zed (0,0))→w'.heap.size=H.size→K w') :
  stC ⟨b2,0,none⟩ (.slice x.1 x.2.1 x.2.2) w fun w3=>stC ⟨b3,0,none⟩ (.int .i64 code) w3 fun w4=>K w4:=by
 refine zcd hw h2 (by simp) fun w3 hw3=>?_
 have h33:w3.heap[b3]?=some (.cells #[v3] zed (0,0)):=by rw [hw3];exact zh3 h3 (Ne.symm hne)
 have h32:w3.heap[b2]?=some (.cells #[zcr x] qp (0,0)):=by rw [hw3];exact qw h2
 refine zcd rfl h33 (by simp) fun w4 hw4=>?_
 refine hK w4 ?_ (by rw [hw4];exact zh3 h32 hne) (by rw [hw4];exact qw h33) (by rw [hw4,hw3];simp)
 rw [hw4,hw3]
 exact ((Ext.refl _ _).set_own (.inr (by simp))).set_own (.inr (by simp))
theorem qcq {ps:Path} {x:List UInt8}:(ps++[x]).any (fun x=>decide (16 < x.length))=(ps.any (fun x=>decide (16 < x.length)) || decide (16 < x.length)):=by simp
set_option maxHeartbeats 8000000 in
theorem qk6 {w:World} {H:Heap} (L:List UInt8) (hw:w.heap=H) :
  qj P znm #[.string (strOf L)] w fun e w'=>∃ x,e=.returned (.tuple #[zcr x,.int .i64 (zbo L).2])∧Mine w'.heap H.size qc 1 x (strRow (zbo L).1)∧Ext [] H w'.heap:=by
 refine z0q ?_
 unfold zo0
 rw [qo9,zcE]
 refine jv hw fun w1 hw1=>?_
 refine jv hw1 fun w2 hw2=>?_
 have hsz:(H.push (.cells #[.slice none 0 0] qp)).size=H.size+1:=by simp
 have h2:w2.heap[H.size]?=some (.cells #[.slice none 0 0] qp (0,0)):=by rw [hw2];exact zeg zn
 have h3:w2.heap[H.size+1]?=some (.cells #[.int .i64 0] zed (0,0)):=by rw [hw2,← hsz];exact zn
 have hx2:Ext [] H w2.heap:=by rw [hw2];exact (Ext.push _).trans (Ext.push _)
 have hs2:w2.heap.size=H.size+2:=by rw [hw2];simp
 rw [hsz]
 clear hw1 hw2
 have fin:∀ {w w':World} {x:Option Addr × Nat × Nat} {code:Int},Ext [] H w.heap→Ext [H.size,H.size+1] w.heap w'.heap→x=(none,0,0)→zbo L=([],code) →
   ∃ y,Ending.returned (.tuple #[zcr x,.int .i64 code])=.returned (.tuple #[zcr y,.int .i64 (zbo L).2])∧Mine w'.heap H.size qc 1 y (strRow (zbo L).1)∧Ext [] H w'.heap:=by
  intro w w' x code h1 h2 hx hp
  subst hx
  rw [hp]
  exact ⟨(none,0,0),rfl,.inl ⟨rfl,rfl⟩,h1.own h2 (by intro b hb hlt;simp at hb;omega)⟩
 refine zq (fun hbig=>?_) (fun hsm=>?_)
 ·refine z3a (x:=(none,0,0)) rfl h2 h3 (by omega) fun w4 hx4 h24 h34 _=>?_
  refine jh (s:=.slc) (t:=(none,0,0)) rfl h24 rfl ?_
  refine jh (s:=.int .i64) (t:=2) rfl h34 rfl ?_
  exact fin hx2 hx4 rfl (by unfold zbo;rw [if_pos (by simp only [jy] at hbig;omega)])
 have hL256:L.length≤256:=by simp only [jy] at hsm;omega
 have hhp:qj P zgd #[.string (strOf L),.string (ByteArray.mk #[47])] w2 fun e w'=>e=.returned (.bool (decide (L.head?=some 47)))∧w'=w2:=by
  refine zqx ?_
  unfold zgr
  have h1:qj P zce #[.string (strOf L),.string (ByteArray.mk #[47])] w2 fun e w'=>e=.returned (.bool (decide (L.head?=some 47)))∧w'=w2:=by
   refine zg3 ?_
   unfold zcf
   cases L with
   | nil=>exact jl rfl ⟨rfl,rfl⟩
   | cons c L =>
    refine zab (decide_eq_true (by show ((strOf (c :: L)).size:Int) ≥ 1;rw [jy];simp only [List.length_cons];omega)) ?_
    refine qm (s:=.str) _ (zz1 (l:=0) (h:=1) z0e .no (.yes rfl) (by omega) (by simp)) ?_
    refine ⟨?_,rfl⟩
    congr 2
    rw [Bool.eq_iff_iff,zjw,decide_eq_true_iff]
    simp
  exact zbb (decide (L.head?=some 47)) h1 ⟨rfl,rfl⟩
 refine zbb (decide (L.head?=some 47)) hhp ?_
 by_cases hhd:L.head?=some 47
 rotate_left
 ·refine zab (by simp [hhd]) ?_
  refine z3a (x:=(none,0,0)) rfl h2 h3 (by omega) fun w4 hx4 h24 h34 _=>?_
  refine jh (s:=.slc) (t:=(none,0,0)) rfl h24 rfl ?_
  refine jh (s:=.int .i64) (t:=40) rfl h34 rfl ?_
  exact fin hx2 hx4 rfl (by unfold zbo;rw [if_neg (by omega),if_pos hhd])
 refine jl (by simp [hhd]) ?_
 refine jd (fun (s:Int) W=>∃ i:Nat,s=(i:Int)∧i≤L.length∧W=w2∧∀ b ∈ L.take i,(decide (b=47) || zej b)=true) (fun s _=>(L.length - s).toNat) ⟨0,rfl,Nat.zero_le _,rfl,by simp⟩ ?_
 rintro _ w2 ⟨i,rfl,hi,rfl,hpl⟩
 refine zq (fun hlt=>?_) (fun hge=>?_)
 ·have hil:i < L.length:=by simp only [jy] at hlt;omega
  have hnext:(decide (L[i]=47) || zej L[i])=true→∀ b ∈ L.take (i+1),(decide (b=47) || zej b)=true:=by
   intro h b hm
   rw [List.take_add_one,List.getElem?_eq_getElem hil] at hm
   rcases List.mem_append.1 hm with hm | hm
   ·exact hpl b hm
   ·simp only [Option.toList_some,List.mem_singleton] at hm;subst hm;exact h
  have hgo:∀ {K:Int→Prop},(decide (L[i]=47) || zej L[i])=true→(∀ k,k=((i+1:Nat):Int)→K k)→zba .i64 (i:Int) 1 K:=fun _ hK=>xu ((i+1:Nat):Int) (by omega) (by omega) (by omega) (hK _ rfl)
  refine zac ?_
  refine zac ?_
  refine zpe i rfl hil ?_
  refine zb1 (fun h47=>?_) (fun h47=>?_)
  ·refine zpe i rfl hil ?_
   refine zbb (zej L[i]) (qhe _) ?_
   cases hb:zej L[i] with
   | false =>
    refine zab rfl ?_
    refine z3a (x:=(none,0,0)) rfl h2 h3 (by omega) fun w4 hx4 h24 h34 _=>?_
    refine jh (s:=.slc) (t:=(none,0,0)) rfl h24 rfl ?_
    refine jh (s:=.int .i64) (t:=40) rfl h34 rfl ?_
    refine fin hx2 hx4 rfl ?_
    have:zt5 L=false:=by
     unfold zt5
     rw [List.all_eq_false]
     refine ⟨L[i],List.getElem_mem hil,?_⟩
     have:¬ L[i]=47:=fun e=>h47 (by rw [e];rfl)
     simp [this,hb]
    unfold zbo
    rw [if_neg (by omega),if_neg (by simp [hhd]),if_pos this]
   | true =>
    refine jl rfl ?_
    refine hgo (by simp [hb]) ?_
    rintro _ rfl
    exact ⟨⟨i+1,rfl,by omega,rfl,hnext (by simp [hb])⟩,by omega⟩
  ·have h47':L[i]=47:=UInt8.toNat_inj.1 (by have h:((L[i]).toNat:Int)=47:=h47;show (L[i]).toNat=47;omega)
   refine hgo (by simp [h47']) ?_
   rintro _ rfl
   exact ⟨⟨i+1,rfl,by omega,rfl,hnext (by simp [h47'])⟩,by omega⟩
 have hie:i=L.length:=by simp only [jy] at hge;omega
 subst hie
 rw [List.take_length] at hpl
 have hok:zt5 L=true:=List.all_eq_true.2 hpl
 have hP:zbo L=if (pieces L).any (fun x=>decide (16 < x.length)) then ([],41) else if 8 < (zeb (pieces L)).length then ([],42) else (zeb (pieces L),0):=by
  unfold zbo;rw [if_neg (by omega),if_neg (by simp [hhd]),if_neg (by simp [hok])]
 refine jv rfl fun w12 hw12=>?_
 have h12:Ext [] w2.heap w12.heap:=by rw [hw12];exact .push _
 have hb5:w12.heap[H.size+2]?=some (.cells #[.slice none 0 0] qp (0,0)):=by rw [hw12,← hs2];exact zn
 have hs12:w12.heap.size=H.size+3:=by rw [hw12];simp [hs2]
 rw [hs2]
 have hpieces:qj P zmf #[.string (strOf L)] w12 fun e w'=>e=.returned (.func (.func zf3) #[] #[.pointer (some ⟨H.size+3,0,none⟩)])∧w'.heap=w12.heap.push (.cells #[.string (strOf L)] qc):=by
  refine zy4 ?_
  unfold zlz
  refine jv rfl fun w13 hw13=>?_
  exact qm (s:=.any) _ rfl ⟨by rw [hs12],hw13⟩
 refine zl hpieces ?_
 rintro e w13 ⟨rfl,hw13⟩
 refine ⟨_,rfl,?_⟩
 have h1213:Ext [] w12.heap w13.heap:=by rw [hw13];exact .push _
 have hb1:w13.heap[H.size+3]?=some (.cells #[.string (strOf L)] qc (0,0)):=by rw [hw13,← hs12];exact zn
 have hs13:w13.heap.size=H.size+4:=by rw [hw13];simp [hs12]
 have h213:=h12.trans h1213
 have hx13:=hx2.trans h213
 have hpl2:=pieces_len (L:=L)
 refine qg8 (α:=List UInt8) (shs:=[.str]) (tv:=fun x=>strOf x) (fp:=[H.size+3]) (A:=[H.size+3]) (qdw rfl hb1 (by omega)) (fun _ h=>h) [H.size,H.size+1,H.size+2] ?_ (fun b hb=>by simp only [List.mem_singleton] at hb;omega)
  (fun pre W=>∃ x,Ext [] H W.heap∧W.heap[H.size]?=some (.cells #[.slice none 0 0] qp (0,0))∧W.heap[H.size+1]?=some (.cells #[.int .i64 0] zed (0,0))∧W.heap[H.size+2]?=some (.cells #[zcr x] qp (0,0))∧Mine W.heap (H.size+4) qc 1 x (strRow (zeb pre))∧pre.any (fun x=>decide (16 < x.length))=false)
  (fun W=>Ext [] H W.heap∧W.heap[H.size]?=some (.cells #[.slice none 0 0] qp (0,0))∧W.heap[H.size+1]?=some (.cells #[.int .i64 41] zed (0,0))∧(pieces L).any (fun x=>decide (16 < x.length))=true)
  (fun _ _=>False) ?_ ?_ (fun _ _ _ h _=>h.elim) ?_ ?_ ?_ ?_ ?_ (fun _ _ h=>h.elim)
 ·intro b hb
  simp only [List.mem_cons,List.not_mem_nil,or_false] at hb ⊢
  omega
 ·rintro pre W W' ⟨x,h1,h2,h3,h4,h5,h6⟩ hB
  exact ⟨x,hB.ext (by omega) h1,hB.cells h2,hB.cells h3,hB.cells h4,hB.mine h5,h6⟩
 ·rintro W W' ⟨h1,h2,h3,h4⟩ hB
  exact ⟨hB.ext (by omega) h1,hB.cells h2,hB.cells h3,h4⟩
 ·rintro pre W W' ⟨x,h1,h2,h3,h4,h5,h6⟩ hx
  have hn:∀ b,b ≠ H.size+3→b ∉ [H.size+3]:=fun b h=>by simpa using h
  exact ⟨x,h1.own hx (by intro b hb hlt;simp at hb;omega),hx.get h2 (hn _ (by omega)),hx.get h3 (hn _ (by omega)),hx.get h4 (hn _ (by omega)),h5.ext hx (fun b hb=>hn b (by have:=jc h5 b hb;omega)),h6⟩
 ·exact ⟨(none,0,0),hx13,h213.get h2 (by simp),h213.get h3 (by simp),h1213.get hb5 (by simp),.inl ⟨rfl,rfl⟩,rfl⟩
 ·rintro pre y W ⟨rest,hrest⟩ ⟨x,k1,k2,k3,k4,k5,k6⟩ hsz beg kc kr kx hbeg
  have hprel:pre.length+1≤256:=by have:=congrArg List.length hrest;simp at this;omega
  have hwl:(zeb pre).length≤pre.length:=by have:=z5x (ps:=pre) (acc:=[]);simpa [zeb] using this
  refine hbeg W _ (.refl _ _) fun W2 hB2 hs2' hkc hkr _=>?_
  have k12:Ext [] H W2.heap:=hB2.ext (by omega) k1
  have k22:=hB2.cells k2
  have k32:=hB2.cells k3
  have k42:=hB2.cells k4
  have k52:=hB2.mine k5
  have hxl:x.2.1=(zeb pre).length:=by have:=k52.len;simp at this;omega
  have hW2:H.size+4≤W2.heap.size:=by omega
  have goOn:∀ {W3:World} {x':Option Addr × Nat × Nat},Ext ((H.size+2) :: xw x) W2.heap W3.heap→W3.heap[H.size+2]?=some (.cells #[zcr x'] qp (0,0))→Mine W3.heap (H.size+4) qc 1 x' (strRow (zeb (pre++[y])))→¬ 16 < y.length→kc W3:=by
   intro W3 x' hx h4 h5 hy
   have hown:=jc k52
   have hn:∀ b,b < H.size+2→b ∉ (H.size+2) :: xw x:=fun b hb h=>by
    rcases List.mem_cons.1 h with h | h
    ·omega
    ·have:=hown b h;omega
   refine hkc W3 (.of hx (fun b hb=>?_) (by intro b hb;simp at hb;omega)) ⟨x',k12.own hx ?_,hx.get k22 (hn _ (by omega)),hx.get k32 (hn _ (by omega)),h4,h5,by rw [qcq,k6];simp;omega⟩
   ·rcases List.mem_cons.1 hb with rfl | hb
    ·left;simp
    ·right
     refine ⟨by have:=hown b hb;omega,?_⟩
     rcases k52 with ⟨rfl,_⟩ | ⟨b2,c2,hx2',_,hb2,_⟩
     ·simp [xw] at hb
     ·simp only [xw,hx2',List.mem_singleton] at hb;subst hb;exact ⟨_,_,_,hb2⟩
   ·intro b hb hlt
    exact absurd hb (hn b (by omega))
  refine zac ?_
  refine zac ?_
  refine zq (fun hlong=>?_) (fun hshort=>?_)
  ·have hlong:16 < y.length:=by have h:=hlong;simp only [jy] at h;omega
   refine z3a (x:=(none,0,0)) rfl k22 k32 (by omega) fun w4 hx4 h24 h34 hs4=>?_
   refine hkr w4 (.of hx4 (fun b hb=>.inl (by simp at hb ⊢;omega)) (by intro b hb;simp at hb;omega)) ⟨k12.own hx4 (by intro b hb hlt;simp at hb;omega),h24,h34,?_⟩
   rw [List.any_eq_true]
   exact ⟨y,by rw [hrest];simp,by simpa using hlong⟩
  have hshort:¬ 16 < y.length:=by have h:=hshort;simp only [jy] at h;omega
  have hnone:zeb (pre++[y])=zeb pre→kc W2:=fun h=>goOn (.refl _ _) k42 (by rw [h];exact k52) hshort
  refine zfc (p:=y=[]) zjw (fun h=>hnone (by rw [zg0,zbr,if_pos (.inl h)])) (fun hy0=>?_)
  refine zfc (p:=y=[46]) zjw (fun h=>hnone (by rw [zg0,zbr,if_pos (.inr h)])) (fun hy1=>?_)
  refine zfc (p:=y=[46,46]) zjw (fun h=>?_) (fun hy2=>?_)
  ·refine jh (s:=.slc) (t:=x) rfl k42 rfl ?_
   refine jh (s:=.slc) (t:=x) rfl k42 rfl ?_
   refine zbu ((x.2.1:Int) - 1) rfl (by omega) (by omega) ?_
   refine qm (s:=.int .i64) ((x.2.1 - 1:Nat):Int) ?_ ?_
   ·rw [run_max_int2]
    congr 2
    show (if (0:Int) > (x.2.1:Int) - 1 then 0 else (x.2.1:Int) - 1)=((x.2.1 - 1:Nat):Int)
    split <;> omega
   have hxc:x.2.1≤x.2.2:=by
    rcases k52 with ⟨rfl,_⟩ | ⟨_,_,_,_,_,_,_,h,_⟩
    ·exact Nat.le_refl _
    ·exact h
   refine qm (s:=.slc) (if x.2.2=0 then x.1 else x.1.map (·.add (0 * 1)),(x.2.1 - 1) - 0,x.2.2 - 0) (zaq zw5 qfv .no (.yes rfl) (Nat.zero_le _) (by omega)) ?_
   refine zcd rfl k42 (by simp) fun W3 hW3=>?_
   have hx3:Ext [H.size+2] W2.heap W3.heap:=by rw [hW3];exact Ext.set _ (by simp)
   refine goOn (x':=(if x.2.2=0 then x.1 else x.1.map (·.add (0 * 1)),(x.2.1 - 1) - 0,x.2.2 - 0)) (hx3.mono (by simp)) (by rw [hW3];exact qw k42) ?_ hshort
   have hcut:=(Mine.cut k52 (k:=x.2.1 - 1) (by omega)).ext hx3 (fun b hb=>by rw [qim] at hb;have:=jc k52 b hb;simp only [List.mem_singleton];omega)
   rw [zrh] at hcut
   have hw2:zeb (pre++[y])=(zeb pre).take (x.2.1 - 1):=by rw [zg0,zbr,if_neg (by simp [hy0,hy1]),if_pos h,List.dropLast_eq_take,← hxl]
   rw [hw2]
   exact hcut
  ·refine jh (s:=.slc) (t:=x) rfl k42 rfl ?_
   refine zad (s:=.slc) (some ⟨W2.heap.size,0,none⟩,1,1) _ (zd0 qmj zw5 (v:=.string (strOf y)) rfl (by omega) (by omega)) ?_
   have hxp:Ext [] W2.heap (W2.heap.push (.cells (Value.string (strOf y)).cells qc)):=.push _
   refine zcq (n:=1) (us:=[.string (strOf y)]) (H:=W2.heap.push (.cells (Value.string (strOf y)).cells qc)) qmj (by omega) zw5 (za5 zw5) rfl (k52.ext hxp (by simp)) (by simp;omega)
    (Src.slc rfl (.inr ⟨W2.heap.size,0,_,_,_,rfl,zn,by simp [Value.cells],by simp [Value.cells]⟩) rfl) (by intro v hv;simp only [List.mem_singleton] at hv;subst hv;rfl) (by omega) ?_
   intro x' W4 hm4 hl4 hx4 _
   have hb4:W4.heap[H.size+2]?=some (.cells #[zcr x] qp (0,0)):=hx4.get (hxp.get k42 (by simp)) (fun h=>by have:=jc k52 _ h;omega)
   refine zcd rfl hb4 (by simp) fun W5 hW5=>?_
   have hx5:Ext [H.size+2] W4.heap W5.heap:=by rw [hW5];exact Ext.set _ (by simp)
   refine goOn (x':=x') (((hxp.mono (by simp)).trans (hx4.mono (fun b hb=>List.mem_cons_of_mem _ hb))).trans (hx5.mono (by simp))) (by rw [hW5];exact qw hb4) ?_ hshort
   rw [zg0,zbr,if_neg (by simp [hy0,hy1]),if_neg hy2,← zt1]
   exact hm4.ext hx5 (fun b hb=>by have:=jc hm4 b hb;simp only [List.mem_singleton];omega)
 ·rintro xs W rfl ⟨x,k1,k2,k3,k4,k5,k6⟩ hD
  rw [if_neg (by simp [k6])] at hP
  have hxl:x.2.1=(zeb (pieces L)).length:=by have:=k5.len;simp at this;omega
  refine jh (s:=.slc) (t:=x) rfl k4 rfl ?_
  have hne2:∀ {W':World} {o:Obj} {b:Nat},b ≠ w13.heap.size→W'.heap[b]?=some o→(W'.heap.setIfInBounds w13.heap.size (.deferred none))[b]?=some o:=fun h ho=>zh3 ho h
  refine zq (fun hdeep=>?_) (fun hflat=>?_)
  ·refine z3a (x:=(none,0,0)) rfl k2 k3 (by omega) fun w4 hx4 h24 h34 hs4=>?_
   refine ⟨hx4.get hD (by simp;omega),fun w5 hw5=>?_⟩
   have hh5:w5.heap=w4.heap.setIfInBounds w13.heap.size (.deferred none):=by rw [hw5,zb2]
   refine jh (s:=.slc) (t:=(none,0,0)) rfl (by rw [hh5];exact hne2 (by omega) h24) rfl ?_
   refine jh (s:=.int .i64) (t:=42) rfl (by rw [hh5];exact hne2 (by omega) h34) rfl ?_
   rw [if_pos (by omega)] at hP
   rw [hP]
   refine ⟨(none,0,0),rfl,.inl ⟨rfl,rfl⟩,?_⟩
   rw [hh5]
   exact (k1.own hx4 (by intro b hb hlt;simp at hb;omega)).set_own (.inl (by omega))
  ·refine jh (s:=.slc) (t:=x) rfl k4 rfl ?_
   refine z3a (x:=x) rfl k2 k3 (by omega) fun w4 hx4 h24 h34 hs4=>?_
   have hD4:=hx4.get hD (by simp;omega)
   refine ⟨hD4,fun w5 hw5=>?_⟩
   have hh5:w5.heap=w4.heap.setIfInBounds w13.heap.size (.deferred none):=by rw [hw5,zb2]
   refine jh (s:=.slc) (t:=x) rfl (by rw [hh5];exact hne2 (by omega) h24) rfl ?_
   refine jh (s:=.int .i64) (t:=0) rfl (by rw [hh5];exact hne2 (by omega) h34) rfl ?_
   rw [if_neg (by omega)] at hP
   rw [hP]
   refine ⟨x,rfl,?_,?_⟩
   ·have hm4:=k5.ext hx4 (fun b hb=>by have:=jc k5 b hb;simp;omega)
    have hB:Beside w13.heap.size w4 w5:=by rw [hw5];exact .put (Nat.le_refl _) hD4 (by intro _ _ _ h;cases h)
    exact (hB.mine hm4).mono (by omega)
   ·rw [hh5]
    exact (k1.own hx4 (by intro b hb hlt;simp at hb;omega)).set_own (.inl (by omega))
 ·rintro W ⟨k1,k2,k3,k4⟩ hD
  refine ⟨hD,fun w5 hw5=>?_⟩
  have hh5:w5.heap=W.heap.setIfInBounds w13.heap.size (.deferred none):=by rw [hw5,zb2]
  refine jh (s:=.slc) (t:=(none,0,0)) rfl (by rw [hh5];exact zh3 k2 (by omega)) rfl ?_
  refine jh (s:=.int .i64) (t:=41) rfl (by rw [hh5];exact zh3 k3 (by omega)) rfl ?_
  rw [if_pos k4] at hP
  rw [hP]
  refine ⟨(none,0,0),rfl,.inl ⟨rfl,rfl⟩,?_⟩
  rw [hh5]
  exact k1.set_own (.inl (by omega))
def z0g:List UInt8→List (List UInt8)
 | []=>[[]]
 | c :: L=>if c=47 then [] :: z0g L else match z0g L with | []=>[[c]] | p :: ps=>(c :: p) :: ps
theorem z3q:∀ {p r:List UInt8},(47:UInt8) ∉ p→z0g (p++47 :: r)=p :: z0g r
 | [],r,_=>by simp [z0g]
 | c :: p,r,h=>by
  have hc:c ≠ 47:=fun e=>h (by simp [e])
  rw [List.cons_append,z0g,if_neg hc,z3q (p:=p) (r:=r) (fun hm=>h (by simp [hm]))]
theorem zyb:∀ {p:List UInt8},(47:UInt8) ∉ p→z0g p=[p]
 | [],_=>rfl
 | c :: p,h=>by
  have hc:c ≠ 47:=fun e=>h (by simp [e])
  rw [z0g,if_neg hc,zyb (p:=p) (fun hm=>h (by simp [hm]))]
theorem qby (n:Nat):∀ {L:List UInt8},L.length≤n→z0g L=pieces L ∨ z0g L=pieces L++[[]]:=by
 induction n with
 | zero =>
  intro L h
  have h0:L=[]:=List.eq_nil_of_length_eq_zero (by omega)
  subst h0;right;rfl
 | succ n ih =>
  intro L hl
  rcases qh1 L with h | ⟨p,r,rfl,h⟩
  ·by_cases he:L=[]
   ·subst he;right;rfl
   ·left;rw [zyb h,zny h he]
  ·rw [z3q h,zj9 h]
   simp only [List.length_append,List.length_cons] at hl
   rcases ih (L:=r) (by omega) with h | h
   ·left;rw [h]
   ·right;rw [h];rfl
theorem qhz {T:List UInt8}:zeb (z0g T)=zeb (pieces (47 :: T))∧(z0g T).any (fun x=>decide (16 < x.length))=(pieces (47 :: T)).any (fun x=>decide (16 < x.length)):=by
 have h0:pieces (47 :: T)=[] :: pieces T:=zj9 (p:=[]) (by simp)
 have hw:zeb ([] :: pieces T)=zeb (pieces T):=by simp [zeb,zbr]
 rw [h0,hw]
 rcases qby T.length (L:=T) (Nat.le_refl _) with h | h
 ·rw [h];simp
 ·rw [h,zg0];simp [zbr]
def rem (L:List UInt8) (f:Nat):Path:=if f≤L.length then z0g (L.drop f) else []
theorem qjr {L:List UInt8} {f i:Nat} (hf:f≤i) (hi:i≤L.length) (hn:(47:UInt8) ∉ (L.take i).drop f) (h47:∀ h:i < L.length,L[i]=47):rem L f=(L.take i).drop f :: rem L (i+1):=by
 unfold rem
 rw [if_pos (by omega)]
 by_cases he:i=L.length
 ·subst he
  rw [if_neg (by omega),List.take_length] at *
  rw [zyb hn]
 ·have hil:i < L.length:=by omega
  rw [if_pos (by omega)]
  have hs:L.drop f=(L.take i).drop f++47 :: L.drop (i+1):=by
   have h1:L=L.take i++L[i] :: L.drop (i+1):=by rw [← List.drop_eq_getElem_cons hil,List.take_append_drop]
   conv=>lhs;rw [h1]
   rw [List.drop_append_of_le_length (by simp;omega),h47 hil]
  rw [hs,z3q hn]
theorem qo5 {w:World} {H:Heap} (hw:w.heap=H) {K:(Option Addr × Nat × Nat)→World→Prop} (hK:∀ w',Ext [] H w'.heap→Mine w'.heap H.size qc 1 (some ⟨H.size,0,none⟩,0,0) []→K (some ⟨H.size,0,none⟩,0,0) w'):zal P (Instr.buildSlice qp 0 #[]) .slc w K:=by
 refine zad (s:=.slc) (some ⟨H.size,0,none⟩,0,0) { w with heap:=H.push (.cells #[] qc) } (by rw [← hw];kernel_rfl) ?_
 exact hK _ (.push _) (.inr ⟨H.size,#[],rfl,Nat.le_refl _,zn,rfl,rfl,Nat.le_refl _,rfl⟩)
theorem qmo {w:World} {H:Heap} {B:Nat} {x:Option Addr × Nat × Nat} {a:Option Addr} {l c:Nat} {xs ys:Path} (hw:w.heap=H) (hx:Mine H B qc 1 x (strRow xs)) (hB:B≤H.size) (hL:Cells H a (strRow ys)) (hl:l=ys.length) (hlen:xs.length+ys.length≤1099511627776) {K:(Option Addr × Nat × Nat)→World→Prop}
  (hK:∀ x' w',Mine w'.heap B qc 1 x' (strRow (xs++ys))→Ext (xw x) H w'.heap→K x' w'):zal P (Builtin.append_ #[qp,qp] qp #[.slice x.1 x.2.1 x.2.2,.slice a l c]) .slc w K:=by
 have hxl:x.2.1=xs.length:=by have:=hx.len;simp at this;omega
 refine zcq qmj (by omega) zw5 (za5 zw5) hw hx hB (Src.slc hw hL (by simp [hl])) qfd (by omega) ?_
 intro x' w' hm hl' hx' hs
 refine hK x' w' ?_ hx'
 rw [← zt1];exact hm
theorem qlt {w:World} {H:Heap} (L:List UInt8) (hw:w.heap=H) {K:(Option Addr × Nat × Nat)→World→Prop} (hK:∀ a w',Ext [] H w'.heap→Cells w'.heap a (strRow [L])→K (a,1,1) w'):zal P (Instr.buildSlice qp 1 #[(0,.string (strOf L))]) .slc w K:=by
 refine zad (s:=.slc) (some ⟨w.heap.size,0,none⟩,1,1) _ (zd0 qmj zw5 (v:=.string (strOf L)) rfl (by omega) (by omega)) ?_
 exact hK _ _ (by rw [← hw];exact .push _) (.inr ⟨w.heap.size,0,_,_,_,rfl,zn,by simp [Value.cells,strRow],by simp [Value.cells,strRow]⟩)
set_option maxHeartbeats 8000000 in
theorem qcz {w:World} {H:Heap} (L:List UInt8) (hw:w.heap=H) :
  qj P znj #[.string (strOf L)] w fun e w'=>∃ x,e=.returned (.tuple #[zcr x,.int .i64 (zbo L).2])∧Mine w'.heap H.size qc 1 x (strRow (zbo L).1)∧Ext [] H w'.heap:=by
 refine z6t ?_
 unfold zrm
 have fin:∀ {w:World} {code:Int},Ext [] H w.heap→zbo L=([],code) →
   ∃ y,Ending.returned (.tuple #[.slice none 0 0,.int .i64 code])=.returned (.tuple #[zcr y,.int .i64 (zbo L).2])∧Mine w.heap H.size qc 1 y (strRow (zbo L).1)∧Ext [] H w.heap:=by
  intro w code h1 hp
  rw [hp]
  exact ⟨(none,0,0),rfl,.inl ⟨rfl,rfl⟩,h1⟩
 have hx0:Ext [] H w.heap:=by rw [hw];exact .refl _ _
 refine zq (fun hbig=>fin hx0 (by unfold zbo;rw [if_pos (by simp only [jy] at hbig;omega)])) (fun hsm=>?_)
 have hL256:L.length≤256:=by simp only [jy] at hsm;omega
 refine zac ?_
 cases L with
 | nil=>exact zab rfl (fin hx0 rfl)
 | cons c0 T =>
 refine jl (by simp;omega) ?_
 refine zpe (L:=c0 :: T) 0 rfl (by simp) ?_
 refine zb1 (fun h=>fin hx0 ?_) (fun h=>?_)
 ·have:¬ c0=47:=fun e=>h (by simp [e])
  unfold zbo;rw [if_neg (by omega),if_pos (by simp [this])]
 have hc0:c0=47:=UInt8.toNat_inj.1 (by have h:(c0.toNat:Int)=47:=h;show c0.toNat=47;omega)
 subst hc0
 have hseg:=qhz (T:=T)
 clear h
 generalize hLL:(47:UInt8) :: T=L at *
 have hhd:L.head?=some 47:=by rw [← hLL];rfl
 have hpos:1≤L.length:=by rw [← hLL];simp
 have hdrop:L.drop 1=T:=by rw [← hLL];rfl
 refine jd (fun (s:Int) W=>∃ i:Nat,s=(i:Int)∧i≤L.length∧W=w∧∀ b ∈ L.take i,(decide (b=47) || zej b)=true) (fun s _=>(L.length - s).toNat) ⟨0,rfl,Nat.zero_le _,rfl,by simp⟩ ?_
 rintro _ w ⟨i,rfl,hi,rfl,hpl⟩
 refine zq (fun hlt=>?_) (fun hge=>?_)
 ·have hil:i < L.length:=by simp only [jy] at hlt;omega
  have hnext:(decide (L[i]=47) || zej L[i])=true→∀ b ∈ L.take (i+1),(decide (b=47) || zej b)=true:=by
   intro h b hm
   rw [List.take_add_one,List.getElem?_eq_getElem hil] at hm
   rcases List.mem_append.1 hm with hm | hm
   ·exact hpl b hm
   ·simp only [Option.toList_some,List.mem_singleton] at hm;subst hm;exact h
  have hgo:∀ {K:Int→Prop},(decide (L[i]=47) || zej L[i])=true→(∀ k,k=((i+1:Nat):Int)→K k)→zba .i64 (i:Int) 1 K:=fun _ hK=>xu ((i+1:Nat):Int) (by omega) (by omega) (by omega) (hK _ rfl)
  refine zac ?_
  refine zac ?_
  refine zpe i rfl hil ?_
  refine zb1 (fun h47=>?_) (fun h47=>?_)
  ·refine zpe i rfl hil ?_
   refine zbb (zej L[i]) (qjl _) ?_
   cases hb:zej L[i] with
   | false =>
    refine zab rfl ?_
    refine fin hx0 ?_
    have:zt5 L=false:=by
     unfold zt5
     rw [List.all_eq_false]
     refine ⟨L[i],List.getElem_mem hil,?_⟩
     have:¬ L[i]=47:=fun e=>h47 (by rw [e];rfl)
     simp [this,hb]
    unfold zbo
    rw [if_neg (by omega),if_neg (by simp [hhd]),if_pos this]
   | true =>
    refine jl rfl ?_
    refine hgo (by simp [hb]) ?_
    rintro _ rfl
    exact ⟨⟨i+1,rfl,by omega,rfl,hnext (by simp [hb])⟩,by omega⟩
  ·have h47':L[i]=47:=UInt8.toNat_inj.1 (by have h:((L[i]).toNat:Int)=47:=h47;show (L[i]).toNat=47;omega)
   refine hgo (by simp [h47']) ?_
   rintro _ rfl
   exact ⟨⟨i+1,rfl,by omega,rfl,hnext (by simp [h47'])⟩,by omega⟩
 have hie:i=L.length:=by simp only [jy] at hge;omega
 subst hie
 rw [List.take_length] at hpl
 have hok:zt5 L=true:=List.all_eq_true.2 hpl
 have hP:zbo L=if (z0g T).any (fun x=>decide (16 < x.length)) then ([],41) else if 8 < (zeb (z0g T)).length then ([],42) else (zeb (z0g T),0):=by
  unfold zbo;rw [if_neg (by omega),if_neg (by simp [hhd]),if_neg (by simp [hok]),hseg.1,hseg.2]
 refine jd (fun (s:(Option Addr × Nat × Nat) × Int × Int) W=>∃ (x:Option Addr × Nat × Nat) (f i:Nat) (done:Path),s=(x,(f:Int),(i:Int))∧1≤f∧f≤i∧i≤L.length+1∧(i≤L.length ∨ f=i)∧z0g T=done++rem L f∧(47:UInt8) ∉ (L.take i).drop f ∧
   Ext [] H W.heap∧Mine W.heap H.size qc 1 x (strRow (zeb done))∧done.any (fun x=>decide (16 < x.length))=false∧done.length≤f) (fun s _=>(L.length+1 - s.2.2).toNat)
  ⟨(none,0,0),1,1,[],rfl,by omega,by omega,by omega,.inl hpos,by rw [rem,if_pos hpos,hdrop];rfl,by rw [List.drop_eq_nil_of_le (by simp;omega)];simp,hx0,.inl ⟨rfl,rfl⟩,rfl,by simp⟩ ?_
 rintro _ W ⟨x,f,i,done,rfl,hf1,hfi,hi,hor,hsg,hno,hxW,hmW,hany,hdl⟩
 have hwl:(zeb done).length≤done.length:=by have:=z5x (ps:=done) (acc:=[]);simpa [zeb] using this
 have hxl:x.2.1=(zeb done).length:=by have:=hmW.len;simp at this;omega
 have hHW:=hxW.1
 refine zq (fun hle=>?_) (fun hgt=>?_)
 ·have hil:i≤L.length:=by simp only [jy] at hle;omega
  refine joinP_of (fun (s:(Option Addr × Nat × Nat) × Int) W'=>∃ (x':Option Addr × Nat × Nat) (f':Nat) (done':Path),s=(x',(f':Int))∧1≤f'∧f'≤i+1∧(i+1≤L.length ∨ f'=i+1)∧z0g T=done'++rem L f'∧(47:UInt8) ∉ (L.take (i+1)).drop f' ∧
   Ext [] H W'.heap∧Mine W'.heap H.size qc 1 x' (strRow (zeb done'))∧done'.any (fun x=>decide (16 < x.length))=false∧done'.length≤f') ?_ ?_
  rotate_left
  ·rintro _ W' ⟨x',f',done',rfl,h1,h2,h3,h4,h5,h6,h7,h8,h9⟩
   refine xu ((i+1:Nat):Int) (by simp only;omega) (by omega) (by omega) ?_
   exact ⟨⟨x',f',i+1,done',rfl,h1,h2,by omega,h3,h4,h5,h6,h7,h8,h9⟩,by simp only;omega⟩
  refine joinP_of (fun _ W'=>W'=W∧∀ h:i < L.length,L[i]=47) ?_ ?_
  ·refine zq (fun hlt=>?_) (fun hge=>⟨rfl,fun h=>absurd hge (by simp only [jy];omega)⟩)
   have hil2:i < L.length:=by simp only [jy] at hlt;omega
   refine zpe i rfl hil2 ?_
   refine zb1 (fun h47=>?_) (fun h47=>?_)
   ·refine ⟨x,f,done,rfl,hf1,by omega,.inl (by omega),hsg,?_,hxW,hmW,hany,hdl⟩
    rw [List.take_add_one,List.getElem?_eq_getElem hil2,List.drop_append_of_le_length (by simp;omega)]
    intro hm
    rcases List.mem_append.1 hm with hm | hm
    ·exact hno hm
    ·simp only [Option.toList_some,List.mem_singleton] at hm
     exact h47 (by rw [← hm];rfl)
   ·exact ⟨rfl,fun _=>UInt8.toNat_inj.1 (by have h:((L[i]).toNat:Int)=47:=h47;show (L[i]).toNat=47;omega)⟩
  rintro _ W' ⟨rfl,h47⟩
  have hstep:=qjr hfi hil hno h47
  generalize hp:(L.take i).drop f=p at *
  refine qm (s:=.str) (strOf p) ((zz1 (l:=f) (h:=i) z0e (.yes rfl) (.yes rfl) hfi hil).trans (by rw [hp];rfl)) ?_
  refine xu ((i+1:Nat):Int) (by simp only;omega) (by omega) (by omega) ?_
  refine zq (fun hlong=>?_) (fun hshort=>?_)
  ·have hlong:16 < p.length:=by have h:=hlong;simp only [jy] at h;omega
   refine fin hxW ?_
   rw [hP,if_pos]
   rw [hsg,hstep,List.any_eq_true]
   exact ⟨p,by simp,by simpa using hlong⟩
  have hshort:¬ 16 < p.length:=by have h:=hshort;simp only [jy] at h;omega
  have endI:∀ {W2:World} {x2:Option Addr × Nat × Nat},Ext [] H W2.heap→Mine W2.heap H.size qc 1 x2 (strRow (zeb (done++[p])))→(∃ (x':Option Addr × Nat × Nat) (f':Nat) (done':Path),((x2.1,x2.2.1,x2.2.2),((i+1:Nat):Int))=(x',(f':Int))∧1≤f'∧f'≤i+1∧(i+1≤L.length ∨ f'=i+1)∧z0g T=done'++rem L f'∧(47:UInt8) ∉ (L.take (i+1)).drop f' ∧
    Ext [] H W2.heap∧Mine W2.heap H.size qc 1 x' (strRow (zeb done'))∧done'.any (fun x=>decide (16 < x.length))=false∧done'.length≤f'):=by
   intro W2 x2 h1 h2
   refine ⟨x2,i+1,done++[p],rfl,by omega,by omega,.inr rfl,by rw [hsg,hstep];simp,by rw [List.drop_eq_nil_of_le (by simp;omega)];simp,h1,h2,by rw [qcq,hany];simp;omega,by simp;omega⟩
  refine joinP_of (fun (x':Option Addr × Nat × Nat) W2=>Ext [] H W2.heap∧Mine W2.heap H.size qc 1 x' (strRow (if p=[46,46] then (zeb done).dropLast else zeb done))) ?_ ?_
  ·refine zfc (p:=p=[46,46]) zjw (fun h=>?_) (fun h=>?_)
   ·rw [if_pos h]
    refine zq (fun hpos=>?_) (fun hneg=>?_)
    ·simp only at hpos
     refine qo5 rfl fun W2 hx2 hm2=>?_
     have hxc:x.2.1≤x.2.2:=by
      rcases hmW with ⟨rfl,_⟩ | ⟨_,_,_,_,_,_,_,h,_⟩
      ·exact Nat.le_refl _
      ·exact h
     refine zbu ((x.2.1 - 1:Nat):Int) (by simp only;omega) (by omega) (by omega) ?_
     refine qm (s:=.slc) (if x.2.2=0 then x.1 else x.1.map (·.add (0 * 1)),(x.2.1 - 1) - 0,x.2.2 - 0) (zaq zw5 qfv .no (.yes rfl) (Nat.zero_le _) (show x.2.1 - 1≤x.2.2 by omega)) ?_
     have hcut:=(Mine.cut (hmW.ext hx2 (by simp)) (k:=x.2.1 - 1) (by omega)).cells
     rw [zrh] at hcut
     refine qmo (xs:=[]) rfl hm2 hx2.1 hcut (by simp;omega) (by simp;omega) ?_
     intro x3 W3 hm3 hx3
     refine ⟨(hxW.trans hx2).own hx3 (by intro b hb hlt;simp [xw] at hb;omega),?_⟩
     rw [List.dropLast_eq_take,← hxl]
     exact hm3.mono hHW
    ·simp only at hneg
     have:zeb done=[]:=List.eq_nil_of_length_eq_zero (by omega)
     refine ⟨hxW,?_⟩
     rw [this] at hmW ⊢
     exact hmW
   ·rw [if_neg h];exact ⟨hxW,hmW⟩
  rintro x' W2 ⟨hx2,hm2⟩
  have same:zeb (done++[p])=(if p=[46,46] then (zeb done).dropLast else zeb done)→(∃ (x'':Option Addr × Nat × Nat) (f':Nat) (done':Path),((x'.1,x'.2.1,x'.2.2),((i+1:Nat):Int))=(x'',(f':Int))∧1≤f'∧f'≤i+1∧(i+1≤L.length ∨ f'=i+1)∧z0g T=done'++rem L f'∧(47:UInt8) ∉ (L.take (i+1)).drop f' ∧
    Ext [] H W2.heap∧Mine W2.heap H.size qc 1 x'' (strRow (zeb done'))∧done'.any (fun x=>decide (16 < x.length))=false∧done'.length≤f'):=fun h=>endI hx2 (by rw [h];exact hm2)
  have n1:([]:List UInt8) ≠ [46,46]:=by simp
  have n2:([46]:List UInt8) ≠ [46,46]:=by simp
  refine zfc (p:=p ≠ []) (by rw [Bool.not_eq_true',← Bool.not_eq_true,zjw]) (fun hp0=>?_) (fun hp0=>?_)
  ·refine zfc (p:=p ≠ [46]) (by rw [Bool.not_eq_true',← Bool.not_eq_true,zjw]) (fun hp1=>?_) (fun hp1=>?_)
   ·refine zfc (p:=p ≠ [46,46]) (by rw [Bool.not_eq_true',← Bool.not_eq_true,zjw]) (fun hp2=>?_) (fun hp2=>?_)
    ·rw [if_neg hp2] at hm2
     refine qlt p rfl fun a W3 hx3 hC3=>?_
     refine qmo rfl (hm2.ext hx3 (by simp)) (by have:=hx2.1;have:=hx3.1;omega) hC3 rfl (by simp;omega) ?_
     intro x4 W4 hm4 hx4
     refine endI ((hx2.trans hx3).own hx4 (by intro b hb hlt;have:=jc hm2 b hb;omega)) ?_
     rw [zg0,zbr,if_neg (by simp [hp0,hp1]),if_neg hp2]
     exact hm4
    ·have hp2:p=[46,46]:=Classical.not_not.1 hp2
     exact same (by rw [zg0,zbr,if_neg (by simp [hp0,hp1]),if_pos hp2,if_pos hp2])
   ·have hp1:p=[46]:=Classical.not_not.1 hp1
    exact same (by rw [zg0,zbr,if_pos (.inr hp1),if_neg (by rw [hp1];exact n2)])
  ·have hp0:p=[]:=Classical.not_not.1 hp0
   exact same (by rw [zg0,zbr,if_pos (.inl hp0),if_neg (by rw [hp0];exact n1)])
 ·have hie:i=L.length+1:=by simp only [jy] at hgt;omega
  have hfe:f=L.length+1:=by rcases hor with h | h <;> omega
  have hdone:z0g T=done:=by rw [hsg,rem,if_neg (by omega),List.append_nil]
  rw [hdone,if_neg (by simp [hany])] at hP
  refine zq (fun hdeep=>?_) (fun hflat=>?_)
  ·refine fin hxW ?_
   rw [hP,if_pos (by simp only at hdeep;omega)]
  ·rw [if_neg (by simp only at hflat;omega)] at hP
   rw [hP]
   exact ⟨x,rfl,hmW,hxW⟩
theorem z4s {w:World} {H:Heap} (L:List UInt8) (hw:w.heap=H) :
  qj P zk4 #[.string (strOf L)] w fun e w'=>∃ x,e=.returned (zcr x)∧Mine w'.heap H.size qc 1 x (strRow (zbo L).1)∧Ext [] H w'.heap:=by
 refine z6v ?_
 unfold zsq
 refine zl (qcz L hw) ?_
 rintro e w' ⟨x,rfl,h⟩
 exact ⟨(x,_),rfl,x,rfl,h⟩
open Go.Sort
theorem znd:∀ {p q:Path},zfz p q=0 ↔ p=q
 | [],[]=>by simp [zfz]
 | [],_ :: _=>by simp [zfz]
 | _ :: _,[]=>by simp [zfz]
 | x :: p,y :: q=>by
  simp only [zfz]
  by_cases h:Lib.compareBytes x y=0
  ·rw [if_neg (fun e=>e h),znd,zfs.1 h];simp
  ·rw [if_pos h]
   have:x ≠ y:=fun e=>h (zfs.2 e)
   simp [h,this]
theorem znh:∀ {p q:Path},zfz p q=- zfz q p
 | [],[]=>by simp [zfz]
 | [],_ :: _=>by simp [zfz]
 | _ :: _,[]=>by simp [zfz]
 | x :: p,y :: q=>by
  simp only [zfz]
  have hn:=zts (a:=x) (b:=y)
  by_cases h:Lib.compareBytes x y=0
  ·rw [if_neg (fun e=>e h),if_neg (fun e=>e (by omega)),znh]
  ·rw [if_pos h,if_pos (by omega),hn]
theorem zvu:∀ {p q:Path},zfz p q=-1 ∨ zfz p q=0 ∨ zfz p q=1
 | [],[]=>by simp [zfz]
 | [],_ :: _=>by simp [zfz]
 | _ :: _,[]=>by simp [zfz]
 | x :: p,y :: q=>by
  simp only [zfz]
  split
  ·exact zka
  ·exact zvu
theorem zqs:∀ {p q r:Path},zfz p q < 0→zfz q r < 0→zfz p r < 0
 | [],[],_,h,_=>by simp [zfz] at h
 | [],_ :: _,[],_,h=>by simp [zfz] at h
 | [],_ :: _,_ :: _,_,_=>by simp [zfz]
 | _ :: _,[],_,h,_=>by simp [zfz] at h
 | _ :: _,_ :: _,[],_,h=>by simp [zfz] at h
 | x :: p,y :: q,z :: r,h1,h2=>by
  simp only [zfz] at h1 h2 ⊢
  by_cases hxy:Lib.compareBytes x y=0
  ·rw [if_neg (fun e=>e hxy)] at h1
   obtain rfl:=zfs.1 hxy
   by_cases hyz:Lib.compareBytes x z=0
   ·rw [if_neg (fun e=>e hyz)] at h2 ⊢
    exact zqs h1 h2
   ·rw [if_pos hyz] at h2 ⊢
    exact h2
  ·rw [if_pos hxy] at h1
   by_cases hyz:Lib.compareBytes y z=0
   ·obtain rfl:=zfs.1 hyz
    rw [if_pos hxy];exact h1
   ·rw [if_pos hyz] at h2
    have h3:=ze5.2 (List.lt_trans (ze5.1 h1) (ze5.1 h2))
    rw [if_pos (by omega)];exact h3
theorem qil {α:Type} (f:α→Path):SWO (ltOf fun x y=>zfz (f x) (f y)):=by
 have h:∀ x y,ltOf (fun x y=>zfz (f x) (f y)) x y=true ↔ zfz (f x) (f y) < 0:=by
  intro x y;unfold ltOf;exact decide_eq_true_iff
 refine ⟨fun x=>?_,fun x y z h1 h2=>?_,fun x y z h1 h2=>?_⟩
 ·rw [← Bool.not_eq_true,h,znd.2 rfl];omega
 ·rw [h] at *;exact zqs h1 h2
 ·rw [← Bool.not_eq_true,h] at *
  intro h3
  have hxy:=zvu (p:=f x) (q:=f y)
  have hyz:=zvu (p:=f y) (q:=f z)
  have n1:=znh (p:=f x) (q:=f y)
  have n2:=znh (p:=f y) (q:=f z)
  rcases Int.lt_or_eq_of_le (show zfz (f y) (f x)≤0 by omega) with h4 | h4
  ·rcases Int.lt_or_eq_of_le (show zfz (f z) (f y)≤0 by omega) with h5 | h5
   ·have h6:=zqs h5 h4
    have n3:=znh (p:=f x) (q:=f z)
    omega
   ·rw [znd.1 h5] at h3;omega
  ·rw [znd.1 h4] at h2;omega
theorem zph:∀ {i:Nat} {p q:Path},p.take i=q.take i→i≤p.length→i≤q.length→zfz p q=zfz (p.drop i) (q.drop i)
 | 0,p,q,_,_,_=>by simp
 | i+1,[],q,_,h,_=>by simp at h
 | i+1,x :: p,[],_,_,h=>by simp at h
 | i+1,x :: p,y :: q,h,h1,h2=>by
  simp only [List.take_succ_cons,List.cons.injEq] at h
  obtain ⟨rfl,h⟩:=h
  simp only [zfz,List.drop_succ_cons]
  rw [if_neg (fun e=>e (zfs.2 rfl))]
  exact zph h (by simpa using h1) (by simpa using h2)
theorem z9n {w:World} {H:Heap} {a b:Option Addr} {n nc m mc:Nat} {p q:Path} (hw:w.heap=H) (hL:Cells H a (strRow p)) (hn:n=p.length) (hM:Cells H b (strRow q)) (hm:m=q.length) (hp:p.length≤1099511627776) :
  qj P zk8 #[.slice a n nc,.slice b m mc] w fun e w'=>e=.returned (.int .i64 (zfz p q))∧w'=w:=by
 subst hn hm
 refine zwz ?_
 unfold zki
 have h:qj P zak #[.slice a p.length nc,.slice b q.length mc,.func (.func zdz) #[] #[]] w fun e w'=>e=.returned (.int .i64 (zfz p q))∧w'=w:=by
  refine zc6 ?_
  unfold zaj
  refine jd (fun (s:Int) W=>∃ i:Nat,s=(i:Int)∧i≤p.length∧i≤q.length∧W=w∧p.take i=q.take i) (fun s _=>(p.length - s).toNat) ⟨0,rfl,Nat.zero_le _,Nat.zero_le _,rfl,by simp⟩ ?_
  rintro _ w ⟨i,rfl,hi,hj,rfl,hs⟩
  have hd:=zph hs hi hj
  refine zq (fun hlt=>?_) (fun hge=>?_)
  ·have hil:i < p.length:=by omega
   refine z1o hw hL rfl hil rfl ?_
   refine zq (fun hge=>?_) (fun hlt2=>?_)
   ·have:i=q.length:=by omega
    rw [List.drop_eq_getElem_cons hil,List.drop_eq_nil_of_le (show q.length≤i by omega)] at hd
    exact ⟨by rw [hd];rfl,rfl⟩
   ·have hjl:i < q.length:=by omega
    refine z1o hw hM rfl hjl rfl ?_
    refine zqp ((qii _ _).mono ?_)
    rintro e w' ⟨rfl,rfl⟩
    refine ⟨_,rfl,?_⟩
    rw [List.drop_eq_getElem_cons hil,List.drop_eq_getElem_cons hjl,zfz] at hd
    refine zb1 (fun hne=>?_) (fun heq=>?_)
    ·rw [if_pos hne] at hd
     exact ⟨by rw [hd],rfl⟩
    ·refine xu ((i+1:Nat):Int) (by omega) (by omega) (by omega) ?_
     exact ⟨⟨i+1,rfl,by omega,by omega,rfl,zyz hil hjl hs (zfs.1 heq)⟩,by omega⟩
  ·have:i=p.length:=by omega
   rw [List.drop_eq_nil_of_le (show p.length≤i by omega)] at hd
   refine zq (fun h=>?_) (fun h=>?_)
   ·rw [List.drop_eq_getElem_cons (show i < q.length by omega)] at hd
    exact ⟨by rw [hd];rfl,rfl⟩
   ·rw [List.drop_eq_nil_of_le (show q.length≤i by omega)] at hd
    exact ⟨by rw [hd];rfl,rfl⟩
 refine zl h ?_
 rintro e w' ⟨rfl,rfl⟩
 exact ⟨_,rfl,rfl,rfl⟩
theorem z2v {w:World} {H:Heap} {a b:Option Addr} {n nc m mc:Nat} {p q:Path} (hw:w.heap=H) (hL:Cells H a (strRow p)) (hn:n=p.length) (hM:Cells H b (strRow q)) (hm:m=q.length) (hp:p.length≤1099511627776) :
  qj P zj6 #[.slice a n nc,.slice b m mc] w fun e w'=>e=.returned (.int .i64 (zfz p q))∧w'.heap=H:=by
 subst hn hm
 refine z07 ?_
 unfold zne
 refine zac ?_
 refine joinP_of (fun _ W=>W.heap=H∧∃ i:Nat,i≤p.length∧i≤q.length∧(i=p.length ∨ i=q.length)∧p.take i=q.take i) ?_ ?_
 ·refine jd (fun (s:Int) W=>∃ i:Nat,s=(i:Int)∧i≤p.length∧i≤q.length∧W.heap=H∧p.take i=q.take i) (fun s _=>(p.length - s).toNat) ⟨0,rfl,Nat.zero_le _,Nat.zero_le _,hw,by simp⟩ ?_
  rintro _ W ⟨i,rfl,hi,hj,hW,hs⟩
  have hd:=zph hs hi hj
  refine zac ?_
  refine zq (fun hlt=>?_) (fun hge=>⟨hW,i,hi,hj,.inl (by omega),hs⟩)
  refine zq (fun hlt2=>?_) (fun hge=>⟨hW,i,hi,hj,.inr (by omega),hs⟩)
  have hil:i < p.length:=by omega
  have hjl:i < q.length:=by omega
  rw [List.drop_eq_getElem_cons hil,List.drop_eq_getElem_cons hjl,zfz] at hd
  have hr:=zka (a:=p[i]) (b:=q[i])
  refine jw hW fun W1 hW1=>?_
  refine qgu hW1 hL rfl hil rfl hM rfl hjl rfl ?_
  rw [zau,zau,bytesLess_eq]
  refine zq (fun h=>?_) (fun h=>?_)
  ·have h2:=ze5.2 h
   rw [if_pos (by omega)] at hd
   exact ⟨by rw [hd];congr 2;omega,hW1⟩
  have hnl:¬ Lib.compareBytes p[i] q[i] < 0:=fun h2=>h (ze5.1 h2)
  refine jw hW1 fun W2 hW2=>?_
  refine qgu hW2 hL rfl hil rfl hM rfl hjl rfl ?_
  rw [zau,zau,bytesLess_eq]
  by_cases e:p[i]=q[i]
  ·refine jl (by simp [e]) ?_
   refine xu ((i+1:Nat):Int) (by omega) (by omega) (by omega) ?_
   exact ⟨⟨i+1,rfl,by omega,by omega,hW2,zyz hil hjl hs e⟩,by omega⟩
  ·refine zab (by simp [e];exact fun h2=>absurd h2 h) ?_
   have h2:Lib.compareBytes p[i] q[i] ≠ 0:=fun h2=>e (zfs.1 h2)
   rw [if_pos h2] at hd
   exact ⟨by rw [hd];congr 2;omega,hW2⟩
 ·rintro _ W ⟨hW,i,hi,hj,hor,hs⟩
  have hd:=zph hs hi hj
  refine zq (fun h=>?_) (fun h=>?_)
  ·rw [List.drop_eq_nil_of_le (show p.length≤i by omega),List.drop_eq_getElem_cons (show i < q.length by omega)] at hd
   exact ⟨by rw [hd];rfl,hW⟩
  ·refine zq (fun h2=>?_) (fun h2=>?_)
   ·rw [List.drop_eq_nil_of_le (show q.length≤i by omega),List.drop_eq_getElem_cons (show i < p.length by omega)] at hd
    exact ⟨by rw [hd];rfl,hW⟩
   ·rw [List.drop_eq_nil_of_le (show q.length≤i by omega),List.drop_eq_nil_of_le (show p.length≤i by omega)] at hd
    exact ⟨by rw [hd];rfl,hW⟩
theorem plain47:zej 47=false:=by decide
theorem zet {L:List UInt8}:zd6 L=true ↔ (L ≠ []∧L.length≤16∧L ≠ [46]∧L ≠ [46,46])∧∀ b ∈ L,zej b=true:=by
 unfold zd6
 rw [Bool.and_eq_true,decide_eq_true_iff,List.all_eq_true]
theorem zxs {L:List UInt8} (h:zd6 L=true):(47:UInt8) ∉ L:=by
 intro hm
 have:=(zet.1 h).2 47 hm
 rw [plain47] at this;cases this
def okP (p:Path):Prop:=(∀ L ∈ p,zd6 L=true)∧p.length≤8
theorem qjb {p:Path}:zwb p=0 ↔ okP p:=by
 unfold zwb okP
 by_cases h:p.all zd6=true
 ·rw [if_pos h]
  rw [List.all_eq_true] at h
  by_cases h2:8 < p.length
  ·rw [if_pos h2]
   constructor
   ·intro h3;omega
   ·intro h3;omega
  ·rw [if_neg h2]
   exact ⟨fun _=>⟨h,by omega⟩,fun _=>rfl⟩
 ·rw [if_neg h]
  rw [List.all_eq_true] at h
  constructor
  ·intro h3;omega
  ·intro h3;exact absurd h3.1 h
theorem okP.take {p:Path} (h:okP p) (i:Nat):okP (p.take i):=⟨fun L hL=>h.1 L (List.mem_of_mem_take hL),by have:=h.2;simp;omega⟩
theorem okP.tlen {p:Path} (h:okP p):tlen p≤16 * p.length:=by
 obtain ⟨h,h8⟩:=h
 clear h8
 induction p with
 | nil=>simp [Go.Proofs.YtbmegmbnlajbbaaGreatDoor.tlen]
 | cons x p ih =>
  have h1:=(zet.1 (h x (by simp))).1.2.1
  have h2:=ih fun L hL=>h L (by simp [hL])
  simp only [Go.Proofs.YtbmegmbnlajbbaaGreatDoor.tlen,List.map_cons,List.sum_cons,List.length_cons] at h2 ⊢
  omega
theorem okP.small {p:Path} (h:okP p):Go.Proofs.YtbmegmbnlajbbaaGreatDoor.tlen p+p.length≤136:=by have:=h.tlen;have:=h.2;omega
theorem zye:∀ {p:Path},p ≠ []→(∀ L ∈ p,zd6 L=true)→pieces (joinP p)=p
 | [],h,_=>absurd rfl h
 | [x],_,h=>by
  have hx:=h x (by simp)
  have:joinP [x]=x:=by simp [joinP]
  rw [this,zny (zxs hx) (zet.1 hx).1.1]
 | x :: y :: p,_,h=>by
  have hx:=h x (by simp)
  have e:joinP (x :: y :: p)=x++47 :: joinP (y :: p):=by simp [joinP]
  rw [e,zj9 (zxs hx),zye (by simp) fun L hL=>h L (List.mem_cons_of_mem _ hL)]
theorem z2i:∀ {p acc:Path},(∀ L ∈ p,zd6 L=true)→p.foldl zbr acc=acc++p
 | [],acc,_=>by simp
 | x :: p,acc,h=>by
  obtain ⟨⟨h1,h2,h3,h4⟩,_⟩:=zet.1 (h x (by simp))
  rw [List.foldl_cons]
  have e:zbr acc x=acc++[x]:=by rw [zbr,if_neg (by simp [h1,h3]),if_neg h4]
  rw [e,z2i fun L hL=>h L (List.mem_cons_of_mem _ hL)];simp
theorem qd4:∀ {p:Path},∀ b ∈ joinP p,b=47 ∨ ∃ L ∈ p,b ∈ L
 | [],b,h=>by simp [joinP] at h
 | x :: p,b,h=>by
  simp only [joinP,List.mem_append,List.mem_flatMap,List.mem_cons] at h
  rcases h with h | ⟨L,hL,h | h⟩
  ·exact .inr ⟨x,by simp,h⟩
  ·exact .inl h
  ·exact .inr ⟨L,by simp [hL],h⟩
theorem zuz {p:Path} (h:okP p):zbo (vw p)=(p,0):=by
 have hlen:(vw p).length≤137:=by
  have h1:=h.small
  unfold vw
  cases p with
  | nil=>simp [joinP]
  | cons x p =>
   simp only [List.length_cons,zxy]
   simp only [List.length_cons] at h1
   omega
 have hok:zt5 (vw p)=true:=by
  unfold zt5 vw
  rw [List.all_eq_true]
  intro b hb
  rcases List.mem_cons.1 hb with rfl | hb
  ·simp
  ·rcases qd4 b hb with rfl | ⟨L,hL,hm⟩
   ·simp
   ·rw [(zet.1 (h.1 L hL)).2 b hm];simp
 have hpc:pieces (vw p)=[] :: p:=by
  unfold vw
  have h0:pieces (47 :: joinP p)=[] :: pieces (joinP p):=zj9 (p:=[]) (by simp)
  rw [h0]
  by_cases hp:p=[]
  ·subst hp;rfl
  ·rw [zye hp h.1]
 have hwalk:zeb (pieces (vw p))=p:=by
  rw [hpc]
  show (p.foldl zbr (zbr [] []))=p
  rw [z2i h.1];simp [zbr]
 have hany:(pieces (vw p)).any (fun x=>decide (16 < x.length))=false:=by
  rw [hpc,List.any_eq_false]
  intro x hx
  rcases List.mem_cons.1 hx with rfl | hx
  ·simp
  ·have:=(zet.1 (h.1 x hx)).1.2.1
   simp;omega
 have h8:=h.2
 unfold zbo
 rw [if_neg (by omega),if_neg (by simp [vw]),if_neg (by simp [hok]),hany,hwalk,if_neg (by simp),if_neg (by omega)]
theorem zxf {p q:Path} (hp:okP p) (hq:okP q) (h:vw p=vw q):p=q:=by
 have:=zuz hp
 rw [h,zuz hq] at this
 simpa using this.symm
theorem znb:∀ {L x:List UInt8},x ∈ pieces L→(47:UInt8) ∉ x∧∀ b ∈ x,b ∈ L
 | [],x,h=>by simp [pieces] at h
 | c :: L,x,h=>by
  rw [pieces] at h
  by_cases hc:c=47
  ·rw [if_pos hc] at h
   rcases List.mem_cons.1 h with rfl | h
   ·simp
   ·have:=znb h
    exact ⟨this.1,fun b hb=>List.mem_cons_of_mem _ (this.2 b hb)⟩
  ·rw [if_neg hc] at h
   cases hps:pieces L with
   | nil =>
    rw [hps] at h
    simp only [List.mem_singleton] at h
    subst h
    exact ⟨by simp [Ne.symm hc],by simp⟩
   | cons p ps =>
    rw [hps] at h
    have hp:=znb (L:=L) (x:=p) (by rw [hps];simp)
    simp only at h
    split at h
    ·rcases List.mem_cons.1 h with rfl | h
     ·exact ⟨by simp [Ne.symm hc],by simp⟩
     ·have:=znb (L:=L) (x:=x) (by rw [hps];simp [h])
      exact ⟨this.1,fun b hb=>List.mem_cons_of_mem _ (this.2 b hb)⟩
    ·rcases List.mem_cons.1 h with rfl | h
     ·refine ⟨by simp [Ne.symm hc,hp.1],fun b hb=>?_⟩
      rcases List.mem_cons.1 hb with rfl | hb
      ·simp
      ·exact List.mem_cons_of_mem _ (hp.2 b hb)
     ·have:=znb (L:=L) (x:=x) (by rw [hps];simp [h])
      exact ⟨this.1,fun b hb=>List.mem_cons_of_mem _ (this.2 b hb)⟩
theorem qcg:∀ {ps acc:Path} {x:List UInt8},x ∈ ps.foldl zbr acc→x ∈ acc ∨ (x ∈ ps∧x ≠ []∧x ≠ [46]∧x ≠ [46,46])
 | [],acc,x,h=>.inl h
 | y :: ps,acc,x,h=>by
  rw [List.foldl_cons] at h
  rcases qcg h with h | ⟨h1,h2⟩
  ·unfold zbr at h
   split at h
   ·exact .inl h
   ·rename_i h1
    split at h
    ·exact .inl ((List.dropLast_sublist acc).subset h)
    ·rename_i h2
     rcases List.mem_append.1 h with h | h
     ·exact .inl h
     ·simp only [List.mem_singleton] at h
      subst h
      simp only [not_or] at h1
      exact .inr ⟨by simp,h1.1,h1.2,h2⟩
  ·exact .inr ⟨List.mem_cons_of_mem _ h1,h2⟩
theorem qip (L:List UInt8):okP (zbo L).1:=by
 have nil:okP []:=⟨by simp,by simp⟩
 unfold zbo
 split
 ·exact nil
 split
 ·exact nil
 split
 ·exact nil
 rename_i hok
 split
 ·exact nil
 rename_i hany
 split
 ·exact nil
 rename_i hdeep
 refine ⟨fun x hx=>?_,by simp only;omega⟩
 rcases qcg hx with h | ⟨h1,h2,h3,h4⟩
 ·cases h
 ·have hm:=znb h1
  rw [zet]
  refine ⟨⟨h2,?_,h3,h4⟩,fun b hb=>?_⟩
  ·simp only [Bool.not_eq_true,List.any_eq_false] at hany
   have:=hany x h1
   simp at this;omega
  ·have hb2:=hm.2 b hb
   simp only [Bool.not_eq_false] at hok
   have h5:=List.all_eq_true.1 hok b hb2
   have h6:b ≠ 47:=fun e=>hm.1 (by rw [← e];exact hb)
   simpa [h6] using h5
def ztb (n:Nat):List UInt8:=if h:n≤127 then [UInt8.ofNat n] else UInt8.ofNat (n % 128+128) :: ztb (n / 128)
termination_by n
decreasing_by omega
theorem zuf {n:Nat} (h:n≤127):ztb n=[UInt8.ofNat n]:=by rw [ztb,dif_pos h]
theorem ztu {n:Nat} (h:127 < n):ztb n=UInt8.ofNat (n % 128+128) :: ztb (n / 128):=by rw [ztb,dif_neg (by omega)]
def zrq (L:List UInt8):List UInt8:=ztb L.length++L
def qo4 (H1:Heap) (F:List Nat) (b:Nat) (L:List UInt8) (W:World) (x:Option Addr × Nat × Nat):Prop:=Ext (b :: F) H1 W.heap∧W.heap[b]?=some (.cells #[zcr x] zgu (0,0))∧Mine W.heap 0 qy 1 x (byteCells L)∧b ∉ xw x∧(∀ c ∈ xw x,c ∈ F ∨ H1.size≤c)∧b < H1.size
def zwx (H1:Heap) (F:List Nat) (b:Nat) (L:List UInt8) (W:World):Prop:=∃ x,qo4 H1 F b L W x
theorem qov (x:BitVec 8):(x ||| 128#8).toNat=x.toNat % 128+128:=by
 revert x;decide
theorem or8 {n:Nat} {K:Int→Prop} (h:K ((n % 128+128:Nat):Int)):orI .u8 ((n % 256:Nat):Int) 128 K:=by
 refine ⟨_,?_,h⟩
 have e1:BitVec.ofInt 8 ((n % 256:Nat):Int)=BitVec.ofNat 8 n:=by
  apply BitVec.eq_of_toNat_eq
  simp [BitVec.toNat_ofInt]
  omega
 show _=IntKind.u8.wrap ((BitVec.ofInt 8 ((n % 256:Nat):Int) ||| BitVec.ofInt 8 128).toNat:Int)
 rw [e1]
 have e2:=qov (BitVec.ofNat 8 n)
 have e3:BitVec.ofInt 8 128=128#8:=by decide
 rw [e3,e2,zkk]
 simp only [BitVec.toNat_ofNat]
 omega
theorem qo0 {w:World} {H1:Heap} {F:List Nat} {b:Nat} {L:List UInt8} {x:Option Addr × Nat × Nat} {m:Nat} {K:World→Prop} (hO:qo4 H1 F b L w x) (hm:m < 256) (hL:L.length≤1099511627776) (hK:∀ w',zwx H1 F b (L++[UInt8.ofNat m]) w'→K w') :
  zal P (Instr.buildSlice zh 1 #[(0,(Value.int .u8 (m:Int)))]) .slc w fun (t18:(Option Addr × Nat × Nat)) w_2 =>
  zal P (Builtin.append_ #[zh,zh] zh #[(Value.slice x.1 x.2.1 x.2.2),(Value.slice t18.1 t18.2.1 t18.2.2)]) .slc w_2 fun (t19:(Option Addr × Nat × Nat)) w_3 =>
  zu (some ⟨b,0,none⟩) fun p_1 =>
  stC p_1 (Value.slice t19.1 t19.2.1 t19.2.2) w_3 K:=by
 obtain ⟨h1,h2,h3,h4,h5,h6⟩:=hO
 have hxl:x.2.1=L.length:=by have:=h3.len;simp at this;omega
 refine zad (s:=.slc) (some ⟨w.heap.size,0,none⟩,1,1) _ (zd0 E8 uS8 (v:=.int .u8 (m:Int)) rfl (by omega) (by omega)) ?_
 have hxp:Ext [] w.heap (w.heap.push (.cells (Value.int .u8 (m:Int)).cells qy)):=.push _
 have hbl:=lt_of_get h2
 refine zcq (n:=1) (us:=byteCells [UInt8.ofNat m]) (H:=w.heap.push (.cells (Value.int .u8 (m:Int)).cells qy)) E8 (by omega) uS8 (za5 uS8) rfl (h3.ext hxp (by simp)) (Nat.zero_le _)
  (Src.slc rfl (.inr ⟨w.heap.size,0,_,_,_,rfl,zn,by simp [Value.cells],by simp [Value.cells,byteCells];omega⟩) rfl) vg (by omega) ?_
 intro x' w4 hm4 hl4 hx4 hs4
 have hb4:w4.heap[b]?=some (.cells #[zcr x] zgu (0,0)):=hx4.get (hxp.get h2 (by simp)) h4
 show stC ⟨b,0,none⟩ (zcr x') w4 K
 refine zcd rfl hb4 (by simp) fun w5 hw5=>hK w5 ?_
 have hx5:Ext [b] w4.heap w5.heap:=by rw [hw5];exact Ext.set _ (by simp)
 have hs1:=h1.1
 have hp1:=hxp.1
 have hbx:b ∉ xw x':=fun h=>by
  rcases hs4 b h with h | h
  ·exact h4 h
  ·have:=hp1;omega
 refine ⟨x',?_,by rw [hw5];exact qw hb4,?_,hbx,fun c hc=>?_,h6⟩
 ·have h14:Ext (b :: F) H1 w4.heap:=(h1.trans (hxp.mono (by simp))).own hx4 (fun c hc hlt=>by
   rcases h5 c hc with h | h
   ·exact List.mem_cons_of_mem _ h
   ·omega)
  exact h14.trans (hx5.mono (by simp))
 ·rw [← byteCells_append]
  exact hm4.ext hx5 (fun c hc=>by simp only [List.mem_singleton];rintro rfl;exact hbx hc)
 ·rcases hs4 c hc with h | h
  ·exact h5 c h
  ·exact .inr (by omega)
theorem qcj:∀ (m n:Nat),n < 128 ^ (m+1)→(ztb n).length≤m+1
 | 0,n,h=>by rw [zuf (by simp at h;omega)];simp
 | m+1,n,h=>by
  by_cases hl:n≤127
  ·rw [zuf hl];simp
  ·rw [ztu (by omega),List.length_cons]
   have:=qcj m (n / 128) (by rw [Nat.pow_succ] at h;omega)
   omega
theorem zd2 {n:Nat} (h:n < 18446744073709551616):(ztb n).length≤10:=qcj 9 n (Nat.lt_of_lt_of_le h (by decide))
theorem qo8 {k:Nat} {K:Int→Prop} (h:K ((k / 128:Nat):Int)):z5y .u64 (k:Int) 7 K:=by
 refine ⟨by omega,_,?_,h⟩
 have e:(2:Int) ^ (min (Int.toNat 7) IntKind.u64.bits)=128:=by decide
 rw [e,Int.fdiv_eq_ediv_of_nonneg _ (by omega)]
 omega
theorem qg6 {w:World} {H1:Heap} {F:List Nat} {b:Nat} {L:List UInt8} (n:Nat) (hO:zwx H1 F b L w) (hn:n < 18446744073709551616) (hL:L.length≤549755813888) :
  qj P zdx #[.pointer (some ⟨b,0,none⟩),.int .u64 (n:Int)] w fun e w'=>e=.returned (.tuple #[])∧zwx H1 F b (L++ztb n) w':=by
 have hnl:=zd2 hn
 refine zyr ?_
 unfold zmo
 refine jl rfl ?_
 refine jd (fun (s:Int) W=>∃ (k:Nat) (M:List UInt8),s=(k:Int)∧zwx H1 F b M W∧M++ztb k=L++ztb n) (fun s _=>s.toNat) ⟨n,L,rfl,hO,rfl⟩ ?_
 rintro _ W ⟨k,M,rfl,⟨x,hX⟩,hM⟩
 have hMl:M.length≤1099511627776:=by have:=congrArg List.length hM;simp at this;omega
 refine zq (fun h=>?_) (fun h=>?_)
 ·simp only [xq]
  refine jh (s:=.slc) (t:=x) rfl hX.2.1 rfl ?_
  refine ⟨_,(zkk k).symm,or8 ?_⟩
  refine qo0 hX (by omega) hMl fun w' hO'=>qo8 ?_
  exact ⟨⟨k / 128,_,rfl,hO',by rw [← hM,ztu (n:=k) (by omega)];simp⟩,by omega⟩
 ·simp only [xq]
  refine jh (s:=.slc) (t:=x) rfl hX.2.1 rfl ?_
  refine ⟨_,(zkk k).symm,?_⟩
  refine qo0 hX (by omega) hMl fun w' hO'=>?_
  rw [Nat.mod_eq_of_lt (by omega),show M++[UInt8.ofNat k]=L++ztb n by rw [← hM,zuf (by omega)]] at hO'
  exact ⟨trivial,hO'⟩
theorem qki {w:World} {H1:Heap} {F:List Nat} {b:Nat} {L:List UInt8} (M:List UInt8) (hO:zwx H1 F b L w) (hL:L.length+M.length≤274877906944) :
  qj P zhq #[.pointer (some ⟨b,0,none⟩),.string (strOf M)] w fun e w'=>e=.returned (.tuple #[])∧zwx H1 F b (L++zrq M) w':=by
 refine zww ?_
 unfold zk1
 refine jl rfl ?_
 have hnl:=zd2 (n:=M.length) (by omega)
 refine zp0 (by omega) (by simp;omega) ?_
 refine zl (qg6 M.length hO (by omega) (by omega)) ?_
 rintro e w1 ⟨rfl,x,hX⟩
 refine ⟨(),rfl,?_⟩
 obtain ⟨h1,h2,h3,h4,h5,h6⟩:=hX
 have hxl:x.2.1=(L++ztb M.length).length:=by have:=h3.len;simp at this;simp;omega
 rw [List.length_append] at hxl
 simp only [xq]
 refine jh (s:=.slc) (t:=x) rfl h2 rfl ?_
 refine zcq E8 (by omega) uS8 ⟨_,z0e,by intro k h;cases h⟩ rfl h3 (Nat.zero_le _) (n:=M.length) (us:=byteCells M) Src.str vg (by omega) ?_
 intro x' w4 hm4 hl4 hx4 hs4
 have hb4:w4.heap[b]?=some (.cells #[zcr x] zgu (0,0)):=hx4.get h2 h4
 refine zcd rfl hb4 (by simp) fun w5 hw5=>?_
 have hx5:Ext [b] w4.heap w5.heap:=by rw [hw5];exact Ext.set _ (by simp)
 have hs1:=h1.1
 have hbl:=lt_of_get h2
 have hbx:b ∉ xw x':=fun h=>by
  rcases hs4 b h with h | h
  ·exact h4 h
  ·omega
 refine ⟨trivial,x',?_,by rw [hw5];exact qw hb4,?_,hbx,fun c hc=>?_,h6⟩
 ·have h14:Ext (b :: F) H1 w4.heap:=h1.own hx4 (fun c hc hlt=>by
   rcases h5 c hc with h | h
   ·exact List.mem_cons_of_mem _ h
   ·omega)
  exact h14.trans (hx5.mono (by simp))
 ·rw [zrq,← List.append_assoc,← byteCells_append]
  exact hm4.ext hx5 (fun c hc=>by simp only [List.mem_singleton];rintro rfl;exact hbx hc)
 ·rcases hs4 c hc with h | h
  ·exact h5 c h
  ·exact .inr (by omega)
theorem qbx {w:World} {H1:Heap} {F:List Nat} {b:Nat} {L:List UInt8} (hO:zwx H1 F b L w) (hL:L.length≤549755813888) :
  qj P zjs #[.pointer (some ⟨b,0,none⟩)] w fun e w'=>∃ y,e=.returned (zcr y)∧Mine w'.heap w.heap.size qy 1 y (byteCells L)∧Ext [] w.heap w'.heap:=by
 obtain ⟨x,h1,h2,h3,h4,h5,h6⟩:=hO
 have hxl:x.2.1=L.length:=by have:=h3.len;simp at this;omega
 refine zv7 ?_
 unfold zi2
 refine jl rfl ?_
 simp only [xq]
 refine jh (s:=.slc) (t:=x) rfl h2 rfl ?_
 refine zcq (x:=(none,0,0)) (vs:=[]) (B:=w.heap.size) E8 (by omega) uS8 (za5 uS8) rfl (.inl ⟨rfl,rfl⟩) (Nat.le_refl _) (Src.slc rfl h3.cells (by simp;omega)) vg (by simp only;omega) ?_
 intro y w' hm hl hx hs
 exact ⟨y,rfl,by simpa using hm,hx.mono (by simp [xw])⟩
def zgk (k:Int):List UInt8:=ztb (IntKind.u64.wrap k).toNat
theorem z8o (k:Int):0≤IntKind.u64.wrap k∧IntKind.u64.wrap k < 18446744073709551616:=by
 simp only [IntKind.wrap,IntKind.bits,IntKind.signed]
 have e:(2:Int) ^ 64=18446744073709551616:=by decide
 simp only [e,Bool.false_and,Bool.false_eq_true,if_false]
 omega
theorem cvU {k:Int} {K:Int→Prop} (h:∀ n:Nat,n=(IntKind.u64.wrap k).toNat→n < 18446744073709551616→K (n:Int)):cvI .u64 k K:=by
 have hw:=z8o k
 refine ⟨((IntKind.u64.wrap k).toNat:Int),by omega,h _ rfl (by omega)⟩
theorem zd3 {k:Int}:(zgk k).length≤10:=zd2 (by have:=z8o k;omega)
theorem zcO:zc P zgu=#[zcr (none,0,0)]:=by kernel_rfl
theorem zwx.rebase {H1:Heap} {F:List Nat} {b:Nat} {L:List UInt8} {w w':World} (h:zwx H1 F b L w) (hx:Ext [] w.heap w'.heap):∃ F',zwx w'.heap F' b L w'∧(∀ c ∈ F',c ∈ F ∨ H1.size≤c)∧∀ c ∈ F',c < w.heap.size:=by
 obtain ⟨x,h1,h2,h3,h4,h5,h6⟩:=h
 have:=hx.1
 have:=lt_of_get h2
 refine ⟨xw x,⟨x,.refl _ _,hx.get h2 (by simp),h3.ext hx (by simp),h4,fun c hc=>.inl hc,by omega⟩,h5,fun c hc=>?_⟩
 rcases h3 with ⟨hx1,_⟩ | ⟨b',c',hx1,_,hb',_⟩
 ·simp [xw,hx1] at hc
 ·simp [xw,hx1] at hc
  subst hc
  exact lt_of_get hb'
theorem zwx.unbase {H1:Heap} {F F':List Nat} {b:Nat} {L L':List UInt8} {w w1 w':World} (h:zwx H1 F b L w) (hx:Ext [] w.heap w1.heap) (hF:∀ c ∈ F',c ∈ F ∨ H1.size≤c) (h':zwx w1.heap F' b L' w'):zwx H1 F b L' w':=by
 obtain ⟨x,h1,h2,h3,h4,h5,h6⟩:=h
 obtain ⟨y,g1,g2,g3,g4,g5,g6⟩:=h'
 have s1:=h1.1
 have s2:=hx.1
 refine ⟨y,(h1.trans (hx.mono (by simp))).own g1 (fun c hc hlt=>?_),g2,g3,g4,fun c hc=>?_,h6⟩
 ·rcases List.mem_cons.1 hc with rfl | hc
  ·simp
  ·rcases hF c hc with h | h
   ·exact List.mem_cons_of_mem _ h
   ·omega
 ·rcases g5 c hc with h | h
  ·exact hF c h
  ·exact .inr (by omega)
theorem zwx.ext {H1:Heap} {F:List Nat} {b:Nat} {L:List UInt8} {w w':World} (h:zwx H1 F b L w) (hx:Ext [] w.heap w'.heap):zwx H1 F b L w':=by
 obtain ⟨x,h1,h2,h3,h4,h5,h6⟩:=h
 exact ⟨x,h1.trans (hx.mono (by simp)),hx.get h2 (by simp),h3.ext hx (by simp),h4,h5,h6⟩
def rdN:Nat→Nat→List UInt8→Option (Nat × List UInt8)
 | _,_,[]=>none
 | at',acc,c :: R=>if (at'=9∧1 < c.toNat) ∨ (0 < at'∧c.toNat=0) then none else
  if c.toNat < 128 then some (acc+c.toNat * 128 ^ at',R) else rdN (at'+1) (acc+(c.toNat % 128) * 128 ^ at') R
def rdNum (R:List UInt8):Option (Nat × List UInt8):=rdN 0 0 R
theorem qce:∀ (R0:List UInt8) (e acc n:Nat) (R:List UInt8),e≤9→rdN e acc R0=some (n,R)→∃ m,R0=ztb m++R∧n=acc+m * 128 ^ e∧m < 2 ^ (64 - 7 * e)∧(0 < e→0 < m)
 | [],e,acc,n,R,he,h=>by simp [rdN] at h
 | c :: R0,e,acc,n,R,he,h=>by
  simp only [rdN] at h
  have hc:=c.toNat_lt
  split at h
  ·cases h
  ·rename_i hbad
   split at h
   ·rename_i hlt
    simp only [Option.some.injEq,Prod.mk.injEq] at h
    obtain ⟨rfl,rfl⟩:=h
    refine ⟨c.toNat,?_,rfl,?_,fun h=>by omega⟩
    ·rw [zuf (by omega)];simp
    ·by_cases h9:e=9
     ·subst h9;simp;omega
     ·have:2 ^ 8≤2 ^ (64 - 7 * e):=Nat.pow_le_pow_right (by omega) (by omega)
      omega
   ·rename_i hge
    have h9:e < 9:=by omega
    obtain ⟨m,e1,e2,e3,e4⟩:=qce R0 (e+1) _ n R (by omega) h
    have hm:=e4 (by omega)
    refine ⟨c.toNat % 128+128 * m,?_,?_,?_,fun _=>by omega⟩
    ·rw [ztu (by omega),show (c.toNat % 128+128 * m) % 128+128=c.toNat by omega,show (c.toNat % 128+128 * m) / 128=m by omega,e1]
     simp
    ·rw [e2,Nat.pow_succ,Nat.add_mul]
     generalize 128 ^ e=q
     rw [Nat.mul_comm q 128,← Nat.mul_assoc,Nat.mul_comm m 128]
     omega
    ·have e5:2 ^ (64 - 7 * e)=2 ^ (64 - 7 * (e+1)) * 128:=by
      rw [show 64 - 7 * e=(64 - 7 * (e+1))+7 by omega,Nat.pow_add]
     omega
theorem qez {R0 R:List UInt8} {n:Nat} (h:rdNum R0=some (n,R)):R0=ztb n++R∧n < 18446744073709551616:=by
 obtain ⟨m,h1,h2,h3,_⟩:=qce R0 0 0 n R (by omega) h
 simp at h2
 subst h2
 exact ⟨h1,by simpa using h3⟩
def zxn (most:Nat) (R:List UInt8):Option (List UInt8 × List UInt8) :=
 match rdNum R with
 | none=>none
 | some (n,R)=>if most < n ∨ R.length < n then none else some (R.take n,R.drop n)
abbrev Rest:=Option (List UInt8)
def InW (H:Heap) (b:Nat) (F:List Nat) (s:Rest):Prop:=∃ (x:Option Addr × Nat × Nat) (e:Int),H[b]?=some (.cells #[zcr x,.int .i64 e] zm3 (0,0))∧b ∉ F∧(∀ c ∈ xw x,c ∈ F) ∧
 (match s with | some R=>e=0∧Cells H x.1 (byteCells R)∧x.2.1=R.length∧x.2.1≤x.2.2∧R.length≤9223372036854775807 | none=>e ≠ 0)
theorem zto {H H':Heap} {M F:List Nat} {x:Option Addr × Nat × Nat} {vs:List Value} (h:Cells H x.1 vs) (hx:Ext M H H') (hF:∀ c ∈ xw x,c ∈ F) (hM:∀ c ∈ F,c ∉ M):Cells H' x.1 vs :=
 h.ext hx fun a ha _=>hM _ (hF _ (by simp [xw,ha]))
theorem InW.ext {H H':Heap} {b:Nat} {F M:List Nat} {s:Rest} (h:InW H b F s) (hx:Ext M H H') (hb:b ∉ M) (hF:∀ c ∈ F,c ∉ M):InW H' b F s:=by
 obtain ⟨x,e,h1,h2,h3,h4⟩:=h
 refine ⟨x,e,hx.get h1 hb,h2,h3,?_⟩
 cases s with
 | none=>exact h4
 | some R=>exact ⟨h4.1,zto h4.2.1 hx h3 hF,h4.2.2⟩
theorem InW.lt {H:Heap} {b:Nat} {F:List Nat} {s:Rest} (h:InW H b F s):b < H.size:=by obtain ⟨x,e,h1,_⟩:=h;exact lt_of_get h1
theorem zw7 {w:World} {H:Heap} {b:Nat} {F:List Nat} {s:Rest} (code:Int) (hw:w.heap=H) (hI:InW H b F s) (hc:code ≠ 0) :
  qj P zct #[.pointer (some ⟨b,0,none⟩),.int .i64 code] w fun e w'=>e=.returned (.tuple #[])∧InW w'.heap b F none∧Ext [b] H w'.heap:=by
 obtain ⟨x,e,h1,h2,h3,_⟩:=hI
 refine zy0 ?_
 unfold zma
 simp only [xq,jr]
 refine zcd hw h1 (by simp) fun w1 hw1=>?_
 have hx1:Ext [b] H w1.heap:=by rw [hw1];exact Ext.set _ (by simp)
 have hb1:w1.heap[b]?=some (.cells #[zcr (none,0,0),.int .i64 e] zm3 (0,0)):=by rw [hw1];exact qw h1
 refine zcd rfl hb1 (by simp) fun w2 hw2=>?_
 exact ⟨trivial,⟨(none,0,0),code,by rw [hw2];exact qw hb1,h2,by simp [xw],hc⟩,by rw [hw2];exact hx1.set_own (.inr (by simp))⟩
def qdd (x:Option Addr × Nat × Nat) (k:Nat):Option Addr × Nat × Nat:=(if x.2.2=k then x.1 else x.1.map (·.add (k * 1)),x.2.1 - k,x.2.2 - k)
theorem qdc {x:Option Addr × Nat × Nat} {k:Nat}:∀ c ∈ xw (qdd x k),c ∈ xw x:=by
 obtain ⟨a,n,m⟩:=x
 intro c hc
 unfold qdd at hc
 simp only at hc
 split at hc
 ·exact hc
 ·cases a with
  | none=>simp [xw] at hc
  | some a =>
   have:(a.add k).block=a.block:=by unfold Addr.add;split <;> rfl
   simpa [xw,this] using hc
theorem z18 {H:Heap} {x:Option Addr × Nat × Nat} {R:List UInt8} (h:Cells H x.1 (byteCells R)) (k:Nat) (hl:R.length≤x.2.2):Cells H (qdd x k).1 (byteCells (R.drop k)):=by
 have:=Cells.drop h k x.2.2 (by simpa using hl)
 rw [zfy] at this
 simpa only [qdd,Nat.mul_one] using this
def nx:Rest→(Int × Bool) × Rest
 | some (c :: R)=>(((c.toNat:Int),true),some R)
 | _=>((0,false),none)
theorem qf2 {w:World} {H:Heap} {b:Nat} {F:List Nat} {s:Rest} (hw:w.heap=H) (hI:InW H b F s) :
  qj P zl9 #[.pointer (some ⟨b,0,none⟩)] w fun e w'=>e=.returned (.tuple #[.int .u8 (nx s).1.1,.bool (nx s).1.2])∧InW w'.heap b F (nx s).2∧Ext [b] H w'.heap:=by
 obtain ⟨x,e,h1,h2,h3,h4⟩:=id hI
 refine zyv ?_
 unfold zmd
 refine zac ?_
 refine jl rfl ?_
 simp only [xq,jr]
 refine jh (s:=.int .i64) (t:=e) hw h1 rfl ?_
 cases s with
 | none=>exact zb1 (fun _=>⟨rfl,by rw [hw];exact hI,by rw [hw];exact .refl _ _⟩) (fun h=>absurd h h4)
 | some R =>
  obtain ⟨rfl,hC,hl,hcap,hlen⟩:=h4
  refine jl rfl ?_
  refine jh (s:=.slc) (t:=x) hw h1 rfl ?_
  cases R with
  | nil =>
   refine zab (by simp [hl]) ?_
   refine zl (zw7 20 hw hI (by omega)) ?_
   rintro e w' ⟨rfl,h⟩
   exact ⟨(),rfl,rfl,h⟩
  | cons c R =>
   refine jl (by simp [hl];omega) ?_
   refine jh (s:=.slc) (t:=x) hw h1 rfl ?_
   obtain ⟨b2,o,cs,T,fr,hx1,hb2,ho,hby⟩:=hC.bytes (by simp)
   rw [hx1]
   refine zqz 0 rfl (by rw [hl];simp) ?_
   refine jh (s:=.int .u8) (t:=(c.toNat:Int)) hw hb2 (by have:=hby 0 (by simp);simp at this;exact this) ?_
   refine jh (s:=.slc) (t:=x) hw h1 rfl ?_
   refine qm (s:=.slc) (qdd x 1) (zaq uS8 sz8 (.yes rfl) .no (by rw [hl];simp) hcap) ?_
   refine zcd hw h1 (by simp) fun w1 hw1=>?_
   have hx:Ext [b] H w1.heap:=by rw [hw1];exact Ext.set _ (by simp)
   have hown:∀ d ∈ xw (qdd x 1),d ∈ F:=fun d hd=>h3 d (qdc d hd)
   refine ⟨rfl,⟨qdd x 1,0,by rw [hw1];exact qw h1,h2,hown,rfl,?_,by simp [qdd,hl],by simp only [qdd];omega,by simp at hlen;omega⟩,hx⟩
   exact zto (z18 hC 1 (by omega)) hx hown fun d hd h=>by simp at h;subst h;exact h2 hd
theorem zzh (m:Nat):(BitVec.ofInt 64 (m:Int)).toNat=m % 18446744073709551616:=by
 rw [BitVec.toNat_ofInt]
 have:((2:Nat) ^ 64:Nat)=18446744073709551616:=by decide
 rw [this];omega
theorem qpr {a b:Nat} {K:Int→Prop} (ha:a < 18446744073709551616) (hb:b < 18446744073709551616) (h:K ((a ||| b:Nat):Int)):orI .u64 (a:Int) (b:Int) K:=by
 refine ⟨_,?_,h⟩
 have e:(BitVec.ofInt IntKind.u64.bits (a:Int) ||| BitVec.ofInt IntKind.u64.bits (b:Int)).toNat=a ||| b:=by
  show (BitVec.ofInt 64 (a:Int) ||| BitVec.ofInt 64 (b:Int)).toNat=a ||| b
  rw [BitVec.toNat_or,zzh,zzh,Nat.mod_eq_of_lt ha,Nat.mod_eq_of_lt hb]
 rw [e,qer]
 have:a ||| b < 2 ^ 64:=Nat.or_lt_two_pow (by simpa using ha) (by simpa using hb)
 rw [Nat.mod_eq_of_lt (by simpa using this)]
theorem qm2 (x:BitVec 8):(x &&& 127#8).toNat=x.toNat % 128:=by
 revert x;decide
theorem qpf {c:UInt8} {K:Int→Prop} (h:K ((c.toNat % 128:Nat):Int)):qbj .u8 (c.toNat:Int) 127 K:=by
 refine ⟨_,?_,h⟩
 have e1:BitVec.ofInt 8 (c.toNat:Int)=BitVec.ofNat 8 c.toNat:=by
  apply BitVec.eq_of_toNat_eq
  simp
 show _=IntKind.u8.wrap ((BitVec.ofInt 8 (c.toNat:Int) &&& BitVec.ofInt 8 127).toNat:Int)
 have e3:BitVec.ofInt 8 127=127#8:=by decide
 rw [e1,e3,qm2,zkk]
 have:=c.toNat_lt
 simp only [BitVec.toNat_ofNat]
 omega
theorem qhy (e:Nat):2 ^ (7 * e)=128 ^ e:=by rw [Nat.pow_mul]
theorem more7 {c:UInt8} {e acc:Nat} (he:e≤9) (ha:acc < 128 ^ e) (h9:e=9→c.toNat≤1) {i:Int} (hi:i=7 * (e:Int)) {K:Int→Prop} (h:K ((acc+c.toNat % 128 * 128 ^ e:Nat):Int)) :
  qia .u64 ((c.toNat % 128:Nat):Int) i fun t=>orI .u64 (acc:Int) t K:=by
 have hc:=c.toNat_lt
 have hp:128 ^ e≤128 ^ 9:=Nat.pow_le_pow_right (by omega) he
 have h128:(128:Nat) ^ 9=9223372036854775808:=by decide
 have hlt:c.toNat % 128 * 128 ^ e < 18446744073709551616:=by
  by_cases h:e=9
  ·subst h
   have:=h9 rfl
   have h1:c.toNat % 128≤1:=by omega
   calc c.toNat % 128 * 128 ^ 9≤1 * 128 ^ 9:=Nat.mul_le_mul_right _ h1
    _ < _:=by decide
  ·have hp8:128 ^ e≤128 ^ 8:=Nat.pow_le_pow_right (by omega) (by omega)
   calc c.toNat % 128 * 128 ^ e≤127 * 128 ^ 8:=Nat.mul_le_mul (by omega) hp8
    _ < _:=by decide
 refine ⟨by omega,((c.toNat % 128 * 128 ^ e:Nat):Int),?_,?_⟩
 ·have e1:min i.toNat IntKind.u64.bits=7 * e:=by
   have:IntKind.u64.bits=64:=rfl
   omega
  rw [e1]
  have e2:((c.toNat % 128:Nat):Int) * 2 ^ (7 * e)=((c.toNat % 128 * 128 ^ e:Nat):Int):=by
   rw [← qhy];simp
  rw [e2,wrap_u64 (by omega) (by omega)]
 ·refine qpr (by omega) hlt ?_
  have h2:acc ||| c.toNat % 128 * 128 ^ e=acc+c.toNat % 128 * 128 ^ e:=by
   rw [← qhy]
   have h3:=Nat.shiftLeft_add_eq_or_of_lt (i:=7 * e) (b:=acc) (by rw [qhy];exact ha) (c.toNat % 128)
   rw [Nat.shiftLeft_eq] at h3
   rw [Nat.or_comm,← h3,Nat.add_comm]
  rw [h2];exact h
def nmS (s:Rest):Nat × Rest:=match s with | none=>(0,none) | some R=>match rdNum R with | none=>(0,none) | some (n,R)=>(n,some R)
def txS (most:Nat) (s:Rest):List UInt8 × Rest:=match s with | none=>([],none) | some R=>match zxn most R with | none=>([],none) | some (t,R)=>(t,some R)
theorem z9q {w:World} {H:Heap} {b:Nat} {F:List Nat} {s:Rest} (hw:w.heap=H) (hI:InW H b F s) :
  qj P zef #[.pointer (some ⟨b,0,none⟩)] w fun e w'=>e=.returned (.int .u64 ((nmS s).1:Int))∧InW w'.heap b F (nmS s).2∧Ext [b] H w'.heap:=by
 refine z0p ?_
 unfold znw
 cases s with
 | none =>
  refine jd (fun (s:Int × Int) W=>W=w) (fun _ _=>0) rfl ?_
  rintro s W rfl
  refine zac ?_
  refine zl (qf2 hw hI) ?_
  rintro e w' ⟨rfl,h⟩
  refine ⟨(0,false),rfl,?_⟩
  exact zab rfl ⟨rfl,h⟩
 | some R0 =>
 refine jd (fun (s:Int × Int) W=>∃ (acc e:Nat) (R:List UInt8),s=((acc:Int),(e:Int))∧e≤9∧acc < 128 ^ e∧InW W.heap b F (some R)∧rdN e acc R=rdNum R0∧Ext [b] H W.heap) (fun s _=>(10 - s.2).toNat)
  ⟨0,0,R0,rfl,by omega,by simp,by rw [hw];exact hI,rfl,by rw [hw];exact .refl _ _⟩ ?_
 rintro _ W ⟨acc,e,R,rfl,he,hacc,hIW,hrd,hxW⟩
 refine zac ?_
 refine zl (qf2 rfl hIW) ?_
 rintro e' w2 ⟨rfl,hI2,hx2⟩
 have hx02:=hxW.trans hx2
 cases R with
 | nil =>
  refine ⟨(0,false),rfl,?_⟩
  refine zab rfl ?_
  have:nmS (some R0)=(0,none):=by simp only [nmS,← hrd,rdN]
  rw [this]
  exact ⟨rfl,hI2,hx02⟩
 | cons c R =>
  refine ⟨((c.toNat:Int),true),rfl,?_⟩
  refine jl rfl ?_
  have hbad:((e=9∧1 < c.toNat) ∨ (0 < e∧c.toNat=0))→xg P zct #[(Value.pointer (some ⟨b,0,none⟩)),(Value.int .i64 21)] [] true w2 fun (_:Unit) w_3 =>
    Ending.returned (Value.int .u64 0)=.returned (.int .u64 ((nmS (some R0)).1:Int))∧InW w_3.heap b F (nmS (some R0)).2∧Ext [b] H w_3.heap:=by
   intro hb
   have:nmS (some R0)=(0,none):=by simp only [nmS,← hrd,rdN,if_pos hb]
   rw [this]
   refine zl (zw7 21 rfl hI2 (by omega)) ?_
   rintro e3 w3 ⟨rfl,h3,hx3⟩
   exact ⟨(),rfl,rfl,h3,hx02.trans hx3⟩
  refine joinP_of (fun _ W'=>W'=w2∧¬ ((e=9∧1 < c.toNat) ∨ (0 < e∧c.toNat=0))) ?_ ?_
  ·refine zb3 (fun h9=>?_) (fun h9=>?_)
   ·refine zq (fun h1=>hbad (.inl ⟨by omega,by simp only at h1;omega⟩)) (fun h1=>?_)
    refine zq (fun hp=>?_) (fun hp=>⟨rfl,by simp only at h1;omega⟩)
    exact zb3 (fun h0=>hbad (.inr ⟨by omega,by simp only at h0;omega⟩)) (fun h0=>⟨rfl,by simp only at h0 h1;omega⟩)
   ·refine zq (fun hp=>?_) (fun hp=>⟨rfl,by simp only at h9 hp;omega⟩)
    exact zb3 (fun h0=>hbad (.inr ⟨by simp only at hp;omega,by simp only at h0;omega⟩)) (fun h0=>⟨rfl,by simp only at h0 h9;omega⟩)
  rintro _ W' ⟨rfl,hok⟩
  refine qpf ?_
  refine zp0 (by omega) (by omega) ?_
  refine zfq (7 * (e:Int)) rfl (by omega) (by omega) ?_
  refine more7 he hacc (fun h=>by omega) rfl ?_
  refine zq (fun h=>?_) (fun h=>?_)
  ·have hc:c.toNat < 128:=by simp only at h;omega
   have:nmS (some R0)=(acc+c.toNat * 128 ^ e,some R):=by simp only [nmS,← hrd,rdN,if_neg hok,if_pos hc]
   rw [this,Nat.mod_eq_of_lt hc]
   exact ⟨rfl,hI2,hx02⟩
  ·have hc:¬ c.toNat < 128:=by simp only at h;omega
   refine xu ((e+1:Nat):Int) (by omega) (by omega) (by omega) ?_
   refine ⟨⟨_,e+1,R,rfl,by omega,?_,hI2,?_,hx02⟩,by omega⟩
   ·rw [Nat.pow_succ]
    have:c.toNat % 128 * 128 ^ e≤127 * 128 ^ e:=Nat.mul_le_mul_right _ (by omega)
    omega
   ·rw [← hrd];simp only [rdN,if_neg hok,if_neg hc]
theorem qpa (n:Nat) (w:World):(Builtin.max_ #[zdf,zdf] zdf #[.int .i64 (n:Int),.int .i64 0]).run P w=.ok (.int .i64 (n:Int)) w:=by
 rw [run_max_int2]
 congr 2
theorem qgy {w:World} {H:Heap} {b:Nat} {F:List Nat} {R:List UInt8} {n:Nat} (hw:w.heap=H) (hI:InW H b F (some R)) (hn:n≤9223372036854775807) :
  qj P zfu #[.pointer (some ⟨b,0,none⟩),.int .i64 (n:Int)] w fun e w'=>Ext [b] H w'.heap∧((R.length < n∧e=.returned (.slice none 0 0)∧InW w'.heap b F none) ∨
   (n≤R.length∧∃ y,e=.returned (zcr y)∧Cells w'.heap y.1 (byteCells (R.take n))∧y.2.1=n∧(∀ c ∈ xw y,c ∈ F)∧InW w'.heap b F (some (R.drop n)))):=by
 obtain ⟨x,e,h1,h2,h3,rfl,hC,hl,hcap,hlen⟩:=id hI
 refine zqh ?_
 unfold zij
 refine zac ?_
 refine jl rfl ?_
 simp only [xq,jr]
 refine jh (s:=.int .i64) (t:=0) hw h1 rfl ?_
 refine jl rfl ?_
 refine jh (s:=.slc) (t:=x) hw h1 rfl ?_
 refine zq (fun h=>?_) (fun h=>?_)
 ·refine zl (zw7 20 hw hI (by omega)) ?_
  rintro e3 w3 ⟨rfl,h3,hx3⟩
  exact ⟨(),rfl,hx3,.inl ⟨by omega,trivial,h3⟩⟩
 ·have hnl:n≤R.length:=by omega
  refine jh (s:=.slc) (t:=x) hw h1 rfl ?_
  refine qm (s:=.slc) (if x.2.2=0 then x.1 else x.1.map (·.add (0 * 1)),n - 0,x.2.2 - 0) (zaq uS8 sz8 .no (.yes rfl) (Nat.zero_le _) (by omega)) ?_
  refine jh (s:=.slc) (t:=x) hw h1 rfl ?_
  refine qm (s:=.slc) (qdd x n) (zaq uS8 sz8 (.yes rfl) .no (by omega) hcap) ?_
  refine zcd hw h1 (by simp) fun w1 hw1=>?_
  have hx:Ext [b] H w1.heap:=by rw [hw1];exact Ext.set _ (by simp)
  have hFb:∀ c ∈ F,c ∉ [b]:=fun d hd h=>by simp at h;subst h;exact h2 hd
  have hown:∀ d ∈ xw (qdd x n),d ∈ F:=fun d hd=>h3 d (qdc d hd)
  have hy:((if x.2.2=0 then x.1 else x.1.map (·.add (0 * 1)),n - 0,x.2.2 - 0):Option Addr × Nat × Nat).1=x.1:=by
   simp only
   split
   ·rfl
   ·cases x.1 with
    | none=>rfl
    | some a=>simp [Addr.add]
  refine ⟨hx,.inr ⟨hnl,(if x.2.2=0 then x.1 else x.1.map (·.add (0 * 1)),n - 0,x.2.2 - 0),rfl,?_,by simp,?_,⟨qdd x n,0,by rw [hw1];exact qw h1,h2,hown,rfl,?_,by simp [qdd,hl],by simp only [qdd];omega,by simp;omega⟩⟩⟩
  ·rw [hy,← zfw]
   exact zto (hC.take n) hx h3 hFb
  ·intro c hc
   refine h3 c ?_
   unfold xw at hc ⊢
   rw [hy] at hc;exact hc
  ·exact zto (z18 hC n (by omega)) hx hown hFb
theorem qft {w:World} {H:Heap} {b:Nat} {F:List Nat} {s:Rest} {most:Nat} (hw:w.heap=H) (hI:InW H b F s) (hm:most≤1073741824) :
  qj P zik #[.pointer (some ⟨b,0,none⟩),.int .i64 (most:Int)] w fun e w'=>e=.returned (.string (strOf (txS most s).1))∧InW w'.heap b F (txS most s).2∧Ext [b] H w'.heap:=by
 refine zxq ?_
 unfold zmw
 refine zl (z9q hw hI) ?_
 rintro e w1 ⟨rfl,h1,hx1⟩
 refine ⟨((nmS s).1:Int),rfl,?_⟩
 refine joinP_of (fun _ W=>W=w1∧∃ R,(nmS s).2=some R) ?_ ?_
 ·refine jl rfl ?_
  obtain ⟨x,e,g1,g2,g3,g4⟩:=id h1
  simp only [xq,jr]
  refine jh (s:=.int .i64) (t:=e) rfl g1 rfl ?_
  cases hs:(nmS s).2 with
  | none =>
   rw [hs] at g4 h1
   have:txS most s=([],none):=by
    cases s with
    | none=>rfl
    | some R =>
     simp only [nmS] at hs
     simp only [txS,zxn]
     cases h:rdNum R with
     | none=>rfl
     | some y=>rw [h] at hs;simp at hs
   rw [this]
   refine zb1 (fun _=>⟨rfl,h1,hx1⟩) (fun h=>absurd h g4)
  | some R =>
   rw [hs] at g4
   exact jl (by rw [g4.1];rfl) ⟨trivial,R,rfl⟩
 rintro _ W ⟨hW,R,hR⟩
 subst hW
 obtain ⟨R0,rfl,hn⟩:∃ R0,s=some R0∧rdNum R0=some ((nmS s).1,R):=by
  cases s with
  | none=>simp [nmS] at hR
  | some R0 =>
   refine ⟨R0,rfl,?_⟩
   simp only [nmS] at hR ⊢
   cases h:rdNum R0 with
   | none=>rw [h] at hR;simp at hR
   | some y=>rw [h] at hR;simp at hR ⊢;rw [← hR]
 rw [hR] at h1
 have hlt:=(qez hn).2
 generalize (nmS (some R0)).1=n at hn hlt
 refine qm (s:=.int .i64) (most:Int) (qpa most W) ?_
 refine zp0 (by omega) (by omega) ?_
 refine zq (fun h=>?_) (fun h=>?_)
 ·have:txS most (some R0)=([],none):=by simp only [txS,zxn,hn];rw [if_pos (by omega)]
  rw [this]
  refine zl (zw7 2 rfl h1 (by omega)) ?_
  rintro e3 w3 ⟨rfl,h3,hx3⟩
  exact ⟨(),rfl,rfl,h3,hx1.trans hx3⟩
 ·refine z4e (by omega) (by omega) ?_
  refine zl (qgy rfl h1 (by omega)) ?_
  rintro e3 w3 ⟨hx3,⟨hl,rfl,h3⟩ | ⟨hl,y,rfl,hC,hy,ho,h3⟩⟩
  ·refine ⟨(none,0,0),rfl,?_⟩
   have:txS most (some R0)=([],none):=by simp only [txS,zxn,hn];rw [if_pos (by omega)]
   rw [this]
   refine qm (s:=.str) (strOf []) (zvw uS8 u8 z0e rfl (L:=[]) (.inl rfl) rfl) ?_
   exact ⟨rfl,h3,hx1.trans hx3⟩
  ·refine ⟨y,rfl,?_⟩
   have:txS most (some R0)=(R.take n,some (R.drop n)):=by simp only [txS,zxn,hn];rw [if_neg (by omega)]
   rw [this]
   refine qm (s:=.str) (strOf (R.take n)) (zvw uS8 u8 z0e rfl hC (by rw [hy];simp;omega)) ?_
   exact ⟨rfl,h3,hx1.trans hx3⟩
theorem qmg {w:World} {H:Heap} {b:Nat} {F:List Nat} {s:Rest} (hw:w.heap=H) (hI:InW H b F s) :
  qj P zn7 #[.pointer (some ⟨b,0,none⟩)] w fun e w'=>e=.returned (.bool (decide (s=some [])))∧w'=w:=by
 obtain ⟨x,e,h1,h2,h3,h4⟩:=id hI
 refine z0r ?_
 unfold zoh
 refine zab rfl ?_
 simp only [xq,jr]
 refine jh (s:=.int .i64) (t:=e) hw h1 rfl ?_
 cases s with
 | none=>exact zb3 (fun h=>absurd h h4) (fun _=>⟨by simp,trivial⟩)
 | some R =>
  refine zab (by rw [h4.1];rfl) ?_
  refine jh (s:=.slc) (t:=x) hw h1 rfl ?_
  refine ⟨?_,trivial⟩
  congr 2
  rw [h4.2.2.1,Bool.eq_iff_iff]
  simp
theorem bIn (x:Option Addr × Nat × Nat) (w:World):(Instr.build zm3 #[(0,.slice x.1 x.2.1 x.2.2)]).run P w=.ok (.agg #[zcr x,.int .i64 0]) w:=by kernel_rfl
theorem qm4 {w:World} {H:Heap} {a:Option Addr} {n nc:Nat} {L:List UInt8} (hw:w.heap=H) (hL:Cells H a (byteCells L)) (hn:n=L.length) (hl:L.length≤1099511627776) :
  qj P zsz #[.slice a n nc] w fun e w'=>∃ b F,e=.returned (.pointer (some ⟨b,0,none⟩))∧InW w'.heap b F (some L)∧Ext [] H w'.heap∧H.size≤b∧(∀ c ∈ F,H.size≤c)∧b < w'.heap.size∧∀ c ∈ F,c < w'.heap.size:=by
 subst hn
 refine z8g ?_
 unfold zsk
 refine zcq (x:=(none,0,0)) (vs:=[]) (B:=H.size) E8 (by omega) uS8 (za5 uS8) hw (.inl ⟨rfl,rfl⟩) (Nat.le_refl _) (Src.slc hw hL (by simp)) vg (by simp only;omega) ?_
 intro y w1 hm hl1 hx hs
 have hxn:Ext [] H w1.heap:=hx.mono (by simp [xw])
 refine qm (s:=.any) _ (bIn y _) ?_
 refine jv rfl fun w2 hw2=>?_
 have hx2:Ext [] w1.heap w2.heap:=by rw [hw2];exact .push _
 have hb2:w2.heap[w1.heap.size]?=some (.cells #[zcr y,.int .i64 0] zm3 (0,0)):=by rw [hw2];exact zn
 have hylt:∀ c ∈ xw y,c < w1.heap.size:=by
  intro c hc
  rcases hm with ⟨hx1,_⟩ | ⟨b',c',hx1,_,hb',_⟩
  ·simp [xw,hx1] at hc
  ·simp [xw,hx1] at hc
   subst hc
   exact lt_of_get hb'
 have hyl:y.2.1=L.length:=by have:=hm.len;simp at this;omega
 have hs1:=hxn.1
 have hs2:=hx2.1
 refine ⟨w1.heap.size,xw y,rfl,⟨y,0,hb2,fun h=>by have:=hylt _ h;omega,fun c hc=>hc,rfl,?_,hyl,?_,by omega⟩,hxn.trans hx2,by omega,fun c hc=>jc hm c hc,lt_of_get hb2,fun c hc=>by have:=hylt c hc;omega⟩
 ·have:=hm.cells
  rw [List.nil_append] at this
  exact this.ext hx2 (by simp)
 ·rcases hm with ⟨hx1,hv⟩ | ⟨_,_,_,_,_,_,_,h,_⟩
  ·rw [hx1];exact Nat.le_refl _
  ·exact h
theorem qn0 {w:World} {H:Heap} (hw:w.heap=H) {K:(Option Addr × Nat × Nat)→World→Prop} (hK:∀ w',Ext [] H w'.heap→Mine w'.heap H.size qy 1 (some ⟨H.size,0,none⟩,0,0) (byteCells [])→K (some ⟨H.size,0,none⟩,0,0) w'):zal P (Instr.buildSlice zh 0 #[]) .slc w K:=by
 refine zad (s:=.slc) (some ⟨H.size,0,none⟩,0,0) { w with heap:=H.push (.cells #[] qy) } (by rw [← hw];kernel_rfl) ?_
 exact hK _ (.push _) (.inr ⟨H.size,#[],rfl,Nat.le_refl _,zn,rfl,rfl,Nat.le_refl _,rfl⟩)
theorem qoz {w:World} {H:Heap} {n:Int} (c:UInt8) (hn:n=(c.toNat:Int)) (hw:w.heap=H) {K:(Option Addr × Nat × Nat)→World→Prop} (hK:∀ w',Ext [] H w'.heap→Mine w'.heap H.size qy 1 (some ⟨H.size,0,none⟩,1,1) (byteCells [c])→K (some ⟨H.size,0,none⟩,1,1) w') :
  zal P (Instr.buildSlice zh 1 #[(0,(.int .u8 n))]) .slc w K:=by
 subst hn
 refine zad (s:=.slc) (some ⟨H.size,0,none⟩,1,1) { w with heap:=H.push (.cells (Value.int .u8 (c.toNat:Int)).cells qy) } (by rw [← hw];exact zd0 E8 uS8 (v:=.int .u8 (c.toNat:Int)) rfl (by omega) (by omega)) ?_
 refine hK _ (.push _) (.inr ⟨H.size,(Value.int .u8 (c.toNat:Int)).cells,rfl,Nat.le_refl _,zn,by simp [Value.cells],by simp,Nat.le_refl _,?_⟩)
 simp [Value.cells,byteCells]
theorem qi9 {w:World} {H:Heap} {B:Nat} {x:Option Addr × Nat × Nat} {a:Option Addr} {l c:Nat} {L M:List UInt8} (hw:w.heap=H) (hx:Mine H B qy 1 x (byteCells L)) (hB:B≤H.size) (hL:Cells H a (byteCells M)) (hl:l=M.length) (hlen:L.length+M.length≤1099511627776)
  {K:(Option Addr × Nat × Nat)→World→Prop} (hK:∀ x' w',Mine w'.heap B qy 1 x' (byteCells (L++M))→Ext (xw x) H w'.heap→(∀ c ∈ xw x',c ∈ xw x ∨ H.size≤c)→K x' w') :
  zal P (Builtin.append_ #[zh,zh] zh #[.slice x.1 x.2.1 x.2.2,.slice a l c]) .slc w K:=by
 subst hl
 have h0:x.2.1=L.length:=by have:=hx.len;simp at this;omega
 refine zcq E8 (by omega) uS8 (za5 uS8) hw hx hB (Src.slc hw hL (by simp)) vg (by omega) ?_
 intro x2 w2 hO2 _ hx2 hm2
 exact hK x2 w2 (by rw [← byteCells_append];exact hO2) hx2 hm2
theorem qnj {w:World} {H:Heap} {B:Nat} {x:Option Addr × Nat × Nat} {L M:List UInt8} (hw:w.heap=H) (hx:Mine H B qy 1 x (byteCells L)) (hB:B≤H.size) (hlen:L.length+M.length≤1099511627776)
  {K:(Option Addr × Nat × Nat)→World→Prop} (hK:∀ x' w',Mine w'.heap B qy 1 x' (byteCells (L++M))→Ext (xw x) H w'.heap→(∀ c ∈ xw x',c ∈ xw x ∨ H.size≤c)→K x' w') :
  zal P (Builtin.append_ #[zh,qc] zh #[.slice x.1 x.2.1 x.2.2,.string (strOf M)]) .slc w K:=by
 have h0:x.2.1=L.length:=by have:=hx.len;simp at this;omega
 refine zcq E8 (by omega) uS8 ⟨_,z0e,by intro k h;cases h⟩ hw hx hB (n:=M.length) (us:=byteCells M) Src.str vg (by omega) ?_
 intro x2 w2 hO2 _ hx2 hm2
 exact hK x2 w2 (by rw [← byteCells_append];exact hO2) hx2 hm2
theorem zky {H H':Heap} {B:Nat} {x:Option Addr × Nat × Nat} {vs:List Value} {T:TypeId} {sz:Nat} {H0:Heap} (h:Ext [] H0 H) (hm:Mine H B T sz x vs) (hB:H0.size≤B) (hx:Ext (xw x) H H'):Ext [] H0 H' :=
 h.own hx fun c hc hlt=>by have:=jc hm c hc;omega
theorem qm9 {k:Nat} {K:Int→Prop} (h:K ((k % 128:Nat):Int)):qju (k:Int) 128 K:=z3f k 128 rfl rfl (by omega) h
theorem qnm {k:Nat} {K:Int→Prop} (hk:k < 128) (h:K ((k+128:Nat):Int)):zba .u64 (k:Int) 128 K:=by
 refine ⟨_,?_,h⟩
 rw [wrap_u64 (by omega) (by omega)];omega
theorem qng {k:Nat} {K:Int→Prop} (hk:k < 18446744073709551616) (h:K ((k / 128:Nat):Int)):qig .u64 (k:Int) 128 K:=by
 refine ⟨by omega,_,?_,h⟩
 rw [Int.tdiv_eq_ediv_of_nonneg (by omega),wrap_u64 (by omega) (by omega)]
 omega
theorem qkg {m:Nat} {K:Int→Prop} (hm:m < 256) (h:K ((UInt8.ofNat m).toNat:Int)):cvI .u8 (m:Int) K:=cv8 h
theorem zxv {w:World} {H:Heap} {n:Nat} (hw:w.heap=H) (hn:n < 18446744073709551616) :
  qj P zla #[.int .u64 (n:Int)] w fun e w'=>∃ y,e=.returned (zcr y)∧Mine w'.heap H.size qy 1 y (byteCells (ztb n))∧Ext [] H w'.heap:=by
 have hnl:=zd2 hn
 refine qes ?_
 unfold zzm
 refine jd (fun (s:Int × (Option Addr × Nat × Nat)) W=>∃ (k:Nat) (M:List UInt8),s.1=(k:Int)∧k < 18446744073709551616∧Mine W.heap H.size qy 1 s.2 (byteCells M)∧Ext [] H W.heap∧M++ztb k=ztb n) (fun s _=>s.1.toNat)
  ⟨n,[],rfl,hn,.inl ⟨rfl,rfl⟩,by rw [hw];exact .refl _ _,rfl⟩ ?_
 rintro ⟨_,x⟩ W ⟨k,M,rfl,hk,hm,hx,hM⟩
 have hMl:M.length≤10:=by have:=congrArg List.length hM;simp at this;omega
 have hs:=hx.1
 refine zq (fun h=>?_) (fun h=>?_)
 ·have hk1:127 < k:=by simp only at h;omega
  refine qm9 ?_
  refine qnm (by omega) ?_
  refine qkg (by omega) ?_
  refine qoz _ rfl rfl fun w2 hx2 hm2=>?_
  refine qi9 rfl (hm.ext hx2 (by simp)) (by have:=hx2.1;omega) hm2.cells rfl (by simp;omega) fun x3 w3 hm3 hx3 hs3=>?_
  refine qng hk ?_
  refine ⟨⟨k / 128,M++[UInt8.ofNat (k % 128+128)],rfl,by omega,hm3,zky (hx.trans hx2) (hm.ext hx2 (by simp)) (Nat.le_refl _) hx3,by rw [← hM,ztu hk1];simp⟩,by simp only;omega⟩
 ·have hk1:k≤127:=by simp only at h;omega
  refine qkg (by omega) ?_
  refine qoz _ rfl rfl fun w2 hx2 hm2=>?_
  refine qi9 rfl (hm.ext hx2 (by simp)) (by have:=hx2.1;omega) hm2.cells rfl (by simp;omega) fun x3 w3 hm3 hx3 hs3=>?_
  rw [show M++[UInt8.ofNat k]=ztb n by rw [← hM,zuf hk1]] at hm3
  exact ⟨x3,rfl,hm3,zky (hx.trans hx2) (hm.ext hx2 (by simp)) (Nat.le_refl _) hx3⟩
theorem qch {w:World} {H:Heap} (L:List UInt8) (hw:w.heap=H) (hL:L.length≤549755813888) :
  qj P zqr #[.string (strOf L)] w fun e w'=>∃ y,e=.returned (zcr y)∧Mine w'.heap H.size qy 1 y (byteCells (zrq L))∧Ext [] H w'.heap:=by
 refine qbg ?_
 unfold zv0
 have hnl:=zd2 (n:=L.length) (by omega)
 refine zp0 (by omega) (by simp;omega) ?_
 refine zl (zxv (n:=L.length) hw (by omega)) ?_
 rintro e w1 ⟨y,rfl,hm1,hx1⟩
 refine ⟨y,rfl,?_⟩
 refine qnj rfl hm1 (by have:=hx1.1;omega) (by omega) fun x2 w2 hm2 hx2 hs2=>?_
 exact ⟨x2,rfl,hm2,zky hx1 hm1 (Nat.le_refl _) hx2⟩
theorem qfa {H H':Heap} {M F:List Nat} {x:Option Addr × Nat × Nat} {B:List UInt8} (h:Cells H x.1 (byteCells B)) (hx:Ext M H H') (hF:B ≠ []→∀ c ∈ xw x,c ∈ F) (hM:∀ c ∈ F,c ∉ M):Cells H' x.1 (byteCells B) :=
 h.ext hx fun a ha hne=>hM _ (hF (fun h0=>hne (by rw [h0];rfl)) _ (by simp [xw,ha]))
def qoi (H:Heap) (b:Nat) (F:List Nat) (s:Rest):Prop:=∃ (x:Option Addr × Nat × Nat) (i:Nat) (e:Int) (B:List UInt8),H[b]?=some (.cells #[zcr x,.int .i64 (i:Int),.int .i64 e] qji (0,0))∧b ∉ F∧(B ≠ []→∀ c ∈ xw x,c ∈ F) ∧
 Cells H x.1 (byteCells B)∧x.2.1=B.length∧x.2.1≤x.2.2∧B.length≤1099511627776∧i≤B.length∧(match s with | some R=>e=0∧R=B.drop i | none=>e ≠ 0)
theorem qoi.ext {H H':Heap} {b:Nat} {F M:List Nat} {s:Rest} (h:qoi H b F s) (hx:Ext M H H') (hb:b ∉ M) (hF:∀ c ∈ F,c ∉ M):qoi H' b F s:=by
 obtain ⟨x,i,e,B,h1,h2,h3,h4,h5⟩:=h
 exact ⟨x,i,e,B,hx.get h1 hb,h2,h3,qfa h4 hx h3 hF,h5⟩
end Go.Proofs.YtbmegmbnlajbbaaGreatDoor
namespace Go.Fw.Sha
open Go.Fw
def rotr (x:BitVec 32) (n:Nat):BitVec 32:=x >>> n ||| x <<< (32 - n)
def kc:List Nat:=[1116352408,1899447441,3049323471,3921009573,961987163,1508970993,2453635748,2870763221,3624381080,310598401,607225278,1426881987,1925078388,2162078206,2614888103,3248222580,3835390401,4022224774,264347078,604807628,770255983,1249150122,1555081692,1996064986,2554220882,2821834349,2952996808,3210313671,3336571891,3584528711,113926993,338241895,666307205,773529912,1294757372,1396182291,1695183700,1986661051,2177026350,2456956037,2730485921,2820302411,3259730800,3345764771,3516065817,3600352804,4094571909,275423344,430227734,506948616,659060556,883997877,958139571,1322822218,1537002063,1747873779,1955562222,2024104815,2227730452,2361852424,2428436474,2756734187,3204031479,3329325298]
def K (t:Nat):BitVec 32:=BitVec.ofNat 32 (kc.getD t 0)
def ic:List Nat:=[1779033703,3144134277,1013904242,2773480762,1359893119,2600822924,528734635,1541459225]
def init (t:Nat):BitVec 32:=BitVec.ofNat 32 (ic.getD t 0)
def W (m:Nat→BitVec 32) (t:Nat):BitVec 32 :=
 if t < 16 then m t
 else (rotr (W m (t - 2)) 17 ^^^ rotr (W m (t - 2)) 19 ^^^ W m (t - 2) >>> 10)+W m (t - 7)+(rotr (W m (t - 15)) 7 ^^^ rotr (W m (t - 15)) 18 ^^^ W m (t - 15) >>> 3)+W m (t - 16)
termination_by t
def one (s:Nat→BitVec 32) (k w:BitVec 32):BitVec 32 :=
 s 7+(rotr (s 4) 6 ^^^ rotr (s 4) 11 ^^^ rotr (s 4) 25)+(s 4 &&& s 5 ^^^ ~~~ s 4 &&& s 6)+k+w
def two (s:Nat→BitVec 32):BitVec 32 :=
 (rotr (s 0) 2 ^^^ rotr (s 0) 13 ^^^ rotr (s 0) 22)+(s 0 &&& s 1 ^^^ s 0 &&& s 2 ^^^ s 1 &&& s 2)
def step (s:Nat→BitVec 32) (k w:BitVec 32):Nat→BitVec 32
 | 0=>one s k w+two s
 | 4=>s 3+one s k w
 | i+1=>s i
def rnd (w s:Nat→BitVec 32):Nat→Nat→BitVec 32
 | 0=>s
 | t+1=>step (rnd w s t) (K t) (w t)
def comp (s m:Nat→BitVec 32):Nat→BitVec 32:=fun i=>s i+rnd (W m) s 64 i
def word (f:Nat→UInt8) (t:Nat):BitVec 32:=b32 (f (4 * t)) <<< 24 ||| b32 (f (4 * t+1)) <<< 16 ||| b32 (f (4 * t+2)) <<< 8 ||| b32 (f (4 * t+3))
def nth (l:List UInt8) (i:Nat):UInt8:=l.getD i 0
def blocks (l:List UInt8):Nat→Nat→BitVec 32
 | 0=>init
 | n+1=>comp (blocks l n) (word fun j=>nth l (64 * n+j))
def be8 (n:Nat):List UInt8:=(List.range 8).map fun i=>UInt8.ofNat (n / 2 ^ (56 - 8 * i))
def pad (l:List UInt8):List UInt8:=l++[128]++List.replicate ((119 - l.length % 64) % 64) 0++be8 (l.length * 8)
def out (s:Nat→BitVec 32) (i:Nat):UInt8:=lo8 (s (i / 4) >>> (24 - 8 * (i % 4)))
def sum (l:List UInt8):List UInt8:=(List.range 32).map (out (blocks (pad l) ((pad l).length / 64)))
theorem W_lt {m:Nat→BitVec 32} {t:Nat} (h:t < 16):W m t=m t:=by rw [W,if_pos h]
theorem W_ge {m:Nat→BitVec 32} {t:Nat} (h:16≤t):W m t=(rotr (W m (t - 2)) 17 ^^^ rotr (W m (t - 2)) 19 ^^^ W m (t - 2) >>> 10)+W m (t - 7)+(rotr (W m (t - 15)) 7 ^^^ rotr (W m (t - 15)) 18 ^^^ W m (t - 15) >>> 3)+W m (t - 16):=by
 rw [W,if_neg (by omega)]
theorem W_congr {m m':Nat→BitVec 32} (h:∀ t,t < 16→m t=m' t) (t:Nat):W m t=W m' t:=by
 induction t using Nat.strongRecOn with
 | _ t ih =>
  by_cases ht:t < 16
  ·rw [W_lt ht,W_lt ht,h t ht]
  ·rw [W_ge (m:=m) (t:=t) (by omega),W_ge (m:=m') (t:=t) (by omega),ih (t - 2) (by omega),ih (t - 7) (by omega),ih (t - 15) (by omega),ih (t - 16) (by omega)]
end Go.Fw.Sha
namespace Go.Proofs.YtbmegmbnlajbbaaGreatDoor.Bl
open Go Go.Fw Go.Proofs
theorem zq8 (x:BitVec 32) (n:Nat) {i:Int} (hi:i=(n:Int)) (h0:0 < n) (hn:n < 32) (w:World):qj P zdp #[.int .u32 (x.toNat:Int),.int .u64 i] w fun e w'=>e=.returned (.int .u32 ((Sha.rotr x n).toNat:Int))∧w'=w:=by
 subst hi
 refine qbl ?_
 unfold zvb
 refine qif _ n rfl (by omega) ?_
 refine ⟨((32 - n:Nat):Int),?_,?_⟩
 ·rw [wrap_u64] <;> omega
 refine ql2 _ (32 - n) rfl (by omega) ?_
 refine orW _ _ ?_
 exact ⟨rfl,rfl⟩
theorem z0v (x:BitVec 32) (n:Nat) {i:Int} (hi:i=-(n:Int)) (h0:0 < n) (hn:n < 32) (w:World):qj P jm #[.int .u32 (x.toNat:Int),.int .i64 i] w fun e w'=>e=.returned (.int .u32 ((Sha.rotr x n).toNat:Int))∧w'=w:=by
 subst hi
 refine zl7 ?_
 unfold zd5
 refine ⟨((18446744073709551616 - n:Nat):Int),?_,?_⟩
 ·simp only [IntKind.wrap,IntKind.bits,IntKind.signed]
  have e:(2:Int) ^ 64=18446744073709551616:=by decide
  simp only [e,Bool.false_and,Bool.false_eq_true,if_false]
  omega
 refine ⟨((32 - n:Nat):Int),?_,?_⟩
 ·have this:(BitVec.ofInt IntKind.u64.bits ((18446744073709551616 - n:Nat):Int) &&& BitVec.ofInt IntKind.u64.bits 31).toNat=32 - n:=by
   change (BitVec.ofNat 64 (18446744073709551616 - n) &&& BitVec.ofNat 64 31).toNat=32 - n
   rw [BitVec.toNat_and,BitVec.toNat_ofNat,BitVec.toNat_ofNat]
   have e31:31 % 2 ^ 64=2 ^ 5 - 1:=by decide
   have e1:(18446744073709551616 - n) % 2 ^ 64=18446744073709551616 - n:=Nat.mod_eq_of_lt (by omega)
   rw [e31,Nat.and_two_pow_sub_one_eq_mod,e1]
   omega
  rw [this,wrap_u64] <;> omega
 refine ql2 _ (32 - n) rfl (by omega) ?_
 refine ⟨((n:Nat):Int),?_,?_⟩
 ·rw [wrap_u64] <;> omega
 refine qif _ n rfl (by omega) ?_
 refine orW _ _ ?_
 refine ⟨?_,rfl⟩
 unfold Sha.rotr
 rw [BitVec.or_comm]
theorem qnz:zc P zah=(List.replicate 64 (Value.int .u32 0)).toArray:=by kernel_rfl
theorem ql5:zc P jo=(List.replicate 8 (Value.int .u32 0)).toArray:=by kernel_rfl
theorem qcl:P.cellsOf jo=8:=by kernel_rfl
theorem qlj (a b c d e f g h:Int) (w:World):(Instr.build jo #[(0,.int .u32 a),(1,.int .u32 b),(2,.int .u32 c),(3,.int .u32 d),(4,.int .u32 e),(5,.int .u32 f),(6,.int .u32 g),(7,.int .u32 h)]).run P w =
  .ok (.agg #[.int .u32 a,.int .u32 b,.int .u32 c,.int .u32 d,.int .u32 e,.int .u32 f,.int .u32 g,.int .u32 h]) w:=by kernel_rfl
set_option maxHeartbeats 4000000 in
theorem qn9 {w:World} {H:Heap} {hp bb off l lc:Nat} {c cb rc:Array Value} {Tb rT:TypeId} {frb rfr:Nat × Nat} {s:Nat→BitVec 32} {f:Nat→UInt8} (hw:w.heap=H)
  (hH:H[hp]?=some (.cells c zas (0,0))) (hsz:c.size=74) (hS:Words c 0 s 8) (hB:H[bb]?=some (.cells cb Tb frb)) (hb:Bytes cb off f 64) (hl:64≤l)
  (hR:H[0]?=some (.cells rc rT rfr)) (hr:Words rc 0 Sha.K 64) (h0:hp ≠ 0) :
  qj P zm0 #[.pointer (some ⟨hp,0,none⟩),.slice (some ⟨bb,off,none⟩) l lc] w fun e w'=>e=.returned (.tuple #[])∧Ext [hp] H w'.heap ∧
   ∃ c',w'.heap[hp]?=some (.cells c' zas (0,0))∧c'.size=74∧Words c' 0 (Sha.comp s (Sha.word f)) 8∧∀ i,8≤i→c'[i]?=c[i]?:=by
 refine zyc ?_
 unfold zmu
 refine jv hw fun w1 hw1=>?_
 refine jd (fun s w=>∃ (t:Nat) (H':Heap) (c4:Array Value),s=(t:Int)∧t≤16∧w.heap=H'∧Ext [] H H'∧H'[H.size]?=some (.cells c4 zah (0,0))∧c4.size=64∧Words c4 0 (Sha.W (Sha.word f)) t)
  (fun s _=>(16 - s).toNat) ⟨0,_,_,rfl,by omega,hw1,.push _,zn,by rw [qnz];rfl,fun i hi=>by omega⟩ ?_
 rintro _ w2 ⟨t,H2,c4,rfl,ht,hw2,hx2,hc4,hs4,hW⟩
 refine zq (fun hlt=>?_) (fun hge=>?_)
 ·have hlt:t < 16:=by omega
  refine jw hw2 fun w3 hw3=>?_
  have hB2:=hx2.get hB (by simp)
  refine zfq ((4 * t:Nat):Int) (by omega) (by omega) (by omega) ?_
  refine zqz (4 * t) rfl (by omega) ?_
  refine zfq ((4 * t:Nat):Int) (by omega) (by omega) (by omega) ?_
  refine xu ((4 * t+1:Nat):Int) (by omega) (by omega) (by omega) ?_
  refine zqz (4 * t+1) rfl (by omega) ?_
  refine zfq ((4 * t:Nat):Int) (by omega) (by omega) (by omega) ?_
  refine xu ((4 * t+2:Nat):Int) (by omega) (by omega) (by omega) ?_
  refine zqz (4 * t+2) rfl (by omega) ?_
  refine zfq ((4 * t:Nat):Int) (by omega) (by omega) (by omega) ?_
  refine xu ((4 * t+3:Nat):Int) (by omega) (by omega) (by omega) ?_
  refine zqz (4 * t+3) rfl (by omega) ?_
  refine jh hw3 hB2 (hb (4 * t) (by omega)) ?_
  refine cvB ?_
  refine ql2 _ 24 rfl (by omega) ?_
  refine jh hw3 hB2 (hb (4 * t+1) (by omega)) ?_
  refine cvB ?_
  refine ql2 _ 16 rfl (by omega) ?_
  refine orW _ _ ?_
  refine jh hw3 hB2 (hb (4 * t+2) (by omega)) ?_
  refine cvB ?_
  refine ql2 _ 8 rfl (by omega) ?_
  refine orW _ _ ?_
  refine jh hw3 hB2 (hb (4 * t+3) (by omega)) ?_
  refine cvB ?_
  refine orW _ _ ?_
  refine zev t rfl (by omega) ?_
  refine zcd hw3 hc4 (by omega) fun w4 hw4=>?_
  refine xu ((t+1:Nat):Int) (by omega) (by omega) (by omega) ?_
  refine ⟨⟨t+1,_,_,rfl,by omega,hw4,hx2.set_own (.inl (Nat.le_refl _)),qw hc4,by simpa using hs4,?_⟩,by omega⟩
  exact hW.snoc (by omega) (by rw [Sha.W_lt hlt];rfl)
 have ht16:t=16:=by omega
 subst ht16
 clear hge ht
 refine jd (fun s w=>∃ (t:Nat) (H':Heap) (c4:Array Value),s=(t:Int)∧16≤t∧t≤64∧w.heap=H'∧Ext [] H H'∧H'[H.size]?=some (.cells c4 zah (0,0))∧c4.size=64∧Words c4 0 (Sha.W (Sha.word f)) t)
  (fun s _=>(64 - s).toNat) ⟨16,_,_,rfl,by omega,by omega,hw2,hx2,hc4,hs4,hW⟩ ?_
 clear hw2 hx2 hc4 hs4 hW
 rintro _ w2 ⟨t,H2,c4,rfl,ht,ht',hw2,hx2,hc4,hs4,hW⟩
 refine zq (fun hlt=>?_) (fun hge=>?_)
 ·have hlt:t < 64:=by omega
  refine jw hw2 fun w3 hw3=>?_
  refine zbu ((t - 2:Nat):Int) (by omega) (by omega) (by omega) ?_
  refine zev (t - 2) rfl (by omega) ?_
  refine zbu ((t - 15:Nat):Int) (by omega) (by omega) (by omega) ?_
  refine zev (t - 15) rfl (by omega) ?_
  refine jh hw3 hc4 (hW.at (t - 2) (by omega)) ?_
  refine jh hw3 hc4 (hW.at (t - 15) (by omega)) ?_
  refine zbb (l:=[.int .u32]) _ (z0v _ 17 rfl (by omega) (by omega) _) ?_
  refine zbb (l:=[.int .u32]) _ (z0v _ 19 rfl (by omega) (by omega) _) ?_
  refine z0f _ _ ?_
  refine qif _ 10 rfl (by omega) ?_
  refine z0f _ _ ?_
  refine zbb (l:=[.int .u32]) _ (z0v _ 7 rfl (by omega) (by omega) _) ?_
  refine zbb (l:=[.int .u32]) _ (z0v _ 18 rfl (by omega) (by omega) _) ?_
  refine z0f _ _ ?_
  refine qif _ 3 rfl (by omega) ?_
  refine z0f _ _ ?_
  refine jw hw3 fun w4 hw4=>?_
  refine zbu ((t - 7:Nat):Int) (by omega) (by omega) (by omega) ?_
  refine zev (t - 7) rfl (by omega) ?_
  refine zbu ((t - 16:Nat):Int) (by omega) (by omega) (by omega) ?_
  refine zev (t - 16) rfl (by omega) ?_
  refine jh hw4 hc4 (hW.at (t - 7) (by omega)) ?_
  refine z0c _ _ ?_
  refine z0c _ _ ?_
  refine jh hw4 hc4 (hW.at (t - 16) (by omega)) ?_
  refine z0c _ _ ?_
  refine zev t rfl (by omega) ?_
  refine zcd hw4 hc4 (by omega) fun w5 hw5=>?_
  refine xu ((t+1:Nat):Int) (by omega) (by omega) (by omega) ?_
  refine ⟨⟨t+1,_,_,rfl,by omega,by omega,hw5,hx2.set_own (.inl (Nat.le_refl _)),qw hc4,by simpa using hs4,?_⟩,by omega⟩
  exact hW.snoc (by omega) (by rw [Sha.W_ge ht])
 have ht64:t=64:=by omega
 subst ht64
 clear hge ht ht'
 have hH2:=hx2.get hH (by simp)
 have hR2:=hx2.get hR (by simp)
 have hlt:=lt_of_get hH2
 simp only [xq]
 refine zre hw2 hH2 (by omega) ?_
 rw [hS.extract (by omega)]
 refine jv hw2 fun w3 hw3=>?_
 refine zbj (qcl.trans (by simp [Value.cells])) (by simp [Value.cells]) zx8 hw3 zn (by rw [ql5];simp [Value.cells]) fun w4 hw4=>?_
 rw [show setCells (zc P jo) 0 (Value.cells (.agg (W32 s 8))).toList=W32 s 8 from by rw [zan (by rw [ql5];simp [Value.cells])];simp [Value.cells]] at hw4
 have hb4:H.size < H2.size:=lt_of_get hc4
 refine jd (fun s' w=>∃ (t:Nat) (H':Heap) (c8:Array Value),s'=(t:Int)∧t≤64∧w.heap=H'∧Ext [] H2 H'∧H'[H2.size]?=some (.cells c8 jo (0,0))∧c8.size=8∧Words c8 0 (Sha.rnd (Sha.W (Sha.word f)) s t) 8)
  (fun s _=>(64 - s).toNat) ⟨0,_,_,rfl,by omega,hw4,(Ext.push _).set_own (.inl (Nat.le_refl _)),qw zn,by simp,zm6⟩ ?_
 rintro _ w5 ⟨t,H5,c8,rfl,ht,hw5,hx5,hc8,hs8,hV⟩
 refine zq (fun hlt=>?_) (fun hge=>?_)
 ·have hlt:t < 64:=by omega
  have hc4':=hx5.get hc4 (by simp)
  have hR':=hx5.get hR2 (by simp)
  refine jw hw5 fun w6 hw6=>?_
  refine jh hw6 hc8 (hV.at 4 (by omega)) ?_
  refine zbb (l:=[.int .u32]) _ (z0v _ 6 rfl (by omega) (by omega) _) ?_
  refine jh hw6 hc8 (hV.at 4 (by omega)) ?_
  refine zbb (l:=[.int .u32]) _ (z0v _ 11 rfl (by omega) (by omega) _) ?_
  refine z0f _ _ ?_
  refine jh hw6 hc8 (hV.at 4 (by omega)) ?_
  refine zbb (l:=[.int .u32]) _ (z0v _ 25 rfl (by omega) (by omega) _) ?_
  refine z0f _ _ ?_
  refine jw hw6 fun w7 hw7=>?_
  refine zev t rfl (by omega) ?_
  refine zev t rfl (by omega) ?_
  refine jh hw7 hc8 (hV.at 7 (by omega)) ?_
  refine z0c _ _ ?_
  refine jh hw7 hc8 (hV.at 4 (by omega)) ?_
  refine jh hw7 hc8 (hV.at 5 (by omega)) ?_
  refine qib _ _ ?_
  refine jh hw7 hc8 (hV.at 4 (by omega)) ?_
  refine qdq _ ?_
  refine jh hw7 hc8 (hV.at 6 (by omega)) ?_
  refine qib _ _ ?_
  refine z0f _ _ ?_
  refine z0c _ _ ?_
  refine jh hw7 hR' (hr.at t (by omega)) ?_
  refine z0c _ _ ?_
  refine jh hw7 hc4' (hW.at t (by omega)) ?_
  refine z0c _ _ ?_
  refine jw hw7 fun w8 hw8=>?_
  refine jh hw8 hc8 (hV.at 0 (by omega)) ?_
  refine zbb (l:=[.int .u32]) _ (z0v _ 2 rfl (by omega) (by omega) _) ?_
  refine jh hw8 hc8 (hV.at 0 (by omega)) ?_
  refine zbb (l:=[.int .u32]) _ (z0v _ 13 rfl (by omega) (by omega) _) ?_
  refine z0f _ _ ?_
  refine jh hw8 hc8 (hV.at 0 (by omega)) ?_
  refine zbb (l:=[.int .u32]) _ (z0v _ 22 rfl (by omega) (by omega) _) ?_
  refine z0f _ _ ?_
  refine jh hw8 hc8 (hV.at 0 (by omega)) ?_
  refine jh hw8 hc8 (hV.at 1 (by omega)) ?_
  refine qib _ _ ?_
  refine jh hw8 hc8 (hV.at 0 (by omega)) ?_
  refine jh hw8 hc8 (hV.at 2 (by omega)) ?_
  refine qib _ _ ?_
  refine z0f _ _ ?_
  refine jh hw8 hc8 (hV.at 1 (by omega)) ?_
  refine jh hw8 hc8 (hV.at 2 (by omega)) ?_
  refine qib _ _ ?_
  refine z0f _ _ ?_
  refine z0c _ _ ?_
  refine z0c _ _ ?_
  refine jh hw8 hc8 (hV.at 0 (by omega)) ?_
  refine jh hw8 hc8 (hV.at 1 (by omega)) ?_
  refine jh hw8 hc8 (hV.at 2 (by omega)) ?_
  refine jh hw8 hc8 (hV.at 3 (by omega)) ?_
  refine z0c _ _ ?_
  refine jh hw8 hc8 (hV.at 4 (by omega)) ?_
  refine jh hw8 hc8 (hV.at 5 (by omega)) ?_
  refine jh hw8 hc8 (hV.at 6 (by omega)) ?_
  refine qm _ (qlj _ _ _ _ _ _ _ _ _) ?_
  refine zbj (qcl.trans rfl) (by simp [Value.cells]) (by intro v hv;simp [Value.cells] at hv;rcases hv with h | h | h | h | h | h | h | h <;> subst h <;> rfl) hw8 hc8 (by simp [Value.cells];omega) fun w9 hw9=>?_
  refine xu ((t+1:Nat):Int) (by omega) (by omega) (by omega) ?_
  refine ⟨⟨t+1,_,_,rfl,by omega,hw9,hx5.set_own (.inl (Nat.le_refl _)),qw hc8,by simpa using hs8,?_⟩,by omega⟩
  rw [zan (by simp [Value.cells];omega)]
  intro i hi
  match i,hi with
  | 0,_=>rfl
  | 1,_=>rfl
  | 2,_=>rfl
  | 3,_=>rfl
  | 4,_=>rfl
  | 5,_=>rfl
  | 6,_=>rfl
  | 7,_=>rfl
 have ht64:t=64:=by omega
 subst ht64
 clear hge ht
 have hx52:Ext [] H H5:=hx2.trans hx5
 have hH5:=hx52.get hH (by simp)
 have hne:hp ≠ H2.size:=by have:=lt_of_get hH;omega
 refine jd (fun s' w=>∃ (t:Nat) (H':Heap) (c':Array Value),s'=(t:Int)∧t≤8∧w.heap=H'∧Ext [hp] H H'∧H'[hp]?=some (.cells c' zas (0,0))∧c'.size=74∧H'[H2.size]?=some (.cells c8 jo (0,0)) ∧
   Words c' 0 (Sha.comp s (Sha.word f)) t∧(∀ i,t≤i→c'[i]?=c[i]?))
  (fun s _=>(8 - s).toNat) ⟨0,_,_,rfl,by omega,hw5,hx52.mono (by simp),hH5,hsz,hc8,fun i hi=>by omega,fun i _=>rfl⟩ ?_
 rintro _ w6 ⟨t,H6,c',rfl,ht,hw6,hx6,hH6,hsz6,hc86,hV6,hold⟩
 refine zq (fun hlt=>?_) (fun hge=>?_)
 ·have hlt:t < 8:=by omega
  refine jw hw6 fun w7 hw7=>?_
  refine zev t rfl (by omega) ?_
  refine zev t rfl (by omega) ?_
  refine jh hw7 hH6 ((hold t (Nat.le_refl _)).trans (hS.at t (by omega))) ?_
  refine jh hw7 hc86 (hV.at t (by omega)) ?_
  refine z0c _ _ ?_
  refine zev t rfl (by omega) ?_
  refine zcd hw7 hH6 (by omega) fun w8 hw8=>?_
  refine xu ((t+1:Nat):Int) (by omega) (by omega) (by omega) ?_
  refine ⟨⟨t+1,_,_,rfl,by omega,hw8,hx6.set_own (.inr (by simp)),qw hH6,by simpa using hsz6,zh3 hc86 (Ne.symm hne),hV6.snoc (by omega) rfl,?_⟩,by omega⟩
  intro i hi
  rw [Array.getElem?_setIfInBounds_ne (by omega)]
  exact hold i (by omega)
 have ht8:t=8:=by omega
 subst ht8
 exact ⟨trivial,by rw [hw6];exact hx6,c',by rw [hw6];exact hH6,hsz6,hV6,hold⟩
theorem zhm {D E:List UInt8} {i:Nat} (h:i < D.length):Sha.nth (D++E) i=Sha.nth D i:=by
 simp [Sha.nth,List.getD_eq_getElem?_getD,List.getElem?_append_left h]
theorem z4x {D E:List UInt8} {i:Nat} (h:D.length≤i):Sha.nth (D++E) i=Sha.nth E (i - D.length):=by
 simp [Sha.nth,List.getD_eq_getElem?_getD,List.getElem?_append_right h]
theorem zoj {D E:List UInt8}:∀ n,64 * n≤D.length→Sha.blocks (D++E) n=Sha.blocks D n
 | 0,_=>rfl
 | n+1,h=>by
  simp only [Sha.blocks]
  rw [zoj n (by omega)]
  have:∀ t,t < 16→Sha.word (fun j=>Sha.nth (D++E) (64 * n+j)) t=Sha.word (fun j=>Sha.nth D (64 * n+j)) t:=by
   intro t ht
   simp only [Sha.word]
   rw [zhm (by omega),zhm (by omega),zhm (by omega),zhm (by omega)]
  unfold Sha.comp
  rw [funext (Sha.W_congr this)]
def z0x (H:Heap) (p:Nat) (D:List UInt8) (n:Nat):Prop :=
 ∃ c,H[p]?=some (.cells c zas (0,0))∧c.size=74∧Words c 0 (Sha.blocks D (D.length / 64)) 8∧Bytes c 8 (fun i=>Sha.nth D (64 * (D.length / 64)+i)) (D.length % 64) ∧
  c[72]?=some (.int .i64 ((D.length % 64:Nat):Int))∧c[73]?=some (.int .i64 (n:Int))∧zpf c
def Rounds (H:Heap):Prop:=∃ rc rT rfr,H[0]?=some (.cells rc rT rfr)∧Words rc 0 Sha.K 64
theorem Rounds.ext {M:List Nat} {H H':Heap} (h:Rounds H) (hx:Ext M H H') (h0:0 ∉ M):Rounds H':=by
 obtain ⟨rc,rT,rfr,h1,h2⟩:=h
 exact ⟨rc,rT,rfr,hx.get h1 h0,h2⟩
theorem z0x.ext {M:List Nat} {H H':Heap} {p:Nat} {D:List UInt8} {n:Nat} (h:z0x H p D n) (hx:Ext M H H') (h0:p ∉ M):z0x H' p D n:=by
 obtain ⟨c,h1,h2⟩:=h
 exact ⟨c,hx.get h1 h0,h2⟩
theorem u89:P.underlying zvp=some (.array 64 qy):=by kernel_rfl
theorem u22:P.underlying zh=some (.slice qy):=by kernel_rfl
theorem i5:(P.info? qy).map (·.size)=some 1:=by kernel_rfl
set_option maxHeartbeats 4000000 in
theorem z4i {w:World} {H:Heap} {p l lc:Nat} {a:Option Addr} {D L:List UInt8} (hw:w.heap=H) (hD:z0x H p D D.length) (hL:Cells H a (byteCells L)) (hl:l=L.length) (hc:l≤lc)
  (hne:L ≠ []→∀ x,a=some x→x.block ≠ p) (hR:Rounds H) (h0:p ≠ 0) (hlen:D.length+L.length < 4611686018427387904) :
  qj P zdq #[.pointer (some ⟨p,0,none⟩),.slice a l lc] w fun e w'=>e=.returned (.tuple #[])∧Ext [p] H w'.heap∧z0x w'.heap p (D++L) (D++L).length:=by
 subst hl
 refine zu7 ?_
 unfold zjq
 refine jl rfl ?_
 simp only [xq,jr,Nat.zero_add]
 obtain ⟨c,hp,hsz,hS,hB,h72,h73,ha1⟩:=hD
 refine jh hw hp h73 ?_
 refine xu ((D.length+L.length:Nat):Int) (by omega) (by omega) (by omega) ?_
 refine zcd hw hp (by omega) fun w1 hw1=>?_
 refine jd (fun s w=>∃ (k:Nat) (H':Heap),k≤L.length∧s.2.1=L.length - k∧s.2.1≤s.2.2∧Cells H' s.1 (byteCells (L.drop k))∧(L ≠ []→∀ x,s.1=some x→x.block ≠ p)∧w.heap=H'∧Ext [p] H H' ∧
   z0x H' p (D++L.take k) (D.length+L.length)) (fun s _=>s.2.1) ?_ ?_
 ·refine ⟨0,_,by omega,by simp,hc,?_,hne,hw1,Ext.set _ (by simp),_,qw hp,by simpa using hsz,?_,?_,?_,?_,ha1.set rfl⟩
  ·exact hL.ext (Ext.set (M:=[p]) _ (by simp)) (fun x hx hv=>by simpa using hne (by rintro rfl;exact hv rfl) x hx)
  ·simp only [List.take_zero,List.append_nil]
   intro i hi
   rw [Array.getElem?_setIfInBounds_ne (by omega)]
   exact hS i hi
  ·simp only [List.take_zero,List.append_nil]
   intro i hi
   rw [Array.getElem?_setIfInBounds_ne (by omega)]
   exact hB i hi
  ·simp only [List.take_zero,List.append_nil]
   rw [Array.getElem?_setIfInBounds_ne (by omega)]
   exact h72
  ·simp [hsz]
 clear hw1 hp hsz hS hB h72 h73 hL ha1
 rintro ⟨sa,sl,sc⟩ w2 ⟨k,H2,hk,hsl,hsc,hC,hnb,hw2,hx,c2,hp2,hsz2,hS2,hB2,h72,h73,ha2⟩
 simp only at hsl hsc hC hnb
 have hEl:(D++L.take k).length=D.length+k:=by simp;omega
 refine zq (fun hgt=>?_) (fun hle=>?_)
 ·have hlt:k < L.length:=by simp only at hgt;omega
  have hnb:=hnb (by rintro rfl;simp at hlt)
  refine zac ?_
  refine jw hw2 fun w3 hw3=>?_
  refine jh hw3 hp2 h72 ?_
  generalize hu:(D++L.take k).length % 64=u at *
  generalize hq:(D++L.take k).length / 64=q at *
  have hu64:u < 64:=by omega
  have hEq:D.length+k=64 * q+u:=by omega
  refine qm (s:=.slc) (some ⟨p,8+u,none⟩,64 - u,64 - u) ?_ ?_
  ·rw [zdw u89 i5 (.yes rfl) .no (by omega) (by omega),if_neg (by omega),jr]
   simp [Sh.val]
  generalize hn:min sl (64 - u)=n
  have hnl:n≤L.length - k:=by omega
  have hX:((L.drop k).take n).length=n:=by simp;omega
  obtain ⟨w4,hrun,hcm4,hw4⟩:=qg5 (P:=P) (w:=w3) (st:=zh) (xt:=zh) (ty:=zdf) (od:=8+u) (dl:=64 - u) (dc:=64 - u) (sl:=sl) (sc:=sc) (vs:=byteCells ((L.drop k).take n)) u22 i5 hw3
   (by rw [← zfw];exact hC.take n) (by simp only [jf,hX];omega) vg hp2 (by simp only [jf,hX];omega)
  rw [hn] at hrun
  refine zad ((n:Nat):Int) w4 hrun ?_ hcm4
  generalize hXX:(L.drop k).take n=X at *
  have hE':D++L.take (k+n)=(D++L.take k)++X:=by rw [← hXX,List.append_assoc,← List.take_add]
  have hp4:(H2.setIfInBounds p (.cells (setCells c2 (8+u) (byteCells X)) zas (0,0)))[p]?=some (.cells (setCells c2 (8+u) (byteCells X)) zas (0,0)):=qw hp2
  have hg:∀ i,(setCells c2 (8+u) (byteCells X))[i]?=if 8+u≤i∧i < 8+u+n then (byteCells X)[i - (8+u)]? else c2[i]?:=by
   intro i;rw [zgt (by simp only [jf];omega)];simp only [jf,hX]
  have hS4:Words (setCells c2 (8+u) (byteCells X)) 0 (Sha.blocks (D++L.take k) q) 8:=fun i hi=>by rw [hg,if_neg (by omega)];exact hS2 i hi
  have hB4:Bytes (setCells c2 (8+u) (byteCells X)) 8 (fun i=>Sha.nth (D++L.take (k+n)) (64 * q+i)) (u+n):=by
   intro i hi
   rw [hg,hE']
   by_cases hiu:i < u
   ·rw [if_neg (by omega),hB2 i hiu]
    simp only
    rw [zhm (D:=D++L.take k) (E:=X) (by omega)]
   ·rw [if_pos (by omega),zdv (by omega)]
    simp only
    rw [z4x (D:=D++L.take k) (E:=X) (by omega)]
    have:8+i - (8+u)=64 * q+i - (D++L.take k).length:=by omega
    rw [this]
    rfl
  refine jw hw4 fun w5 hw5=>?_
  refine jh (t:=((u:Nat):Int)) hw5 hp4 (by rw [hg,if_neg (by omega)];exact h72) ?_
  refine xu ((u+n:Nat):Int) (by omega) (by omega) (by omega) ?_
  have hsl5:∀ w,(Instr.sliceAt zh (.slice sa sl sc) (some (.int .i64 (n:Int))) none none).run P w=.ok (.slice (if sc=n then sa else sa.map (·.add (n * 1))) (sl - n) (sc - n)) w :=
   fun w=>zaq u22 i5 (.yes rfl) .no (by omega) (by omega)
  refine qm (s:=.slc) (if sc=n then sa else sa.map (·.add (n * 1)),sl - n,sc - n) (hsl5 _) ?_
  refine zcd hw5 hp4 (by simp;omega) fun w6 hw6=>?_
  refine ⟨qm (s:=.slc) (if sc=n then sa else sa.map (·.add (n * 1)),sl - n,sc - n) (hsl5 _) rfl,?_⟩
  rw [set_set] at hw6
  have hp6:(H2.setIfInBounds p (.cells ((setCells c2 (8+u) (byteCells X)).setIfInBounds 72 (.int .i64 ((u+n:Nat):Int))) zas (0,0)))[p]?=some (.cells ((setCells c2 (8+u) (byteCells X)).setIfInBounds 72 (.int .i64 ((u+n:Nat):Int))) zas (0,0)):=qw hp2
  have ha6:zpf ((setCells c2 (8+u) (byteCells X)).setIfInBounds 72 (.int .i64 ((u+n:Nat):Int))):=(ha2.setCells vg).set rfl
  generalize hc6:(setCells c2 (8+u) (byteCells X)).setIfInBounds 72 (.int .i64 ((u+n:Nat):Int))=c6 at *
  have hsz6:c6.size=74:=by rw [← hc6];simp;omega
  have h726:c6[72]?=some (.int .i64 ((u+n:Nat):Int)):=by rw [← hc6];simp [hsz2]
  have hg6:∀ i,i ≠ 72→c6[i]?=(setCells c2 (8+u) (byteCells X))[i]?:=fun i hi=>by rw [← hc6,Array.getElem?_setIfInBounds_ne (Ne.symm hi)]
  have hS6:Words c6 0 (Sha.blocks (D++L.take k) q) 8:=fun i hi=>by rw [hg6 _ (by omega)];exact hS4 i hi
  have hB6:Bytes c6 8 (fun i=>Sha.nth (D++L.take (k+n)) (64 * q+i)) (u+n):=fun i hi=>by rw [hg6 _ (by omega)];exact hB4 i hi
  have h736:c6[73]?=some (.int .i64 ((D.length+L.length:Nat):Int)):=by rw [hg6 _ (by omega),hg,if_neg (by omega)];exact h73
  have hx6:Ext [p] H2 (H2.setIfInBounds p (.cells c6 zas (0,0))):=Ext.set _ (by simp)
  have hE'l:(D++L.take (k+n)).length=D.length+k+n:=by simp;omega
  have hC6:Cells (H2.setIfInBounds p (.cells c6 zas (0,0))) (if sc=n then sa else sa.map (·.add (n * 1))) (byteCells (L.drop (k+n))):=by
   have:=(hC.ext hx6 (fun x hx _=>by simpa using hnb x hx)).drop n sc (by simp;omega)
   rw [zfy,List.drop_drop] at this
   rw [Nat.mul_one]
   exact this
  have hnb6:∀ x,(if sc=n then sa else sa.map (·.add (n * 1)))=some x→x.block ≠ p:=by
   intro x hx'
   split at hx'
   ·exact hnb x hx'
   ·cases sa with
    | none=>simp at hx'
    | some y =>
     simp only [Option.map_some,Option.some.injEq] at hx'
     subst hx'
     have:=hnb y rfl
     unfold Addr.add
     split <;> exact this
  refine jh hw6 hp6 h726 ?_
  refine zb3 (fun h64=>?_) (fun hn64=>?_)
  ·have h64:u+n=64:=by omega
   refine qm (s:=.slc) (some ⟨p,8,none⟩,64,64) ?_ ?_
   ·rw [zdw u89 i5 .no .no (by omega) (by omega),if_neg (by omega),jr]
    rfl
   obtain ⟨rc,rT,rfr,hr1,hr2⟩:=(hR.ext hx (by simp;omega)).ext hx6 (by simp;omega)
   refine zl (qn9 (l:=64) (lc:=64) hw6 hp6 hsz6 hS6 hp6 (by rw [← h64];exact hB6) (by omega) hr1 hr2 h0) ?_
   rintro e w7 ⟨rfl,hx7,c7,hp7,hsz7,hS7,hold7⟩
   refine ⟨(),rfl,?_⟩
   refine zcd rfl hp7 (by omega) fun w8 hw8=>?_
   refine ⟨⟨k+n,_,by omega,by simp only;omega,by simp only;omega,hC6.ext (hx7.trans (Ext.set (M:=[p]) _ (by simp))) (fun x hx _=>by simpa using hnb6 x hx),fun _=>hnb6,hw8,(hx.trans hx6).trans (hx7.trans (Ext.set _ (by simp))),_,qw hp7,by simpa using hsz7,?_,?_,?_,?_,zpf.set ?_ rfl⟩,?_⟩
   ·have e1:(D++L.take (k+n)).length / 64=q+1:=by omega
    rw [e1]
    simp only [Sha.blocks]
    rw [show Sha.blocks (D++L.take (k+n)) q=Sha.blocks (D++L.take k) q from by rw [hE'];exact zoj q (by omega)]
    intro i hi
    rw [Array.getElem?_setIfInBounds_ne (by omega)]
    exact hS7 i hi
   ·have e1:(D++L.take (k+n)).length % 64=0:=by omega
    rw [e1]
    intro i hi;omega
   ·have e1:(D++L.take (k+n)).length % 64=0:=by omega
    rw [e1]
    simp [hsz7]
   ·rw [Array.getElem?_setIfInBounds_ne (by omega),hold7 _ (by omega)]
    exact h736
   ·intro i v hv
    by_cases hi:i < 8
    ·rw [hS7.at i hi] at hv;cases hv;rfl
    ·rw [hold7 i (by omega)] at hv;exact ha6 i v hv
   ·simp only;omega
  ·have hlt64:u+n < 64:=by omega
   have e1:(D++L.take (k+n)).length / 64=q:=by omega
   have e2:(D++L.take (k+n)).length % 64=u+n:=by omega
   refine ⟨⟨k+n,_,by omega,by simp only;omega,by simp only;omega,hC6,fun _=>hnb6,hw6,hx.trans hx6,_,hp6,hsz6,?_,?_,?_,h736,ha6⟩,?_⟩
   ·rw [e1,show Sha.blocks (D++L.take (k+n)) q=Sha.blocks (D++L.take k) q from by rw [hE'];exact zoj q (by omega)]
    exact hS6
   ·rw [e1,e2];exact hB6
   ·rw [e2];exact h726
   ·simp only;omega
 ·have hkl:k=L.length:=by simp only at hle;omega
  subst hkl
  rw [List.take_length] at *
  refine ⟨trivial,by rw [hw2];exact hx,?_⟩
  rw [hw2]
  exact ⟨c2,hp2,hsz2,hS2,hB2,h72,by rw [List.length_append];exact h73,ha2⟩
def c91:Array Value:=((W32 Sha.init 8).toList++List.replicate 64 (Value.int .u8 0)++[Value.int .i64 0,Value.int .i64 0]).toArray
theorem qcd (w:World):(Instr.build jo #[(0,.int .u32 1779033703),(1,.int .u32 3144134277),(2,.int .u32 1013904242),(3,.int .u32 2773480762),(4,.int .u32 1359893119),(5,.int .u32 2600822924),(6,.int .u32 528734635),(7,.int .u32 1541459225)]).run P w=.ok (.agg (W32 Sha.init 8)) w:=by
 kernel_rfl
theorem qk0 (w:World):(Instr.build zas #[(0,.agg (W32 Sha.init 8))]).run P w=.ok (.agg c91) w:=by kernel_rfl
theorem u65:P.underlying jo=some (.array 8 zqm):=by kernel_rfl
theorem u64:P.underlying zqm=some (.int .u32):=by kernel_rfl
theorem i64:(P.info? zqm).map (·.size)=some 1:=by kernel_rfl
theorem u92:P.underlying zm2=some (.array 8 qy):=by kernel_rfl
theorem qdj:zc P zf=(List.replicate 32 (Value.int .u8 0)).toArray:=by kernel_rfl
theorem qne:(zc P zas).size=74:=by kernel_rfl
theorem qpv:zc P zm2=(List.replicate 8 (Value.int .u8 0)).toArray:=by kernel_rfl
theorem qnf:P.cellsOf zas=74:=by kernel_rfl
theorem z2c:P.cellsOf zf=32:=by kernel_rfl
theorem qoe (x:Int) (w:World):(Instr.buildSlice zh 1 #[(0,.int .u8 x)]).run P w=.ok (.slice (some ⟨w.heap.size,0,none⟩) 1 1) { w with heap:=w.heap.push (.cells #[.int .u8 x] qy) }:=by kernel_rfl
theorem new_c {w:World} {H:Heap} (hw:w.heap=H):qj P zum #[] w fun e w'=>e=.returned (.pointer (some ⟨H.size,0,none⟩))∧w'.heap=H.push (.cells c91 zas)∧z0x w'.heap H.size [] 0:=by
 refine qew ?_
 unfold z0a
 refine qm (s:=.any) _ (qcd w) ?_
 refine qm (s:=.any) _ (qk0 w) ?_
 refine jv hw fun w1 hw1=>?_
 refine ⟨rfl,hw1,?_⟩
 rw [hw1]
 refine ⟨c91,zn,rfl,?_,?_,rfl,rfl,?_⟩
 ·intro i hi
  match i,hi with
  | 0,_=>rfl
  | 1,_=>rfl
  | 2,_=>rfl
  | 3,_=>rfl
  | 4,_=>rfl
  | 5,_=>rfl
  | 6,_=>rfl
  | 7,_=>rfl
 ·intro i hi;simp at hi
 ·intro i v hv
  have:v ∈ c91.toList:=by
   have:=Array.mem_of_getElem? hv
   exact Array.mem_toList_iff.2 this
  simp only [c91,List.mem_append,List.mem_replicate,List.mem_cons] at this
  rcases this with (h | ⟨_,rfl⟩) | rfl | rfl | h
  ·exact zx8 v h
  ·rfl
  ·rfl
  ·rfl
  ·cases h
theorem qpl {c:Array Value} {i:Nat} {v:Value} (hc:c[i]?=some v) (hi:i < 8) (w:World):(Instr.index jo (.agg c) (.int .i64 (i:Int))).run P w=.ok v w:=by
 have hag:(isAgg 64).run P w=.ok false w:=by simp [isAgg,qx u64]
 have h1:(i:Int) < ((8:Nat):Int):=by omega
 simp only [Instr.index,asIntOf,Sem.run_bind,Sem.run_pure,Result.andThen_ok,qx u65]
 rw [if_pos ⟨by omega,h1⟩]
 simp [zbm i64,part,hag,hc]
set_option maxHeartbeats 4000000 in
theorem qmx {w:World} {H:Heap} {p:Nat} {D:List UInt8} (hw:w.heap=H) (hD:z0x H p D D.length) (hR:Rounds H) (hlen:D.length < 1152921504606846976) :
  qj P zl6 #[.pointer (some ⟨p,0,none⟩)] w fun e w'=>e=.returned (arr (Sha.sum D))∧Ext [] H w'.heap:=by
 refine zxz ?_
 unfold zl5
 refine jv hw fun w1 hw1=>?_
 refine zac ?_
 refine jl rfl ?_
 simp only [xq]
 have hH0:0 < H.size:=by obtain ⟨_,_,_,h,_⟩:=hR;exact lt_of_get h
 obtain ⟨c,hp,hsz,hS,hB,h72,h73,ha⟩:=hD
 have hpl:=lt_of_get hp
 refine je hw1 (zeg hp) hsz ?_
 refine jv hw1 fun w2 hw2=>?_
 refine zbj (qnf.trans (by simpa [Value.cells] using hsz.symm)) (by simp only [Value.cells];omega) ha.one hw2 zn (by rw [qne];simp [Value.cells];omega) fun w3 hw3=>?_
 rw [show setCells (zc P zas) 0 (Value.cells (.agg c)).toList=c from by rw [zan (by rw [qne];simpa [Value.cells] using hsz)];simp [Value.cells]] at hw3
 generalize hb3:(H.push (Obj.cells (zc P zf) zf)).size=b3 at *
 have hb3':b3=H.size+1:=by rw [← hb3];simp
 generalize hH3:((H.push (Obj.cells (zc P zf) zf)).push (Obj.cells (zc P zas) zas)).setIfInBounds b3 (Obj.cells c zas (0,0))=H3 at *
 have hx3:Ext [] H H3:=by rw [← hH3];exact ((Ext.push _).push_own).set_own (.inl (by omega))
 have hp3:H3[b3]?=some (.cells c zas (0,0)):=by rw [← hH3];exact qw (by rw [← hb3];exact zn)
 have h23:H3[H.size]?=some (.cells (zc P zf) zf (0,0)):=by rw [← hH3];exact zh3 (zeg zn) (by omega)
 have hD3:z0x H3 b3 D D.length:=⟨c,hp3,hsz,hS,hB,h72,h73,ha⟩
 have hR3:=hR.ext hx3 (by simp)
 refine jh hw3 hp3 h73 ?_
 refine zp0 (by omega) (by omega) ?_
 refine qkd ((8 * D.length:Nat):Int) (by omega) (by omega) (by omega) ?_
 refine zad (s:=.slc) (some ⟨H3.size,0,none⟩,1,1) _ (by rw [qoe 128 w3,hw3];rfl) ?_
 have hx4:Ext [] H3 (H3.push (Obj.cells #[Value.int .u8 128] qy)):=.push _
 have hb3l:=lt_of_get hp3
 refine zl (z4i (w:={ w3 with heap:=H3.push (Obj.cells #[Value.int .u8 128] qy) }) (L:=[128]) rfl (hD3.ext hx4 (by simp)) (znf (H:=H3.push (Obj.cells #[Value.int .u8 128] qy)) zn (by simp) ?_) rfl (by simp) ?_ (hR3.ext hx4 (by simp)) (by omega) (by simp;omega)) ?_
 ·intro i hi
  obtain rfl:i=0:=by simp at hi;omega
  rfl
 ·intro _ x hx;cases hx;simp only;omega
 rintro e w5 ⟨rfl,hx5,hD5⟩
 refine ⟨(),rfl,?_⟩
 have hx35:Ext [b3] H3 w5.heap:=(hx4.mono (by simp)).trans hx5
 clear hx5 hx4
 refine ztz (fun m _ w=>∃ (j:Nat) (H':Heap),j+m=(119 - D.length % 64) % 64∧w.heap=H'∧Ext [b3] H3 H'∧z0x H' b3 (D++[128]++List.replicate j 0) (D++[128]++List.replicate j 0).length)
  ((119 - D.length % 64) % 64) ⟨0,_,by omega,rfl,hx35,by simpa using hD5⟩ ?_
 clear hx35 hD5
 rintro m _ w6 ⟨j,H6,hj,hw6,hx6,c6,hp6,hsz6,hS6,hB6,h726,h736,ha6⟩ K hK
 have hl6:(D++[128]++List.replicate j 0).length=D.length+1+j:=by simp only [List.length_append,List.length_singleton,List.length_replicate]
 rw [hl6] at h726 h736
 refine jh hw6 hp6 h726 ?_
 refine zb1 (fun hne=>?_) (fun h56=>?_)
 ·have hjlt:j < (119 - D.length % 64) % 64:=by omega
  have hx7:Ext [b3] H6 (H6.push (Obj.cells #[Value.int .u8 0] qy)):=.push _
  have hb3l6:=lt_of_get hp6
  refine zad (s:=.slc) (some ⟨H6.size,0,none⟩,1,1) _ (by rw [qoe 0 w6,hw6];rfl) ?_
  refine zl (z4i (w:={ w6 with heap:=H6.push (Obj.cells #[Value.int .u8 0] qy) }) (D:=D++[128]++List.replicate j 0) (L:=[0]) rfl ⟨c6,zeg hp6,hsz6,hS6,hB6,by rw [hl6];exact h726,by rw [hl6];exact h736,ha6⟩
   (znf (H:=H6.push (Obj.cells #[Value.int .u8 0] qy)) zn (by simp) ?_) rfl (by simp) ?_ ((hR3.ext hx6 (by simp;omega)).ext hx7 (by simp;omega)) (by omega) (by rw [hl6];simp;omega)) ?_
  ·intro i hi
   obtain rfl:i=0:=by simp at hi;omega
   rfl
  ·intro _ x hx;cases hx;simp only;omega
  rintro e w8 ⟨rfl,hx8,hD8⟩
  refine ⟨(),rfl,?_⟩
  have hrep:D++[128]++List.replicate j 0++[0]=D++[128]++List.replicate (j+1) 0:=by
   rw [List.append_assoc,← List.replicate_succ']
  rw [hrep] at hD8
  exact hK (m - 1) _ _ (by omega) ⟨j+1,_,by omega,rfl,hx6.trans (hx7.trans hx8),hD8⟩
 have hjz:j=(119 - D.length % 64) % 64:=by omega
 subst hjz
 refine jv hw6 fun w7 hw7=>?_
 have hb3l6:=lt_of_get hp6
 refine jd (fun s w=>∃ (i:Nat) (H':Heap) (c5:Array Value),s=(i:Int)∧i≤8∧w.heap=H'∧Ext [] H6 H'∧H'[H6.size]?=some (.cells c5 zm2 (0,0))∧c5.size=8∧Bytes c5 0 (fun i=>UInt8.ofNat (8 * D.length / 2 ^ (56 - 8 * i))) i)
  (fun s _=>(8 - s).toNat) ⟨0,_,_,rfl,by omega,hw7,.push _,zn,by rw [qpv];simp,fun i hi=>by omega⟩ ?_
 rintro _ w8 ⟨i,H8,c5,rfl,hi,hw8,hx8,hp8,hsz8,hB8⟩
 refine zq (fun hlt=>?_) (fun hge=>?_)
 ·have hlt:i < 8:=by omega
  refine zfq ((8 * i:Nat):Int) (by omega) (by omega) (by omega) ?_
  refine zbu ((56 - 8 * i:Nat):Int) (by omega) (by omega) (by omega) ?_
  refine qmq (56 - 8 * i) rfl (by omega) ?_
  refine cv8 ?_
  refine zev i rfl (by omega) ?_
  refine zcd hw8 hp8 (by omega) fun w9 hw9=>?_
  refine xu ((i+1:Nat):Int) (by omega) (by omega) (by omega) ?_
  refine ⟨⟨i+1,_,_,rfl,by omega,hw9,hx8.set_own (.inl (Nat.le_refl _)),qw hp8,by simpa using hsz8,hB8.snoc (by omega) rfl⟩,by omega⟩
 have hi8:i=8:=by omega
 subst hi8
 refine qm (s:=.slc) (some ⟨H6.size,0,none⟩,8,8) (by rw [zdw u92 i5 .no .no (by omega) (by omega),if_neg (by omega),jr];rfl) ?_
 have hl6':(D++[128]++List.replicate ((119 - D.length % 64) % 64) (0:UInt8)).length=D.length+1+(119 - D.length % 64) % 64:=by simp only [List.length_append,List.length_singleton,List.length_replicate]
 refine zl (z4i (D:=D++[128]++List.replicate ((119 - D.length % 64) % 64) 0) (L:=Sha.be8 (D.length * 8)) hw8 ⟨c6,hx8.get hp6 (by simp),hsz6,hS6,hB6,by rw [hl6];exact h726,by rw [hl6];exact h736,ha6⟩
  (znf hp8 (by simp [Sha.be8];omega) ?_) (by simp [Sha.be8]) (by omega) ?_ ((hR3.ext hx6 (by simp;omega)).ext hx8 (by simp)) (by omega) (by rw [hl6];simp [Sha.be8];omega)) ?_
 ·intro i hi
  have hi:i < 8:=by simpa [Sha.be8] using hi
  rw [hB8 i hi]
  simp [Sha.be8,hi,Nat.mul_comm]
 ·intro _ x hx;cases hx;simp only;omega
 rintro e w9 ⟨rfl,hx9,hD9⟩
 refine ⟨(),rfl,?_⟩
 have hpad:D++[128]++List.replicate ((119 - D.length % 64) % 64) 0++Sha.be8 (D.length * 8)=Sha.pad D:=rfl
 rw [hpad] at hD9
 obtain ⟨c9,hp9,hsz9,hS9,_⟩:=hD9
 refine jv rfl fun w10 hw10=>?_
 refine zre hw10 (zeg hp9) (by omega) ?_
 rw [hS9.extract (by omega)]
 generalize hs:Sha.blocks (Sha.pad D) ((Sha.pad D).length / 64)=s at *
 have hx39:Ext [b3] H3 w9.heap:=hx6.trans ((hx8.mono (by simp)).trans hx9)
 refine jd (fun s' w=>∃ (i:Nat) (H':Heap) (c7:Array Value),s'=(i:Int)∧i≤8∧w.heap=H'∧Ext [] w9.heap H'∧H'[w9.heap.size]?=some (.cells c7 zf (0,0))∧c7.size=32∧Bytes c7 0 (Sha.out s) (4 * i))
  (fun s _=>(8 - s).toNat) ⟨0,_,_,rfl,by omega,hw10,.push _,zn,by rw [qdj];simp,fun i hi=>by omega⟩ ?_
 rintro _ w11 ⟨i,H11,c7,rfl,hi,hw11,hx11,hp11,hsz11,hB11⟩
 refine zq (fun hlt=>?_) (fun hge=>?_)
 ·have hlt:i < 8:=by omega
  refine qm (s:=.int .u32) _ (qpl (zm6.at i hlt) hlt _) ?_
  refine zfq ((4 * i:Nat):Int) (by omega) (by omega) (by omega) ?_
  refine zfq ((4 * i:Nat):Int) (by omega) (by omega) (by omega) ?_
  refine xu ((4 * i+1:Nat):Int) (by omega) (by omega) (by omega) ?_
  refine zfq ((4 * i:Nat):Int) (by omega) (by omega) (by omega) ?_
  refine xu ((4 * i+2:Nat):Int) (by omega) (by omega) (by omega) ?_
  refine zfq ((4 * i:Nat):Int) (by omega) (by omega) (by omega) ?_
  refine xu ((4 * i+3:Nat):Int) (by omega) (by omega) (by omega) ?_
  refine qif _ 24 rfl (by omega) ?_
  refine cvL _ ?_
  refine qif _ 16 rfl (by omega) ?_
  refine cvL _ ?_
  refine qif _ 8 rfl (by omega) ?_
  refine cvL _ ?_
  refine cvL _ ?_
  refine zev (4 * i) rfl (by omega) ?_
  refine zcd hw11 hp11 (by omega) fun w12 hw12=>?_
  refine zev (4 * i+1) rfl (by omega) ?_
  refine zcd hw12 (qw hp11) (by simp;omega) fun w13 hw13=>?_
  rw [set_set] at hw13
  refine zev (4 * i+2) rfl (by omega) ?_
  refine zcd hw13 (qw hp11) (by simp;omega) fun w14 hw14=>?_
  rw [set_set] at hw14
  refine zev (4 * i+3) rfl (by omega) ?_
  refine zcd hw14 (qw hp11) (by simp;omega) fun w15 hw15=>?_
  rw [set_set] at hw15
  refine xu ((i+1:Nat):Int) (by omega) (by omega) (by omega) ?_
  refine ⟨⟨i+1,_,_,rfl,by omega,hw15,hx11.set_own (.inl (Nat.le_refl _)),qw hp11,by simp;omega,?_⟩,by omega⟩
  have o0:Sha.out s (4 * i)=lo8 (s i >>> 24):=by
   unfold Sha.out;rw [show 4 * i / 4=i from by omega,show 4 * i % 4=0 from by omega]
  have o1:Sha.out s (4 * i+1)=lo8 (s i >>> 16):=by
   unfold Sha.out;rw [show (4 * i+1) / 4=i from by omega,show (4 * i+1) % 4=1 from by omega]
  have o2:Sha.out s (4 * i+2)=lo8 (s i >>> 8):=by
   unfold Sha.out;rw [show (4 * i+2) / 4=i from by omega,show (4 * i+2) % 4=2 from by omega]
  have o3:Sha.out s (4 * i+3)=lo8 (s i):=by
   unfold Sha.out;rw [show (4 * i+3) / 4=i from by omega,show (4 * i+3) % 4=3 from by omega];simp
  exact ((((hB11.snoc (by omega) o0.symm).snoc (by simp;omega) o1.symm).snoc (by simp;omega) o2.symm).snoc (by simp;omega) o3.symm)
 have hi8:i=8:=by omega
 subst hi8
 refine je hw11 hp11 hsz11 ?_
 have hc7:c7=B8 (Sha.out s) 32:=by
  have:=hB11.extract (by omega)
  rw [← this]
  exact (Array.extract_eq_self_of_le (by omega)).symm
 subst hc7
 have h211:H11[H.size]?=some (.cells (zc P zf) zf (0,0)):=hx11.get (hx39.get h23 (by simp;omega)) (by simp)
 refine zbj (z2c.trans (by simp [Value.cells])) (by simp [Value.cells]) qkf hw11 h211 (by rw [qdj];simp [Value.cells]) fun w12 hw12=>?_
 rw [show setCells (zc P zf) 0 (Value.cells (.agg (B8 (Sha.out s) 32))).toList=B8 (Sha.out s) 32 from by rw [zan (by rw [qdj];simp [Value.cells])];simp [Value.cells]] at hw12
 refine je hw12 (qw h211) (by simp) ?_
 refine ⟨?_,?_⟩
 ·unfold arr Sha.sum B8 byteCells
  rw [hs]
  simp
 ·rw [hw12]
  refine Ext.set_own ?_ (.inl (Nat.le_refl _))
  exact hx3.own (hx39.trans (hx11.mono (by simp))) (by simp;omega)
theorem zaf {L:List UInt8}:(Sha.sum L).length=32:=by simp [Sha.sum]
theorem za6 {L:List UInt8}:(arr L).cells.size=L.length:=by simp [arr,Value.cells,byteCells]
theorem qjt {w:World} {H:Heap} {a:Option Addr} {l lc:Nat} {L:List UInt8} (hw:w.heap=H) (hL:Cells H a (byteCells L)) (hl:l=L.length) (hc:l≤lc) (hR:Rounds H) (hlen:L.length < 1152921504606846976) :
  qj P zm9 #[.slice a l lc] w fun e w'=>e=.returned (arr (Sha.sum L))∧Ext [] H w'.heap:=by
 refine qfh ?_
 unfold zyx
 refine jv hw fun w1 hw1=>?_
 have hps:(H.push (Obj.cells (zc P zf) zf (0,0))).size=H.size+1:=by simp
 have hx1:Ext [] H (H.push (.cells (zc P zf) zf)):=.push _
 refine zl (new_c hw1) ?_
 rintro e w2 ⟨rfl,hw2,hD2⟩
 refine ⟨_,rfl,?_⟩
 have hx2:Ext [] H w2.heap:=by rw [hw2];exact hx1.push_own
 have h2:w2.heap[H.size]?=some (.cells (zc P zf) zf (0,0)):=by rw [hw2];exact zeg zn
 have hH0:0 < H.size:=by obtain ⟨_,_,_,h,_⟩:=hR;exact lt_of_get h
 refine zl (z4i (D:=[]) (L:=L) rfl hD2 (hL.ext hx2 (by simp)) hl hc (fun hne x hx=>by obtain ⟨y,hy,hlt⟩:=hL.lt (by simpa [byteCells] using hne);rw [hx] at hy;cases hy;omega) (hR.ext hx2 (by simp)) (by simp) (by simp;omega)) ?_
 rintro e w3 ⟨rfl,hx3,hD3⟩
 refine ⟨(),rfl,?_⟩
 rw [List.nil_append] at hD3
 have hx23:Ext [] H w3.heap:=hx2.own hx3 (by simp)
 have h3:w3.heap[H.size]?=some (.cells (zc P zf) zf (0,0)):=hx3.get h2 (by simp)
 refine zl (qmx rfl hD3 (hR.ext hx23 (by simp)) hlen) ?_
 rintro e w4 ⟨rfl,hx4⟩
 refine ⟨arr (Sha.sum L),rfl,?_⟩
 refine zbj (z2c.trans (by rw [za6,zaf])) (by rw [za6,zaf];omega) ?_ rfl (hx4.get h3 (by simp)) (by rw [qdj,za6,zaf];simp) fun w5 hw5=>?_
 ·intro v hv
  simp only [arr,Value.cells] at hv
  exact vg v hv
 rw [show setCells (zc P zf) 0 (Value.cells (arr (Sha.sum L))).toList=(byteCells (Sha.sum L)).toArray from by rw [zan (by rw [qdj,Array.length_toList,za6,zaf];simp)];simp [Value.cells,arr]] at hw5
 refine je hw5 (qw (hx4.get h3 (by simp))) (by simp [byteCells,zaf]) ?_
 exact ⟨rfl,by rw [hw5];exact (hx23.own hx4 (by simp)).set_own (.inl (Nat.le_refl _))⟩
end Go.Proofs.YtbmegmbnlajbbaaGreatDoor.Bl
